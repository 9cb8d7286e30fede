/-
  What is proved here: part 1 of the road to the claim (Frame, Frame2, Walk, Par, Par1, Par2, Par3, Step, Wp, Types, SelA, Lend, Sym, Frz, WpA, Mir, MirTree, Cnt, MirFlat, Nums, Codes0, Have0).
  No conditions.
-/
import Derived.Test.YtpjadlleefgcpaaGreatRnG0
import Derived.Attr
import Derived.Test.YtpjadlleefgcpaaGreatProg
import Derived.KernelRfl

set_option linter.unusedSimpArgs false
set_option linter.unusedVariables false
namespace Go.Abs
def Tag.ok (m:Nat):Tag→Bool
 | .tok t _=>decide (t<m)
 |_=>true
def Tag.cU (ts:List Nat):Tag→Tag
 | .tok t y=>match ts[t]? with|some t'=> .tok t' y|none=> .shared
 |g=>g
mutual
def D.ok (n m:Nat):D→Bool
 | .ptr o _=>decide (o<n)
 | .dz row _=>D.bK n m row
 | .slice g _ rows=>g.ok m && D.gS n m rows
 | .agg cs=>D.bK n m cs
 | .tuple ds=>D.bK n m ds
 | .fv _ o=>decide (o<n)
 | .gi _ cs=>D.bK n m cs
 | .fS o=>decide (o<n)
 | .eA _ o _ _=>decide (o<n)
 | .fw o _ _=>decide (o<n)
 |_=>true
def D.bK (n m:Nat):List D→Bool
 | []=>true
 |d::r=>D.ok n m d && D.bK n m r
def D.gS (n m:Nat):List (List D)→Bool
 | []=>true
 |d::r=>D.bK n m d && D.gS n m r
end
mutual
def D.cU (os ts:List Nat):D→D
 | .ptr o off=>match os[o]? with|some o'=> .ptr o' off|none=> .junk
 | .dz row off=> .dz (D.e7 os ts row) off
 | .slice g z rows=> .slice (g.cU ts) z (D.nV os ts rows)
 | .agg cs=> .agg (D.e7 os ts cs)
 | .tuple ds=> .tuple (D.e7 os ts ds)
 | .junk=> .junk
 | .int k x=> .int k x
 | .bool b=> .bool b
 | .str l=> .str l
 | .dS=> .dS
 | .val v=> .val v
 | .fv T o=>match os[o]? with|some o'=> .fv T o'|none=> .junk
 | .gi f cs=> .gi f (D.e7 os ts cs)
 | .fS o=>match os[o]? with|some o'=> .fS o'|none=> .junk
 | .eA z o g len=>match os[o]? with|some o'=> .eA z o' g len|none=> .junk
 | .fw o g off=>match os[o]? with|some o'=> .fw o' g off|none=> .junk
 | .ek z=> .ek z
def D.e7 (os ts:List Nat):List D→List D
 | []=> []
 |d::r=>D.cU os ts d::D.e7 os ts r
def D.nV (os ts:List Nat):List (List D)→List (List D)
 | []=> []
 |d::r=>D.e7 os ts d::D.nV os ts r
end
theorem fQ (os ts:List Nat) : ∀ l,D.e7 os ts l=l.map (D.cU os ts)
 | []=>by simp[D.e7]
 |d::r=>by simp[D.e7,fQ os ts r]
theorem B8 (os ts:List Nat) : ∀ l,D.nV os ts l=l.map (D.e7 os ts)
 | []=>by simp[D.nV]
 |d::r=>by simp[D.nV,B8 os ts r]
theorem x9 (n m:Nat) : ∀ l,D.bK n m l=l.all (D.ok n m)
 | []=>by simp[D.bK]
 |d::r=>by simp[D.bK,x9 n m r]
theorem Eg (n m:Nat) : ∀ l,D.gS n m l=l.all (D.bK n m)
 | []=>by simp[D.gS]
 |d::r=>by simp[D.gS,Eg n m r]
theorem vl {n m:Nat} {l:List D} (h:D.bK n m l=true) {i:Nat} {d:D} (e:l[i]? = some d):D.ok n m d=true:=by
 rw[x9]at h;exact List.all_eq_true.1 h d (List.mem_of_getElem? e)
theorem Yn {n m:Nat} {l:List (List D)} (h:D.gS n m l=true) {i:Nat} {d:List D} (e:l[i]? = some d):D.bK n m d=true:=by
 rw[Eg]at h;exact List.all_eq_true.1 h d (List.mem_of_getElem? e)
section
variable {M M0:Map} {s s0:St} {os ts:List Nat}
theorem iQ.B9 (kJ : ∀ (i:Nat) t,ts[i]? = some t→M0.be i=M.be t) (ht : ∀ (i t:Nat),ts[i]? = some t→s0.aw[i]? = s.aw[t]?) (hlen:s0.aw.length=ts.length) {g:Tag} {z len cap:Nat} {base:Option (Nat×Nat)} (pK:g.ok ts.length=true) (h:iQ M s (g.cU ts) z len base cap):iQ M0 s0 g z len base cap:=by
 cases g with
 |full=>exact h
 |shared=>exact h
 |tok t y=>
  have hD:t<ts.length:=by simpa[Tag.ok]using pK
  have e:ts[t]? = some ts[t]:=List.getElem?_eq_getElem hD
  simp only[Tag.cU,e]at h
  obtain⟨h1,h2⟩:=h
  refine⟨by omega,fun n hn=>?_⟩
  rw[ht t _ e]at hn
  rw[kJ t _ e]
  exact h2 n hn
theorem RD.B9 (hG:M0.G=M.G) (jo : ∀ (i:Nat) o,os[i]? = some o→M0.loc i=M.loc o) (iZ:s0.ah.length=os.length)
 (kJ : ∀ (i:Nat) t,ts[i]? = some t→M0.be i=M.be t) (ht : ∀ (i t:Nat),ts[i]? = some t→s0.aw[i]? = s.aw[t]?) (hlen:s0.aw.length=ts.length) {d:D} {v:Value} (h:RD M s d v) :
 ∀ d0:D,d0.cU os ts=d→d0.ok os.length ts.length=true→RD M0 s0 d0 v:=by
 have mY : ∀ (i:Nat) o,os[i]? = some o→M0.mu i=M.mu o:=fun i o h=>congrArg Prod.fst (jo i o h)
 have tag:=fun {g z len cap base}=>@iQ.B9 M M0 s s0 ts kJ ht hlen g z len cap base
 induction h with
 | junk v=>
  intro d0 e ok
  cases d0<;>simp only[D.cU]at e<;>try (cases e;done)
  ·exact .junk v
  ·rename_i o off
   have hD:o<os.length:=by simpa[D.ok]using ok
   rw[List.getElem?_eq_getElem hD]at e;cases e
  ·rename_i T o
   have hD:o<os.length:=by simpa[D.ok]using ok
   rw[List.getElem?_eq_getElem hD]at e;cases e
  ·rename_i o
   have hD:o<os.length:=by simpa[D.ok]using ok
   rw[List.getElem?_eq_getElem hD]at e;cases e
  ·rename_i z o g len
   have hD:o<os.length:=by simpa[D.ok]using ok
   rw[List.getElem?_eq_getElem hD]at e;cases e
  ·rename_i o g off
   have hD:o<os.length:=by simpa[D.ok]using ok
   rw[List.getElem?_eq_getElem hD]at e;cases e
 |ek z a=>intro d0 e ok;cases d0<;>simp only[D.cU]at e<;>first|(cases e;exact .ek _ _)|(split at e<;>cases e)|cases e
 |eA z o g len b cap A ho hm ha hl=>
  intro d0 e ok
  cases d0<;>simp only[D.cU]at e<;>first|(cases e;done)|skip
  all_goals try (split at e<;>cases e;done)
  rename_i z0 o0 g0 FB
  have hD:o0<os.length:=by simpa[D.ok]using ok
  rw[List.getElem?_eq_getElem hD]at e
  cases e
  exact RD.eA (s:=s0) z o0 g len b cap A (by omega) ((congrArg Prod.snd (jo o0 _ (List.getElem?_eq_getElem hD))).trans hm) ha hl
 |fw z o g off b cap A ho hm ha=>
  intro d0 e ok
  cases d0<;>simp only[D.cU]at e<;>first|(cases e;done)|skip
  all_goals try (split at e<;>cases e;done)
  rename_i o0 g0 TC
  have hD:o0<os.length:=by simpa[D.ok]using ok
  rw[List.getElem?_eq_getElem hD]at e
  cases e
  exact RD.fw (s:=s0) z o0 g off b cap A (by omega) ((congrArg Prod.snd (jo o0 _ (List.getElem?_eq_getElem hD))).trans hm) ha
 |val v hv=>intro d0 e ok;cases d0<;>simp only[D.cU]at e<;>first|(cases e;exact .val _ hv)|(split at e<;>cases e)|cases e
 |fv T o v ho ht hv=>
  intro d0 e ok
  cases d0<;>simp only[D.cU]at e<;>first|(split at e<;>cases e;done)|skip
  all_goals try (cases e;done)
  rename_i T0 o0
  have hD:o0<os.length:=by simpa[D.ok]using ok
  rw[List.getElem?_eq_getElem hD]at e
  cases e
  have hl:=jo o0 _ (List.getElem?_eq_getElem hD)
  exact .fv _ o0 v (by omega) ((congrArg (fun x=>x.2.ty?) hl).trans ht) (by rw[mY o0 _ (List.getElem?_eq_getElem hD)];exact hv)
 |int k x=>intro d0 e ok;cases d0<;>simp only[D.cU]at e<;>first|(cases e;exact .int _ _)|(split at e<;>cases e)|cases e
 |bool b=>intro d0 e ok;cases d0<;>simp only[D.cU]at e<;>first|(cases e;exact .bool _)|(split at e<;>cases e)|cases e
 |str l=>intro d0 e ok;cases d0<;>simp only[D.cU]at e<;>first|(cases e;exact .str _)|(split at e<;>cases e)|cases e
 |dS=>intro d0 e ok;cases d0<;>simp only[D.cU]at e<;>first|(cases e;exact .dS)|(split at e<;>cases e)|cases e
 |fS o ho hm=>
  intro d0 e ok
  cases d0<;>simp only[D.cU]at e<;>first|(cases e;done)|skip
  all_goals try (split at e<;>cases e;done)
  rename_i o0
  have hD:o0<os.length:=by simpa[D.ok]using ok
  rw[List.getElem?_eq_getElem hD]at e
  cases e
  rw[← mY o0 _ (List.getElem?_eq_getElem hD)]
  exact RD.fS (s:=s0) o0 (by omega) ((congrArg Prod.snd (jo o0 _ (List.getElem?_eq_getElem hD))).trans hm)
 |gi f ds vs hl _ ih=>
  intro d0 e ok
  cases d0<;>simp only[D.cU]at e<;>first|(split at e<;>cases e;done)|skip
  all_goals try (cases e;done)
  rename_i f0 QC
  simp only[D.gi.injEq]at e
  obtain⟨rfl,rfl⟩:=e
  simp only[D.ok]at ok
  rw[fQ]at hl ih
  refine .gi _ QC vs (by simpa using hl) (fun i d v e1 e2=>ih i _ v (by rw[List.getElem?_map,e1];rfl) e2 d rfl (vl ok e1))
 |ptr o off ho hm=>
  intro d0 e ok
  cases d0<;>simp only[D.cU]at e<;>first|(cases e;done)|skip
  all_goals try (split at e<;>cases e;done)
  rename_i o0 TC
  have hD:o0<os.length:=by simpa[D.ok]using ok
  rw[List.getElem?_eq_getElem hD]at e
  cases e
  rw[← mY o0 _ (List.getElem?_eq_getElem hD)]
  exact RD.ptr (s:=s0) o0 _ (by omega) (by rw[show M0.ob o0=_ from congrArg Prod.snd (jo o0 _ (List.getElem?_eq_getElem hD))];exact hm)
 |dz row off b k h1 h2 ih=>
  intro d0 e ok
  cases d0<;>simp only[D.cU]at e<;>first|(split at e<;>cases e;done)|skip
  all_goals try (cases e;done)
  rename_i ajq TC
  simp only[D.dz.injEq]at e
  obtain⟨rfl,rfl⟩:=e
  simp only[D.ok]at ok
  rw[fQ]at h1 ih
  refine .dz ajq TC b k (fun i d e=>?_) (fun i d u e eu=>?_)
  ·rw[hG];exact h1 i _ (by rw[List.getElem?_map,e];rfl)
  ·rw[hG]at eu;exact ih i _ u (by rw[List.getElem?_map,e];rfl) eu d rfl (vl ok e)
 |iA g z cap hc pL=>
  intro d0 e ok
  cases d0<;>simp only[D.cU]at e<;>first|(split at e<;>cases e;done)|skip
  all_goals try (cases e;done)
  rename_i g0 z0 kl
  simp only[D.slice.injEq]at e
  obtain⟨rfl,rfl,e⟩:=e
  have:kl = []:=by cases kl<;>simp[D.nV]at e;rfl
  subst this
  simp only[D.ok,Bool.and_eq_true]at ok
  exact .iA g0 z0 cap hc (tag ok.1 pL)
 | lB z a cap=>
  intro d0 e ok
  cases d0<;>simp only[D.cU]at e<;>first|(split at e<;>cases e;done)|skip
  all_goals try (cases e;done)
  rename_i g0 z0 kl
  simp only[D.slice.injEq]at e
  obtain⟨hg,rfl,e⟩:=e
  have:kl = []:=by cases kl<;>simp[D.nV]at e;rfl
  subst this
  simp only[D.ok,Bool.and_eq_true]at ok
  have:g0 = .shared:=by
   cases g0 with
   |tok t y=>
    have ht:t<ts.length:=by simpa[Tag.ok]using ok.1
    simp[Tag.cU,ht]at hg
   |shared=>rfl
   |_=>simp[Tag.cU]at hg
  subst this
  exact .lB _ a cap
 | slice g z rows b k cap hl hs h1 h2 pL ih=>
  intro d0 e ok
  cases d0<;>simp only[D.cU]at e<;>first|(split at e<;>cases e;done)|skip
  all_goals try (cases e;done)
  rename_i g0 z0 kl
  simp only[D.slice.injEq]at e
  obtain⟨rfl,rfl,rfl⟩:=e
  simp only[D.ok,Bool.and_eq_true]at ok
  rw[B8]at hl hs h1 ih pL
  simp only[B8,List.length_map]at hl pL ⊢
  have dZ : ∀ (i:Nat) (row:List D),kl[i]? = some row→(kl.map (D.e7 os ts))[i]? = some (D.e7 os ts row):=fun i row e=>by rw[List.getElem?_map,e];rfl
  have gW : ∀ (row:List D) (j:Nat) (d:D),row[j]? = some d→(D.e7 os ts row)[j]? = some (D.cU os ts d):=fun row j d e=>by rw[fQ,List.getElem?_map,e];rfl
  refine .slice g0 z0 kl b k cap hl (fun row hr=>?_) (fun i row j d e1 e2=>?_) (fun i row j d u e1 e2 eu=>?_) (tag ok.1 pL)
  ·have:=hs (D.e7 os ts row) (List.mem_map.2 ⟨row,hr,rfl⟩)
   rwa [fQ,List.length_map]at this
  ·rw[hG];exact h1 i _ j _ (dZ i row e1) (gW row j d e2)
  ·rw[hG]at eu;exact ih i _ j _ u (dZ i row e1) (gW row j d e2) eu d rfl (vl (Yn ok.2 e1) e2)
 |agg cells vs hl h1 _ ih=>
  intro d0 e ok
  cases d0<;>simp only[D.cU]at e<;>first|(split at e<;>cases e;done)|skip
  all_goals try (cases e;done)
  rename_i QC
  simp only[D.agg.injEq]at e
  subst e
  simp only[D.ok]at ok
  rw[fQ]at hl ih
  refine .agg QC vs (by simpa using hl) h1 (fun i d v e1 e2=>ih i _ v (by rw[List.getElem?_map,e1];rfl) e2 d rfl (vl ok e1))
 |tuple ds vs hl _ ih=>
  intro d0 e ok
  cases d0<;>simp only[D.cU]at e<;>first|(split at e<;>cases e;done)|skip
  all_goals try (cases e;done)
  rename_i QC
  simp only[D.tuple.injEq]at e
  subst e
  simp only[D.ok]at ok
  rw[fQ]at hl ih
  refine .tuple QC vs (by simpa using hl) (fun i d v e1 e2=>ih i _ v (by rw[List.getElem?_map,e1];rfl) e2 d rfl (vl ok e1))
theorem RD.cU (hG:M0.G=M.G) (jo : ∀ i,i<s0.ah.length→∃ o,os[i]? = some o∧o<s.ah.length∧M.loc o=M0.loc i)
 (kJ : ∀ i,i<s0.aw.length→∃ t,ts[i]? = some t∧t<s.aw.length∧s.aw[t]? = s0.aw[i]? ∧M.be t=M0.be i) {d:D} {v:Value} (h:RD M0 s0 d v):RD M s (d.cU os ts) v:=by
 have tag : ∀ {g:Tag} {z len cap:Nat} {base:Option (Nat×Nat)},iQ M0 s0 g z len base cap→iQ M s (g.cU ts) z len base cap:=by
  intro g z len cap base h
  cases g with
  |full=>exact h
  |shared=>exact h
  |tok t y=>
   obtain⟨h1,h2⟩:=h
   obtain⟨t',e,hD,IE,hb⟩:=kJ t h1
   simp only[Tag.cU,e]
   refine⟨hD,fun n hn=>?_⟩
   rw[hb]
   exact h2 n (IE ▸ hn)
 induction h with
 |junk v=>simp only[D.cU];exact .junk v
 |int k x=>simp only[D.cU];exact .int k x
 |bool b=>simp only[D.cU];exact .bool b
 |str l=>simp only[D.cU];exact .str l
 |dS=>simp only[D.cU];exact .dS
 |ptr o off ho hk=>
  obtain⟨o',e,hD,hm⟩:=jo o ho
  simp only[D.cU,e]
  have hb:M.ob o'=M0.ob o:=congrArg Prod.snd hm
  have hm:M.mu o'=M0.mu o:=congrArg Prod.fst hm
  rw[← hm]
  exact .ptr o' off hD (by rw[hb];exact hk)
 |fS o ho hk=>
  obtain⟨o',e,hD,hm⟩:=jo o ho
  simp only[D.cU,e]
  have hb:M.ob o'=M0.ob o:=congrArg Prod.snd hm
  have hm:M.mu o'=M0.mu o:=congrArg Prod.fst hm
  rw[← hm]
  exact .fS o' hD (by rw[hb];exact hk)
 |ek z a=>simp only[D.cU];exact .ek z a
 |eA z o g len b cap A ho hk ha hl=>
  obtain⟨o',e,hD,hm⟩:=jo o ho
  simp only[D.cU,e]
  exact .eA z o' g len b cap A hD ((congrArg Prod.snd hm).trans hk) ha hl
 |fw z o g off b cap A ho hk ha=>
  obtain⟨o',e,hD,hm⟩:=jo o ho
  simp only[D.cU,e]
  exact .fw z o' g off b cap A hD ((congrArg Prod.snd hm).trans hk) ha
 |gi f ds vs hl _ ih=>
  simp only[D.cU,fQ]
  refine .gi f _ vs (by simpa using hl) (fun i d v e1 e2=>?_)
  simp only[List.getElem?_map,Option.map_eq_some_iff]at e1
  obtain⟨d',e1,rfl⟩:=e1
  exact ih i d' v e1 e2
 |val v hv=>simp only[D.cU];exact .val v hv
 |fv T o v ho ht hv=>
  obtain⟨o',e,hD,hm⟩:=jo o ho
  simp only[D.cU,e]
  have h1:M.mu o'=M0.mu o:=congrArg Prod.fst hm
  have h2:M.ty o'=M0.ty o:=congrArg (fun x=>x.2.ty?) hm
  exact .fv T o' v hD (by rw[h2];exact ht) (by rw[h1];exact hv)
 | dz row off b k h1 h2 ih=>
  simp only[D.cU,fQ]
  refine .dz _ off b k (fun i d e=>?_) (fun i d u e eu=>?_)
  ·simp only [List.getElem?_map,Option.map_eq_some_iff]at e
   obtain⟨d',e,rfl⟩:=e
   rw[← hG];exact h1 i d' e
  ·simp only [List.getElem?_map,Option.map_eq_some_iff]at e
   obtain⟨d',e,rfl⟩:=e
   rw[← hG]at eu;exact ih i d' u e eu
 |iA g z cap hc ht=>simp only[D.cU,D.nV];exact .iA _ z cap hc (tag ht)
 |lB z a cap=>simp only[D.cU,D.nV,Tag.cU];exact .lB z a cap
 | slice g z rows b k cap hl hs h1 h2 ht ih=>
  simp only[D.cU,B8]
  have hlen:(rows.map (D.e7 os ts)).length=rows.length:=by simp
  have key:=RD.slice (M:=M) (s:=s) (g.cU ts) z (rows.map (D.e7 os ts)) b k cap (by rw[hlen];exact hl) (fun row hr=>by
   obtain⟨kp,h',rfl⟩:=List.mem_map.1 hr
   rw[fQ,List.length_map];exact hs kp h')
   (fun i row j d e1 e2=>by
    simp only[List.getElem?_map,Option.map_eq_some_iff]at e1
    obtain⟨kp,e1,rfl⟩:=e1
    rw[fQ]at e2
    simp only[List.getElem?_map,Option.map_eq_some_iff]at e2
    obtain⟨d',e2,rfl⟩:=e2
    rw[← hG];exact h1 i kp j d' e1 e2)
   (fun i row j d u e1 e2 eu=>by
    simp only[List.getElem?_map,Option.map_eq_some_iff]at e1
    obtain⟨kp,e1,rfl⟩:=e1
    rw[fQ]at e2
    simp only[List.getElem?_map,Option.map_eq_some_iff]at e2
    obtain⟨d',e2,rfl⟩:=e2
    rw[← hG]at eu;exact ih i kp j d' u e1 e2 eu)
   (by rw[hlen];exact tag ht)
  rw[hlen]at key
  exact key
 |agg cells vs hl h1 _ ih=>
  simp only[D.cU,fQ]
  refine .agg _ vs (by simpa using hl) h1 (fun i d v e1 e2=>?_)
  simp only[List.getElem?_map,Option.map_eq_some_iff]at e1
  obtain⟨d',e1,rfl⟩:=e1
  exact ih i d' v e1 e2
 |tuple ds vs hl _ ih=>
  simp only[D.cU,fQ]
  refine .tuple _ vs (by simpa using hl) (fun i d v e1 e2=>?_)
  simp only[List.getElem?_map,Option.map_eq_some_iff]at e1
  obtain⟨d',e1,rfl⟩:=e1
  exact ih i d' v e1 e2
def kD {α:Type} : List Nat→List α→List α→List α
 | [],new,l=>l++new
 |_::_,[],l=>l
 |o::os,x::xs,l=>kD os xs (l.set o x)
def kz (os:List Nat) (n k:Nat):List Nat:=os++(List.range k).map (n + ·)
theorem xg {α:Type} : ∀ (os:List Nat) (xs l:List α),os.length≤xs.length→(kD os xs l).length=l.length+(xs.length - os.length)
 | [],xs,l,_=>by simp[kD]
 |o::os,[],l,h=>by simp at h
 |o::os,x::xs,l,h=>by
  simp only[kD]
  rw[xg os xs _ (by simpa using h)]
  simp
theorem Dm {α:Type} : ∀ (os:List Nat) (xs l:List α),os.length≤xs.length→os.Nodup→(∀ o∈os,o<l.length)→
 (∀ (i:Nat) (o:Nat),os[i]? = some o→(kD os xs l)[o]? = xs[i]?)∧(∀ o,o<l.length→o∉os→(kD os xs l)[o]? = l[o]?)∧
 (∀ k,(kD os xs l)[l.length+k]? = xs[os.length+k]?)
 | [],xs,l,_,_,_=>by
  refine⟨by simp,fun o ho _=>by simp only[kD];rw[List.getElem?_append_left ho],fun k=>by simp only[kD];rw[List.getElem?_append_right (by omega)];simp⟩
 |o::os,[],l,h,_,_=>by simp at h
 | o::os,x::xs,l,h,hn,hD=>by
  simp only[List.nodup_cons]at hn
  have Ah : ∀ q∈os,q<(l.set o x).length:=fun q hq=>by simpa using hD q (by simp[hq])
  obtain⟨h1,h2,h3⟩:=Dm os xs (l.set o x) (by simpa using h) hn.2 Ah
  have ho:o<l.length:=hD o (by simp)
  simp only[kD]
  refine⟨fun i q e=>?_,fun q hq wu=>?_,fun k=>?_⟩
  ·cases i with
   |zero=>
    simp only[List.getElem?_cons_zero,Option.some.injEq]at e
    subst e
    rw[h2 o (by simpa using ho) hn.1]
    simp[ho]
   |succ i=>simpa using h1 i q (by simpa using e)
  ·have vi:q≠o:=fun e=>wu (by simp [e])
   rw[h2 q (by simpa using hq) (fun h=>wu (by simp[h])),List.getElem?_set_ne (Ne.symm vi)]
  ·have:=h3 k
   simp only[List.length_set]at this
   rw[this]
   simp only[List.length_cons]
   rw[show os.length+1+k=(os.length+k)+1 by omega];simp
theorem CT (os:List Nat) (n k i:Nat):(kz os n k)[i]? = if i<os.length then os[i]? else if i<os.length+k then some (n+(i - os.length))else none:=by
 unfold kz
 split
 ·rename_i h;rw[List.getElem?_append_left h]
 ·rename_i h
  rw[List.getElem?_append_right (by omega)]
  split
  ·rename_i h2
   rw[List.getElem?_map,List.getElem?_range (by omega)];rfl
  ·rename_i h2
   rw[List.getElem?_eq_none]
   simp;omega
def posOf:List Nat→Nat→Option Nat
 | [],_=>none
 |x::r,o=>if x=o then some 0 else(posOf r o).map (· + 1)
theorem iR : ∀ {l:List Nat} {o i:Nat},posOf l o=some i→l[i]? = some o
 | x::r,o,i,h=>by
  simp only[posOf]at h
  split at h
  ·rename_i e;cases h;simp[e]
  ·cases hp:posOf r o with
   |none=>rw[hp]at h;cases h
   |some j=>rw[hp]at h;cases h;simpa using iR hp
theorem mr : ∀ {l:List Nat} {o i:Nat},l.Nodup→l[i]? = some o→posOf l o=some i
 | x::r,o,i,hn,h=>by
  simp only[List.nodup_cons]at hn
  simp only[posOf]
  cases i with
  |zero=>simp at h;simp[h]
  |succ i=>
   simp at h
   have:x≠o:=fun e=>hn.1 (by rw[e];exact List.mem_of_getElem? h)
   rw[if_neg this,mr hn.2 h];rfl
end
end Go.Abs
namespace Go.Abs
theorem Ai {l:List Nat} {n k:Nat} (h:l.Nodup) (hl : ∀ o∈l,o<n):(kz l n k).Nodup:=by
 unfold kz
 rw[List.nodup_append]
 refine⟨h, ?_,fun a ha b hb=>?_⟩
 ·rw [List.nodup_iff_pairwise_ne,List.pairwise_map]
  exact List.Pairwise.imp (fun h=>by omega) (List.nodup_iff_pairwise_ne.1 List.nodup_range)
 ·obtain⟨c,hc,rfl⟩:=List.mem_map.1 hb
  have:=hl a ha
  omega
def gK (M:Map) (os ts:List Nat):Map:=⟨M.G,fun i=>M.loc (os.getD i 0),fun i=>M.be (ts.getD i 0)⟩
def ya (M M0:Map) (os ts:List Nat):Map:=
 ⟨M0.G,fun o=>match posOf os o with|some i=>M0.loc i|none=>M.loc o,fun t=>match posOf ts t with|some i=>M0.be i|none=>M.be t⟩
section
variable {P:Program} {M:Map} {s s0:St} {w:World} {os ts:List Nat}
theorem uZ {l:List Nat} {i o:Nat} (h:l[i]? = some o):l.getD i 0=o:=by simp[List.getD,h]
theorem Rel.sub (r:Rel M s w) (uy:os.Nodup) (vm:ts.Nodup) (iZ : ∀ o∈os,o<s.ah.length)
 (ho:s0.ah.length=os.length) (xh : ∀ (i o:Nat) (ds:List D),os[i]? = some o→s0.ah[i]? = some ds→s.ah[o]? = some (D.e7 os ts ds)∧D.bK os.length ts.length ds=true)
 (ht:s0.aw.length=ts.length) (tL : ∀ (i t:Nat),ts[i]? = some t→s0.aw[i]? = s.aw[t]?):Rel (gK M os ts) s0 w:=by
 have nth : ∀ i,i<s0.ah.length→∃ o,os[i]? = some o∧o<s.ah.length:=fun i hi=>⟨os[i],List.getElem?_eq_getElem (by omega),iZ _ (List.getElem_mem _)⟩
 have loc : ∀ (i:Nat) o,os[i]? = some o→(gK M os ts).loc i=M.loc o:=fun i o h=>by simp only[gK,uZ h]
 have mu : ∀ (i:Nat) o,os[i]? = some o→(gK M os ts).mu i=M.mu o:=fun i o h=>congrArg Prod.fst (loc i o h)
 have be : ∀ (i:Nat) t,ts[i]? = some t→(gK M os ts).be i=M.be t:=fun i t h=>by simp only[gK,uZ h]
 have WA : ∀ t,s0.live t→∃ t',ts[t]? = some t'∧s.live t':=fun t ⟨n,hn⟩=>by
  have hD:=(List.getElem?_eq_some_iff.1 hn).1
  have e:ts[t]? = some ts[t]:=List.getElem?_eq_getElem (by omega)
  exact⟨_,e,n,by rw[← tL t _ e];exact hn⟩
 refine⟨r.comm,fun i ds e=>?_,fun i hi off=>?_,fun i i' hi ib e=>?_,fun t n e=>?_,fun t b c z i hl e hi=>?_,fun t t' b c z c' z' h h' e e'=>?_⟩
 ·obtain⟨o,h1,_⟩:=nth i (List.getElem?_eq_some_iff.1 e).1
  obtain⟨h2,h3⟩:=xh i o ds h1 e
  obtain⟨vs,T,g1,g2,g3,g4⟩:=r.obj o _ h2
  refine⟨vs,T,by rw[loc i o h1];exact g1,by rw[fQ]at g2;simpa using g2,⟨g3.1,by rw[show(gK M os ts).ty i=M.ty o from congrArg (fun x=>x.2.ty?) (loc i o h1)];exact g3.2⟩,fun j d v e1 e2=>?_⟩
  exact RD.B9 (M:=M) (M0:=gK M os ts) (s:=s) rfl loc ho be tL ht (g4 j (d.cU os ts) v (by rw[fQ,List.getElem?_map,e1];rfl) e2) d rfl (vl h3 e1)
 ·obtain⟨o,h1,h2⟩:=nth i hi
  rw[mu i o h1];exact r.jL o h2 off
 ·obtain⟨o,h1,h2⟩:=nth i hi
  obtain⟨o',rY,uz⟩:=nth i' ib
  rw[mu i o h1,mu i' o' rY]at e
  have:=r.inj o o' h2 uz e
  subst this
  have a:=mr uy h1
  have b:=mr uy rY
  rw[a]at b;cases b;rfl
 ·obtain⟨t',h1,h2⟩:=WA t ⟨n,e⟩
  rw[be t t' h1]
  exact r.tok t' n (by rw[← tL t t' h1];exact e)
 ·obtain⟨t',h1,h2⟩:=WA t hl
  obtain⟨o,h3,h4⟩:=nth i hi
  rw[be t t' h1]at e
  rw[mu i o h3]
  exact r.fh t' b c z o h2 e h4
 ·obtain⟨q,h1,h2⟩:=WA t h
  obtain⟨q',rY,uz⟩:=WA t' h'
  rw[be t q h1]at e
  rw[be t' q' rY]at e'
  have:=r.fU q q' b c z c' z' h2 uz e e'
  subst this
  have a:=mr vm h1
  have b:=mr vm rY
  rw[a]at b;cases b;rfl
end
def St.back (s:St) (os ts:List Nat) (s':St):St:=
 ⟨kD os (s'.ah.map (D.e7 (kz os s.ah.length (s'.ah.length - os.length)) (kz ts s.aw.length (s'.aw.length - ts.length)))) s.ah,kD ts s'.aw s.aw⟩
def D.back (s:St) (os ts:List Nat) (s':St) (d:D):D:=
 d.cU (kz os s.ah.length (s'.ah.length - os.length)) (kz ts s.aw.length (s'.aw.length - ts.length))
theorem bM.frame {P:Program} {f:FuncId} {Nf args:List D} {s s0:St} {Q0 Q:D→St→Prop} (os ts:List Nat) (h:bM P f Nf s0 Q0) (uy:os.Nodup) (vm:ts.Nodup) (iZ : ∀ o∈os,o<s.ah.length) (uw : ∀ t∈ts,t<s.aw.length)
 (ho:s0.ah.length=os.length) (xh : ∀ (i o:Nat) (ds:List D),os[i]? = some o→s0.ah[i]? = some ds→s.ah[o]? = some (D.e7 os ts ds)∧D.bK os.length ts.length ds=true)
 (ht:s0.aw.length=ts.length) (tL : ∀ (i t:Nat),ts[i]? = some t→s0.aw[i]? = s.aw[t]?)
 (za:args=D.e7 os ts Nf) (pK:D.bK os.length ts.length Nf=true) (k : ∀ d s',Q0 d s'→Q (d.back s os ts s') (s.back os ts s')):bM P f args s Q:=by
 intro M w fJ r ky dO ha
 have r0:=r.sub uy vm iZ ho xh ht tL
 have loc : ∀ (i:Nat) o,os[i]? = some o→(gK M os ts).loc i=M.loc o:=fun i o h=>by simp only[gK,uZ h]
 have mu : ∀ (i:Nat) o,os[i]? = some o→(gK M os ts).mu i=M.mu o:=fun i o h=>congrArg Prod.fst (loc i o h)
 have be : ∀ (i:Nat) t,ts[i]? = some t→(gK M os ts).be i=M.be t:=fun i t h=>by simp only[gK,uZ h]
 subst za
 have aa3:Laid (gK M os ts) s0 w:=by
  intro g cs hg
  obtain⟨h1,h2,h3⟩:=ky g cs hg
  refine⟨h1,fun o hD=>?_,fun t c z hl hb=>?_⟩
  ·obtain⟨o',nK⟩ : ∃ o',os[o]? = some o':=⟨_,List.getElem?_eq_getElem (by omega)⟩
   rw[mu o o' nK]
   exact h2 o' (iZ o' (List.mem_of_getElem? nK))
  ·obtain⟨n,hn⟩:=hl
   have hD:=(List.getElem?_eq_some_iff.1 hn).1
   obtain⟨t',Eh⟩ : ∃ t',ts[t]? = some t':=⟨_,List.getElem?_eq_getElem (by omega)⟩
   rw[be t t' Eh]at hb
   exact h3 t' c z ⟨n,by rw[← tL t t' Eh];exact hn⟩ hb
 have hc:=h (gK M os ts) w fJ r0 aa3 (by rw[dO,fQ,List.length_map]) (fun i d v e1 e2=>
  RD.B9 (M:=M) (M0:=gK M os ts) (s:=s) rfl loc ho be tL ht (ha i (d.cU os ts) v (by rw[fQ,List.getElem?_map,e1];rfl) e2) d rfl (vl pK e1))
 refine hc.mono ?_
 rintro en w' ⟨yc,d,v,s',rfl,hq,e,r',hv⟩
 have IJ:=e.le.n
 have D6:=e.le.t
 generalize Ng:kz os s.ah.length (s'.ah.length - os.length)=lS
 generalize Nh:kz ts s.aw.length (s'.aw.length - ts.length)=o5
 have nd:lS.Nodup:=by rw[← Ng];exact Ai uy iZ
 have ndt:o5.Nodup:=by rw[← Nh];exact Ai vm uw
 have Ni : ∀ i,lS[i]? = if i<os.length then os[i]? else if i<s'.ah.length then some (s.ah.length+(i - os.length))else none:=fun i=>by
  rw[← Ng,CT];split
  ·rfl
  ·rw[show os.length+(s'.ah.length - os.length)=s'.ah.length by omega]
 have Nj : ∀ i,o5[i]? = if i<ts.length then ts[i]? else if i<s'.aw.length then some (s.aw.length+(i - ts.length))else none:=fun i=>by
  rw[← Nh,CT];split
  ·rfl
  ·rw[show ts.length+(s'.aw.length - ts.length)=s'.aw.length by omega]
 have hsb:s.back os ts s' = ⟨kD os (s'.ah.map (D.e7 lS o5)) s.ah,kD ts s'.aw s.aw⟩:=by simp only[St.back,Ng,Nh]
 have hdb:d.back s os ts s'=d.cU lS o5:=by simp only[D.back,Ng,Nh]
 have mM:=k d s' hq
 rw[hsb,hdb]at mM
 obtain⟨p1,p2,p3⟩:=Dm os (s'.ah.map (D.e7 lS o5)) s.ah (by simp;omega) uy iZ
 obtain⟨q1,q2,q3⟩:=Dm ts s'.aw s.aw (by omega) vm uw
 have IQ:=xg os (s'.ah.map (D.e7 lS o5)) s.ah (by simp;omega)
 have IS:=xg ts s'.aw s.aw (by omega)
 simp only[List.length_map]at IQ
 generalize Ae:(⟨kD os (s'.ah.map (D.e7 lS o5)) s.ah,kD ts s'.aw s.aw⟩:St)=s2 at mM
 have so:s2.ah=kD os (s'.ah.map (D.e7 lS o5)) s.ah:=by rw[← Ae]
 have st:s2.aw=kD ts s'.aw s.aw:=by rw[← Ae]
 -- the framed objects
 have fo : ∀ (i o:Nat),lS[i]? = some o→o<s2.ah.length∧s2.ah[o]? = (s'.ah[i]?).map (D.e7 lS o5)∧i<s'.ah.length∧(i<os.length→o<s.ah.length∧os[i]? = some o)∧(os.length≤i→s.ah.length≤o):=by
  intro i o hi
  rw[Ni]at hi
  split at hi
  ·rename_i h1
   have hD:=iZ o (List.mem_of_getElem? hi)
   refine⟨by rw[so,IQ];omega,by rw[so,p1 i o hi,List.getElem?_map],by omega,fun _=>⟨hD,hi⟩,fun h=>by omega⟩
  ·split at hi
   ·rename_i h1 h2
    cases hi
    refine⟨by rw[so,IQ];omega, ?_,h2,fun h=>by omega,fun _=>by omega⟩
    rw[so,p3,List.getElem?_map,show os.length+(i - os.length)=i by omega]
   ·cases hi
 have ft : ∀ (i t:Nat),o5[i]? = some t→t<s2.aw.length∧s2.aw[t]? = s'.aw[i]? ∧i<s'.aw.length∧(i<ts.length→t<s.aw.length∧ts[i]? = some t)∧(ts.length≤i→s.aw.length≤t):=by
  intro i t hi
  rw[Nj]at hi
  split at hi
  ·rename_i h1
   have hD:=uw t (List.mem_of_getElem? hi)
   refine⟨by rw[st,IS];omega,by rw[st,q1 i t hi],by omega,fun _=>⟨hD,hi⟩,fun h=>by omega⟩
  ·split at hi
   ·rename_i h1 h2
    cases hi
    refine⟨by rw[st,IS];omega, ?_,h2,fun h=>by omega,fun _=>by omega⟩
    rw[st,q3,show ts.length+(i - ts.length)=i by omega]
   ·cases hi
 -- all others
 have uo : ∀ o,o<s2.ah.length→posOf lS o=none→o<s.ah.length∧o∉os∧s2.ah[o]? = s.ah[o]? :=by
  intro o hD hp
  have nW : ∀ i,lS[i]? ≠some o:=fun i hi=>by rw[mr nd hi]at hp;cases hp
  have h1:o<s.ah.length:=by
   rcases Nat.lt_or_ge o s.ah.length with h|h
   ·exact h
   ·exfalso
    rw[so,IQ]at hD
    refine nW (os.length+(o - s.ah.length)) ?_
    rw[Ni,if_neg (by omega),if_pos (by omega)]
    congr 1;omega
  have h2:o∉os:=fun hm=>by
   obtain⟨i,hi⟩:=List.mem_iff_getElem?.1 hm
   have qF:=(List.getElem?_eq_some_iff.1 hi).1
   exact nW i (by rw[Ni,if_pos qF];exact hi)
  exact⟨h1,h2,by rw[so,p2 o h1 h2]⟩
 have ut : ∀ t,t<s2.aw.length→posOf o5 t=none→t<s.aw.length∧t∉ts∧s2.aw[t]? = s.aw[t]? :=by
  intro t hD hp
  have nW : ∀ i,o5[i]? ≠some t:=fun i hi=>by rw[mr ndt hi]at hp;cases hp
  have h1:t<s.aw.length:=by
   rcases Nat.lt_or_ge t s.aw.length with h|h
   ·exact h
   ·exfalso
    rw[st,IS]at hD
    refine nW (ts.length+(t - s.aw.length)) ?_
    rw[Nj,if_neg (by omega),if_pos (by omega)]
    congr 1;omega
  have h2:t∉ts:=fun hm=>by
   obtain⟨i,hi⟩:=List.mem_iff_getElem?.1 hm
   have qF:=(List.getElem?_eq_some_iff.1 hi).1
   exact nW i (by rw[Nj,if_pos qF];exact hi)
  exact⟨h1,h2,by rw[st,q2 t h1 h2]⟩
 generalize QE:ya M yc lS o5=M2
 have mG:yc.G=M2.G:=by rw[← QE];rfl
 have lo : ∀ (i o:Nat),lS[i]? = some o→M2.loc o=yc.loc i:=fun i o hi=>by rw[← QE];simp only[ya,mr nd hi]
 have WB : ∀ o,posOf lS o=none→M2.loc o=M.loc o:=fun o hp=>by rw[← QE];simp only[ya,hp]
 have mo : ∀ (i o:Nat),lS[i]? = some o→M2.mu o=yc.mu i:=fun i o hi=>congrArg Prod.fst (lo i o hi)
 have IT : ∀ o,posOf lS o=none→M2.mu o=M.mu o:=fun o hp=>congrArg Prod.fst (WB o hp)
 have mt : ∀ (i t:Nat),o5[i]? = some t→M2.be t=yc.be i:=fun i t hi=>by rw[← QE];simp only[ya,mr ndt hi]
 have IU : ∀ t,posOf o5 t=none→M2.be t=M.be t:=fun t hp=>by rw[← QE];simp only[ya,hp]
 have le:Le M s M2 s2:=by
  refine⟨fun b o v hg=>by rw[← mG];exact e.le.G b o v hg,by rw[so,IQ];omega,fun o hD=>?_,by rw[st,IS];omega,fun t n' hD qS=>?_⟩
  ·cases hp:posOf lS o with
   |none=>rw[WB o hp];exact .refl _
   | some i=>
    have hi:=iR hp
    rw[lo i o hi]
    obtain⟨_,_,_,h1,h2⟩:=fo i o hi
    have qF:i<os.length:=by
     rcases Nat.lt_or_ge i os.length with h|h
     ·exact h
     ·have:=h2 h;omega
    have h3:=e.le.loc i (by omega)
    rw[loc i o (h1 qF).2]at h3
    exact h3
  ·cases hp:posOf o5 t with
   |none=>
    obtain⟨_,_,h3⟩:=ut t (by rw[st,IS];omega) hp
    rw[h3]at qS
    exact⟨n',qS,Nat.le_refl _,fun _=>IU t hp⟩
   | some i=>
    have hi:=iR hp
    obtain⟨_,g1,_,h1,h2⟩:=ft i t hi
    have qF:i<ts.length:=by
     rcases Nat.lt_or_ge i ts.length with h|h
     ·exact h
     ·have:=h2 h;omega
    rw[g1]at qS
    obtain⟨n,h3,h4,h5⟩:=e.le.tk i n' (by omega) qS
    refine⟨n,by rw[← tL i t (h1 qF).2];exact h3,h4,fun eq=>?_⟩
    rw[mt i t hi,h5 eq,be i t (h1 qF).2]
 have aa4 : ∀ {d:D} {v:Value},RD yc s' d v→RD M2 s2 (d.cU lS o5) v:=fun hd=>RD.cU mG
  (fun i hi=>by
   obtain⟨o,ho⟩ : ∃ o,lS[i]? = some o:=by
    rw[Ni];split
    ·rename_i h1;exact⟨_,List.getElem?_eq_getElem h1⟩
    ·exact⟨_,rfl⟩
   exact⟨o,ho,(fo i o ho).1,lo i o ho⟩)
  (fun i hi=>by
   obtain⟨t,ht⟩ : ∃ t,o5[i]? = some t:=by
    rw[Nj];split
    ·rename_i h1;exact⟨_,List.getElem?_eq_getElem h1⟩
    ·exact⟨_,rfl⟩
   exact⟨t,ht,(ft i t ht).1,(ft i t ht).2.1,mt i t ht⟩) hd
 -- blocks that the callee did not know
 have HY : ∀ i,s0.live i→∃ t,ts[i]? = some t∧s.live t:=fun i ⟨n,hn⟩=>by
  have hD:=(List.getElem?_eq_some_iff.1 hn).1
  have e1:ts[i]? = some ts[i]:=List.getElem?_eq_getElem (by omega)
  exact⟨_,e1,n,by rw[← tL i _ e1];exact hn⟩
 have Nk : ∀ b,b<w.heap.size→(∀ (i o:Nat),os[i]? = some o→M.mu o≠b)→(∀ (i t:Nat) c z,ts[i]? = some t→s.live t→M.be t≠some (b,c,z))→
  w'.heap[b]? = w.heap[b]? ∧∀ off,yc.G b off=M.G b off:=by
  intro b hb h1 h2
  refine⟨e.kept b hb (fun i hi=>?_) (fun i c z hl=>?_),fun off=>?_⟩
  ·have e1:os[i]? = some os[i]:=List.getElem?_eq_getElem (by omega)
   rw[mu i _ e1];exact h1 i _ e1
  ·obtain⟨t,e1,hD⟩:=HY i hl
   rw[be i t e1];exact h2 i t c z e1 hD
  ·apply Classical.byContradiction
   intro eK
   rcases e.sb b off eK with h3|⟨i,c,z,hl,h3⟩
   ·omega
   ·obtain⟨t,e1,hD⟩:=HY i hl
    rw[be i t e1]at h3
    exact h2 i t c z e1 hD h3
 have WC : ∀ o,o<s.ah.length→o∉os→w'.heap[M.mu o]? = w.heap[M.mu o]? ∧∀ off,yc.G (M.mu o) off=M.G (M.mu o) off:=fun o hD nW=>
  Nk _ (r.qh hD) (fun i o' h1 h2=>nW (by rw[← r.inj o' o (iZ o' (List.mem_of_getElem? h1)) hD h2];exact List.mem_of_getElem? h1))
   (fun i t c z _ hl h2=>r.fh t _ c z o hl h2 hD rfl)
 have afd : ∀ t b c z,s.live t→t∉ts→M.be t=some (b,c,z)→w'.heap[b]? = w.heap[b]? ∧∀ off,yc.G b off=M.G b off:=fun t b c z hl nW hb=>
  Nk b (r.sC hl hb) (fun i o h1=>r.fh t b c z o hl hb (iZ o (List.mem_of_getElem? h1)))
   (fun i t' c' z' h1 l9 h2=>nW (by rw[r.fU t t' b c z c' z' hl l9 hb h2];exact List.mem_of_getElem? h1))
 have lv : ∀ t,s2.live t→(∃ i,o5[i]? = some t∧s'.live i)∨(posOf o5 t=none∧s.live t∧t∉ts):=by
  rintro t ⟨n,hn⟩
  cases hp:posOf o5 t with
  |none=>
   obtain⟨h1,h2,h3⟩:=ut t (List.getElem?_eq_some_iff.1 hn).1 hp
   exact .inr ⟨rfl,⟨n,by rw[← h3];exact hn⟩,h2⟩
  |some i=>
   have hi:=iR hp
   exact .inl ⟨i,hi,n,by rw[← (ft i t hi).2.1];exact hn⟩
 -- where a framed object lies
 have WD : ∀ (i o:Nat),lS[i]? = some o→(o<s.ah.length∧o∈os∧yc.mu i=M.mu o)∨w.heap.size≤yc.mu i:=by
  intro i o hi
  obtain⟨_,_,h1,h2,h3⟩:=fo i o hi
  rcases e.mo h1 with ⟨h4,h5⟩|h4
  ·have h:i<os.length:=by omega
   exact .inl ⟨(h2 h).1,List.mem_of_getElem? (h2 h).2,by rw[h5,mu i o (h2 h).2]⟩
  ·exact .inr h4
 have WE : ∀ (i t b c z:Nat),o5[i]? = some t→s'.live i→yc.be i=some (b,c,z)→(s.live t∧t∈ts∧∃ c' z',M.be t=some (b,c',z'))∨w.heap.size≤b:=by
  intro i t b c z hi hl hb
  rcases e.qo i b c z hl hb with ⟨h1,c',z',h2⟩|h1
  ·obtain⟨t',e1,hD⟩:=HY i h1
   have qF:=(List.getElem?_eq_some_iff.1 e1).1
   obtain⟨_,_,_,h3,_⟩:=ft i t hi
   have:=(h3 qF).2
   rw[e1]at this;cases this
   rw[be i _ e1]at h2
   exact .inl ⟨hD,List.mem_of_getElem? e1,c',z',h2⟩
  ·exact .inr h1
 refine⟨M2,d.cU lS o5,v,s2,rfl,mM, ?_, ?_,aa4 hv⟩
 ·-- Ext
  refine⟨le,fun b hb h1 h2=>?_,fun o h1 h2=>?_,fun t b c z hl hb=>?_,fun b off eK=>?_,e.size,e.os,e.tape,e.output⟩
  ·exact(Nk b hb (fun i o h3=>h1 o (iZ o (List.mem_of_getElem? h3))) (fun i t c z _ hl=>h2 t c z hl)).1
  ·cases hp:posOf lS o with
   |none=>
    have:=(uo o h2 hp).1
    rcases h1 with h1|h1
    ·omega
    ·exact(h1 (IT o hp)).elim
   | some i=>
    have hi:=iR hp
    rw[mo i o hi]at h1 ⊢
    rcases WD i o hi with ⟨h3,_,h5⟩|h3
    ·rcases h1 with h1 | h1
     ·omega
     ·exact(h1 h5).elim
    ·exact h3
  ·rcases lv t hl with ⟨i,hi,l9⟩ | ⟨hp,l9,_⟩
   ·rw [mt i t hi]at hb
    rcases WE i t b c z hi l9 hb with ⟨h1,_,h2⟩|h1
    ·exact .inl ⟨h1,h2⟩
    ·exact .inr h1
   ·rw [IU t hp]at hb
    exact .inl ⟨l9,c,z,hb⟩
  ·rw [← mG]at eK
   rcases e.sb b off eK with h1|⟨i,c,z,hl,hb⟩
   ·exact .inl h1
   ·obtain⟨t,e1,hD⟩:=HY i hl
    rw[be i t e1]at hb
    exact .inr ⟨t,c,z,hD,hb⟩
 ·-- Rel
  refine⟨fun b o v hg=>r'.comm b o v (by rw[mG];exact hg),fun o ds Ba=>?_,fun o hD off=>?_,fun o o' hD Ah heq=>?_,fun t n hn=>?_,fun t b c z o hl hb hD=>?_,fun t t' b c z c' z' hl l9 hb rW=>?_⟩
  ·cases hp:posOf lS o with
   |some i=>
    have hi:=iR hp
    obtain⟨_,g1,_⟩:=fo i o hi
    rw[g1]at Ba
    obtain⟨nJ,h1,rfl⟩:=Option.map_eq_some_iff.1 Ba
    obtain⟨vs,T,h2,h3,h4,h5⟩:=r'.obj i nJ h1
    refine⟨vs,T,by rw[lo i o hi];exact h2,by rw[fQ];simpa using h3,⟨h4.1,by rw[show M2.ty o=yc.ty i from congrArg (fun x=>x.2.ty?) (lo i o hi)];exact h4.2⟩,fun j d v e1 e2=>?_⟩
    rw[fQ]at e1
    simp only[List.getElem?_map,Option.map_eq_some_iff]at e1
    obtain⟨d',e1,rfl⟩:=e1
    exact aa4 (h5 j d' v e1 e2)
   |none=>
    obtain⟨h1,h2,h3⟩:=uo o (List.getElem?_eq_some_iff.1 Ba).1 hp
    rw[h3]at Ba
    obtain⟨vs,T,g1,g2,g3,g4⟩:=r.obj o ds Ba
    exact⟨vs,T,by rw[WB o hp];exact g1.keep (WC o h1 h2).1,g2,⟨g3.1,by rw[show M2.ty o=M.ty o from congrArg (fun x=>x.2.ty?) (WB o hp)];exact g3.2⟩,fun j d v e1 e2=>(g4 j d v e1 e2).mono le⟩
  ·cases hp:posOf lS o with
   |some i=>
    have hi:=iR hp
    rw[mo i o hi, ← mG];exact r'.jL i (fo i o hi).2.2.1 off
   |none=>
    obtain⟨h1,h2,h3⟩:=uo o hD hp
    rw[IT o hp, ← mG,(WC o h1 h2).2 off];exact r.jL o h1 off
  ·cases hp:posOf lS o with
   | some i=>
    have hi:=iR hp
    rw[mo i o hi]at heq
    cases mV:posOf lS o' with
    |some i'=>
     have ib:=iR mV
     rw[mo i' o' ib]at heq
     have:=r'.inj i i' (fo i o hi).2.2.1 (fo i' o' ib).2.2.1 heq
     subst this
     rw[hi]at ib;cases ib;rfl
    | none=>
     obtain⟨h1,h2,_⟩:=uo o' Ah mV
     rw[IT o' mV]at heq
     rcases WD i o hi with ⟨h3,h4,h5⟩|h3
     ·rw [h5]at heq
      have:=r.inj o o' h3 h1 heq
      subst this;exact(h2 h4).elim
     ·have:=r.qh h1;omega
   | none=>
    obtain⟨h1,h2,_⟩:=uo o hD hp
    rw[IT o hp]at heq
    cases mV:posOf lS o' with
    | some i'=>
     have ib:=iR mV
     rw[mo i' o' ib]at heq
     rcases WD i' o' ib with ⟨h3,h4,h5⟩|h3
     ·rw [h5]at heq
      have:=r.inj o o' h1 h3 heq
      subst this;exact(h2 h4).elim
     ·have:=r.qh h1;omega
    |none=>
     obtain⟨rY,_,_⟩:=uo o' Ah mV
     rw[IT o' mV]at heq
     exact r.inj o o' h1 rY heq
  ·rcases lv t ⟨n,hn⟩with ⟨i,hi,hl⟩ | ⟨hp,hl,nW⟩
   ·rw [mt i t hi, ← mG]
    exact r'.tok i n (by rw[← (ft i t hi).2.1];exact hn)
   ·obtain⟨_,_,h3⟩:=ut t (List.getElem?_eq_some_iff.1 hn).1 hp
    rw[h3]at hn
    rw[IU t hp]
    rcases r.tok t n hn with h4|⟨b,cap,size,vs,T,g1,g2,g3,g4,g5⟩
    ·exact .inl h4
    ·obtain⟨k1,k2⟩:=afd t b cap size hl nW g1
     exact .inr ⟨b,cap,size,vs,T,g1,by rw[k1];exact g2,g3,g4,fun off ho=>by rw[← mG,k2 off];exact g5.1 off ho,g5.2⟩
  ·rcases lv t hl with ⟨i,hi,l9⟩ | ⟨hp,l9,nW⟩
   ·rw [mt i t hi]at hb
    cases IV:posOf lS o with
    |some j=>
     have hj:=iR IV
     rw[mo j o hj]
     exact r'.fh i b c z j l9 hb (fo j o hj).2.2.1
    |none=>
     obtain⟨h1,h2,_⟩:=uo o hD IV
     rw[IT o IV]
     rcases WE i t b c z hi l9 hb with ⟨h3,_,c',z',h4⟩|h3
     ·exact r.fh t b c' z' o h3 h4 h1
     ·have:=r.qh h1;omega
   ·rw [IU t hp]at hb
    cases IV:posOf lS o with
    |some j=>
     have hj:=iR IV
     rw[mo j o hj]
     rcases WD j o hj with ⟨h3,_,h5⟩|h3
     ·rw[h5];exact r.fh t b c z o l9 hb h3
     ·have:=r.sC l9 hb;omega
    |none=>
     obtain⟨h1,_,_⟩:=uo o hD IV
     rw[IT o IV];exact r.fh t b c z o l9 hb h1
  ·rcases lv t hl with ⟨i,hi,Aj⟩ | ⟨hp,hD,nW⟩
   ·rw [mt i t hi]at hb
    rcases lv t' l9 with ⟨i',ib,TD⟩|⟨mV,Ah,WG⟩
    ·rw [mt i' t' ib]at rW
     have:=r'.fU i i' b c z c' z' Aj TD hb rW
     subst this
     rw[hi]at ib;cases ib;rfl
    ·rw [IU t' mV]at rW
     rcases WE i t b c z hi Aj hb with ⟨h3,h4,c2,z2,h5⟩|h3
     ·have:=r.fU t t' b c2 z2 c' z' h3 Ah h5 rW
      subst this;exact(WG h4).elim
     ·have:=r.sC Ah rW;omega
   ·rw [IU t hp]at hb
    rcases lv t' l9 with ⟨i',ib,TD⟩|⟨mV,Ah,WG⟩
    ·rw [mt i' t' ib]at rW
     rcases WE i' t' b c' z' ib TD rW with ⟨h3,h4,c2,z2,h5⟩|h3
     ·have:=r.fU t t' b c z c2 z2 hD h3 hb h5
      subst this;exact(nW h4).elim
     ·have:=r.sC hD hb;omega
    ·rw [IU t' mV]at rW
     exact r.fU t t' b c z c' z' hD Ah hb rW
end Go.Abs
namespace Go.Abs
def Wk (d d':D):Prop:=∀ (M:Map) (s:St) (v:Value),RD M s d v→RD M s d' v
inductive jr:List D→List D→Prop where
 |nil:jr [] []
 |cons {d d':D} {l l':List D} (h:Wk d d') (t:jr l l'):jr (d::l) (d'::l')
inductive gC:List (List D)→List (List D)→Prop where
 |nil:gC [] []
 |cons {r r':List D} {l l':List (List D)} (h:jr r r') (t:gC l l'):gC (r::l) (r'::l')
theorem Wk.refl (d:D):Wk d d:=fun _ _ _ h=>h
theorem Wk.trans {a b c:D} (h:Wk a b) (k:Wk b c):Wk a c:=fun M s v r=>k M s v (h M s v r)
theorem Wk.junk (d:D):Wk d .junk:=fun _ _ v _=> .junk v
theorem jr.refl : ∀ l,jr l l
 | []=> .nil
 |d::l=> .cons (Wk.refl d) (jr.refl l)
theorem gC.refl : ∀ l,gC l l
 | []=> .nil
 |d::l=> .cons (jr.refl d) (gC.refl l)
theorem jr.len {l l':List D} (h:jr l l'):l.length=l'.length:=by
 induction h with
 |nil=>rfl
 |cons _ _ ih=>simp[ih]
theorem gC.len {l l':List (List D)} (h:gC l l'):l.length=l'.length:=by
 induction h with
 |nil=>rfl
 |cons _ _ ih=>simp[ih]
theorem jr.get {l l':List D} (h:jr l l') : ∀ {i:Nat} {d':D},l'[i]? = some d'→∃ d,l[i]? = some d∧Wk d d':=by
 induction h with
 |nil=>intro i d' e;simp at e
 |cons hd _ ih=>
  intro i d' e
  cases i with
  |zero=>simp at e;subst e;exact⟨_,rfl,hd⟩
  |succ i=>simp at e;simpa using ih e
theorem gC.get {l l':List (List D)} (h:gC l l') : ∀ {i:Nat} {d':List D},l'[i]? = some d'→∃ d,l[i]? = some d∧jr d d':=by
 induction h with
 |nil=>intro i d' e;simp at e
 |cons hd _ ih=>
  intro i d' e
  cases i with
  |zero=>simp at e;subst e;exact⟨_,rfl,hd⟩
  |succ i=>simp at e;simpa using ih e
theorem jr.append {a a' b b':List D} (h:jr a a') (k:jr b b'):jr (a++b) (a'++b'):=by
 induction h with
 |nil=>exact k
 |cons hd _ ih=>exact .cons hd ih
theorem gC.append {a a' b b':List (List D)} (h:gC a a') (k:gC b b'):gC (a++b) (a'++b'):=by
 induction h with
 |nil=>exact k
 |cons hd _ ih=>exact .cons hd ih
theorem Wk.agg {l l':List D} (h:jr l l'):Wk (.agg l) (.agg l'):=by
 intro M s v r
 cases r with
 |agg _ vs hl h1 hr=>
  refine .agg _ vs (by rw[← hl,h.len]) h1 fun i d' u e e2=>?_
  obtain⟨d,e1,hw⟩:=h.get e
  exact hw M s u (hr i d u e1 e2)
theorem Wk.tuple {l l':List D} (h:jr l l'):Wk (.tuple l) (.tuple l'):=by
 intro M s v r
 cases r with
 |tuple _ vs hl hr=>
  refine .tuple _ vs (by rw[← hl,h.len]) fun i d' u e e2=>?_
  obtain⟨d,e1,hw⟩:=h.get e
  exact hw M s u (hr i d u e1 e2)
theorem Wk.rows {g:Tag} {z:Nat} {l l':List (List D)} (h:gC l l'):Wk (.slice g z l) (.slice g z l'):=by
 intro M s v r
 cases r with
 |iA _ _ cap hc ht=>cases h;exact .iA _ _ _ hc ht
 |lB _ a cap=>cases h;exact .lB _ a cap
 | slice _ _ _ b k cap hl hs h1 h2 ht=>
  rw[h.len]
  refine .slice g z l' b k cap (by rw[← h.len];exact hl) (fun row hm=>?_) (fun i row j d e e2=>?_) (fun i row j d u e e2 eu=>?_) (by rw[← h.len];exact ht)
  ·obtain⟨i,hi,he⟩:=List.mem_iff_getElem.1 hm
   obtain⟨r0,g1,g2⟩:=h.get (i:=i) (by rw[List.getElem?_eq_getElem hi,he])
   rw[← g2.len];exact hs r0 (List.mem_of_getElem? g1)
  ·obtain⟨r0,g1,g2⟩:=h.get e
   obtain⟨d0,g3,_⟩:=g2.get e2
   exact h1 i r0 j d0 g1 g3
  ·obtain⟨r0,g1,g2⟩:=h.get e
   obtain⟨d0,g3,g4⟩:=g2.get e2
   exact g4 M s u (h2 i r0 j d0 u g1 g3 eu)
theorem Wk.shared (g:Tag) (z:Nat) (l:List (List D)):Wk (.slice g z l) (.slice .shared z l):=by
 intro M s v r
 cases r with
 |iA _ _ cap hc ht=>exact .iA _ _ _ hc trivial
 |lB _ a cap=>exact .lB _ a cap
 |slice _ _ _ b k cap hl hs h1 h2 ht=>exact .slice _ _ _ b k cap hl hs h1 h2 trivial
theorem Wk.slice {g:Tag} {z:Nat} {l l':List (List D)} (h:gC l l'):Wk (.slice g z l) (.slice .shared z l'):=(Wk.shared g z l).trans (Wk.rows h)
theorem Wk.nil (g:Tag) (z z':Nat):Wk (.slice g z []) (.slice .shared z' []):=by
 intro M s v r
 cases r with
 |iA _ _ cap hc ht=>exact .iA _ _ _ hc trivial
 |lB _ a cap=>exact .lB _ a cap
 |slice _ _ _ b k cap hl hs h1 h2 ht=>exact .slice _ _ [] b k cap hl (by simp) (by simp) (by simp) trivial
theorem Wk.ajr (z z':Nat):Wk (.slice .full z []) (.slice .full z' []):=by
 intro M s v r
 cases r with
 |iA _ _ cap hc ht=>exact .iA _ _ _ hc ht
 |slice _ _ _ b k cap hl hs h1 h2 ht=>exact .slice _ _ [] b k cap hl (by simp) (by simp) (by simp) ht
theorem Rel.qY {M:Map} {s:St} {w:World} {ah:List (List D)} (r:Rel M s w) (h:gC s.ah ah):Rel M ⟨ah,s.aw⟩ w∧Le M s M ⟨ah,s.aw⟩:=by
 have le:Le M s M ⟨ah,s.aw⟩:=⟨fun _ _ _ h=>h,Nat.le_of_eq h.len,fun _ _=> .refl _,Nat.le_refl _,fun t n' _ e=>⟨n',e,Nat.le_refl _,fun _=>rfl⟩⟩
 have hl:=h.len
 refine⟨⟨r.comm,fun o ds e=>?_,fun o ho=>r.jL o (by rw[hl];exact ho),fun o o' ho nK=>r.inj o o' (by rw[hl];exact ho) (by rw[hl];exact nK),r.tok,
  fun t b c z o hv e ho=>r.fh t b c z o hv e (by rw[hl];exact ho),r.fU⟩,le⟩
 obtain⟨ds0,g1,g2⟩:=h.get e
 obtain⟨vs,T,h1,h2,h3,h4⟩:=r.obj o ds0 g1
 refine⟨vs,T,h1,by rw[h2,g2.len],h3,fun i d v e1 e2=>?_⟩
 obtain⟨d0,k1,k2⟩:=g2.get e1
 exact(k2 _ _ _ (h4 i d0 v k1 e2)).mono le
theorem Rel.blank {M:Map} {s:St} {w:World} (r:Rel M s w) :
 Rel (M.eY s.aw.length none) {s with aw:=s.aw++ [some 0]} w∧Le M s (M.eY s.aw.length none) {s with aw:=s.aw++ [some 0]}:=by
 have iH : ∀ t,St.live {s with aw:=s.aw++ [some 0]} t→s.live t∨t=s.aw.length:=by
  rintro t ⟨k,hk⟩
  rcases Nat.lt_or_ge t s.aw.length with h|h
  ·rw[List.getElem?_append_left h]at hk;exact .inl ⟨k,hk⟩
  ·have:=(List.getElem?_eq_some_iff.1 hk).1
   simp at this;exact .inr (by omega)
 have hD : ∀ t,s.live t→t<s.aw.length:=fun t ⟨k,hk⟩=>(List.getElem?_eq_some_iff.1 hk).1
 have hold : ∀ t,t<s.aw.length→(M.eY s.aw.length none).be t=M.be t:=fun t h=>by simp[Map.eY];omega
 have dh:(M.eY s.aw.length none).be s.aw.length=none:=by simp[Map.eY]
 have le:Le M s (M.eY s.aw.length none) {s with aw:=s.aw++ [some 0]}:=
  ⟨fun _ _ _ h=>h,Nat.le_refl _,fun _ _=> .refl _,by simp,fun t k h e=>by
   rw[List.getElem?_append_left h]at e
   exact⟨k,e,Nat.le_refl _,fun _=>hold t h⟩⟩
 refine⟨⟨r.comm,fun o ds e=>?_,r.jL,r.inj,fun t k e=>?_,fun t b' c z o hl e nK=>?_,fun t t' b' c z c' z' h h' e e'=>?_⟩,le⟩
 ·obtain⟨fD,T',h3,h4,h5,h6⟩:=r.obj o ds e
  exact⟨fD,T',h3,h4,h5,fun i d v e1 e2=>(h6 i d v e1 e2).mono le⟩
 ·rcases Nat.lt_or_ge t s.aw.length with h | h
  ·rw [List.getElem?_append_left h]at e
   rw[hold t h];exact r.tok t k e
  ·have:=(List.getElem?_eq_some_iff.1 e).1
   simp at this
   have:t=s.aw.length:=by omega
   subst this
   simp at e;subst e
   exact .inl ⟨dh,rfl⟩
 ·rcases iH t hl with h | h
  ·rw[hold t (hD t h)]at e;exact r.fh t b' c z o h e nK
  ·subst h;rw[dh]at e;cases e
 ·rcases iH t h with h | h <;> rcases iH t' h' with h' | h'
  ·rw[hold t (hD t h)]at e;rw[hold t' (hD t' h')]at e';exact r.fU t t' b' c z c' z' h h' e e'
  ·subst h';rw[dh]at e';cases e'
  ·subst h;rw[dh]at e;cases e
  ·omega
theorem RD.own {M:Map} {s:St} {z z':Nat} {v:Value} (h:RD M s (.slice .full z []) v):RD (M.eY s.aw.length none) {s with aw:=s.aw++ [some 0]} (.slice (.tok s.aw.length) z' []) v:=by
 have key : ∀ base:Option (Nat×Nat),iQ (M.eY s.aw.length none) {s with aw:=s.aw++ [some 0]} (.tok s.aw.length) z' 0 base 0:=by
  intro base
  refine⟨by simp,fun n e=>?_⟩
  simp at e
  subst e
  exact⟨Nat.le_refl _,fun _=> .inl ⟨by simp[Map.eY],rfl,fun h=>by cases h⟩⟩
 cases h with
 |iA _ _ cap hc ht=>subst hc;exact .iA _ _ _ rfl (key none)
 |slice _ _ _ b k cap hl hs h1 h2 ht=>
  have:cap=0:=ht
  subst this
  exact .slice _ _ [] b k 0 (Nat.le_refl _) (by simp) (by simp) (by simp) (key _)
section
variable {P:Program} {B:fX} {nt:Nat} {Q:Exit→Tm→St→Prop} {tm:Tm} {s:St}
theorem Sem.wkO {ac:AC} (ah:List (List D)) (hw:gC s.ah ah) (h:Sem P B nt ac Q tm ⟨ah,s.aw⟩):Sem P B nt ac Q tm s:=by
 intro c hc act w ⟨M,e,r,ht,h1,h2⟩
 obtain⟨r',le⟩:=r.qY hw
 refine h c hc act w ⟨M,e.trans ⟨le,fun _ _ _ _=>rfl,fun o h1 h2=>?_,fun t b c z hl e=> .inl ⟨hl,c,z,e⟩,fun _ _ h=>(h rfl).elim,Nat.le_refl _,rfl,rfl,rfl⟩,r',fun k=>(ht k).mono le,h1,h2⟩
 simp only[← hw.len]at h2
 exact h1.elim (fun h1=>absurd h2 (Nat.not_lt.2 h1)) fun h1=>(h1 rfl).elim
theorem Gz {M0 M:Map} {s0 s:St} {w0 w:World} (e:Ext M0 s0 w0 M s w) (le:Le M s (M.eY s.aw.length none) {s with aw:=s.aw++ [some 0]}) :
 Ext M0 s0 w0 (M.eY s.aw.length none) {s with aw:=s.aw++ [some 0]} w:=by
 refine e.trans ⟨le,fun _ _ _ _=>rfl,fun o h1 h2=>h1.elim (fun h1=>absurd h2 (Nat.not_lt.2 h1)) (fun h1=>(h1 rfl).elim),fun t b c z hl eq=>?_,fun _ _ h=>(h rfl).elim,Nat.le_refl _,rfl,rfl,rfl⟩
 obtain⟨k,hk⟩:=hl
 rcases Nat.lt_or_ge t s.aw.length with h|h
 ·refine .inl ⟨⟨k,by rw [List.getElem?_append_left h]at hk;exact hk⟩,c,z, ?_⟩
  have:(M.eY s.aw.length none).be t=M.be t:=by simp[Map.eY];omega
  rw[← this];exact eq
 ·have:=(List.getElem?_eq_some_iff.1 hk).1
  simp at this
  have:t=s.aw.length:=by omega
  subst this
  simp[Map.eY]at eq
end
def aF (P:Program) (f:Nat) (args:List D) (s:St) (d:D) (s':St):Prop:=bM P f args s fun x y=>x=d∧y=s'
def pR (n m:Nat) (res:List (Nat×Option (Bool×Nat))) (d:D) (s':St):Exit→Tm→St→Prop
 | .normal,tm,s| .ret,tm,s=>∃ l,aS res tm s=some l∧Wk ((aV l).fg n m) d∧gC (s.cut n m).ah s'.ah∧(s.cut n m).aw=s'.aw
 |_,_,_=>False
theorem bM.qY {P:Program} {f:FuncId} {args Ej:List D} {s:St} {Q:D→St→Prop} (ha:jr args Ej) (h:bM P f Ej s Q):bM P f args s Q:=
 fun M w fJ r ky hl hr=>h M w fJ r ky (by rw[hl,ha.len]) fun i d v e1 e2=>by
  obtain⟨d0,g1,g2⟩:=ha.get e1
  exact g2 _ _ _ (hr i d0 v g1 e2)
theorem bM.HZ {P:Program} {f:FuncId} {args:List D} {s:St} {Q Q':D→St→Prop} (h:bM P f args s Q) (hq : ∀ d s1,Q d s1→∃ d' s',Wk d d'∧gC s1.ah s'.ah∧s1.aw=s'.aw∧Q' d' s'):bM P f args s Q':=
 fun M w fJ r ky hl ha=>(h M w fJ r ky hl ha).mono fun _ _ ⟨M',d,v,s1,h1,h2,h3,h4,h5⟩=>by
  obtain⟨d',s',g1,g2,g3,g4⟩:=hq d s1 h2
  obtain⟨r',le⟩:=h4.qY g2
  have hs:(⟨s'.ah,s1.aw⟩:St)=s':=by rw[g3]
  rw[hs]at r' le
  refine⟨M',d',v,s',h1,g4,h3.trans ⟨le,fun _ _ _ _=>rfl,fun o h1 h2=>?_,fun t b c z hl e=> .inl ⟨by obtain⟨n,hn⟩:=hl;exact⟨n,by rw[g3];exact hn⟩,c,z,e⟩,fun _ _ h=>(h rfl).elim,Nat.le_refl _,rfl,rfl,rfl⟩,r',(g1 _ _ _ h5).mono le⟩
  rw[← g2.len]at h2
  exact h1.elim (fun h1=>absurd h2 (Nat.not_lt.2 h1)) fun h1=>(h1 rfl).elim
theorem aF.intro {P:Program} {f:FuncId} {af:AF} {args:List D} {s:St} {d:D} {s':St} (h0 : ∃ fn,P.funcs[f]? = some fn∧cF P fn=some af) (hl:args.length≤af.ntmps)
 (h : ∀ B:fX,B.s=s→Sem P B af.ntmps af.body (pR s.ah.length s.aw.length af.results d s') (mT 0 args) s):aF P f args s d s':=by
 obtain⟨fn,hf,hc⟩:=h0
 refine bM.HZ (bM.intro (Q:=fun d1 s1=>Wk d1 d∧gC s1.ah s'.ah∧s1.aw=s'.aw) hf hc hl fun B hB=>(h B hB).mono fun e tm s1 hr=>?_) fun d1 s1 ⟨h1,h2,h3⟩=>⟨d,s',h1,h2,h3,rfl,rfl⟩
 subst hB
 cases e with
 |normal=>obtain⟨l,h1,h2,h3,h4⟩:=hr;exact⟨l,h1,_,_,Nat.le_refl _,Nat.le_refl _,h2,h3,h4⟩
 |ret=>obtain⟨l,h1,h2,h3,h4⟩:=hr;exact⟨l,h1,_,_,Nat.le_refl _,Nat.le_refl _,h2,h3,h4⟩
 |exit id=>exact hr.elim
 |goto l=>exact hr.elim
 |panic ch=>exact hr.elim
 |outgrown=>exact hr.elim
theorem aF.use {P:Program} {f:FuncId} {args:List D} {s:St} {d:D} {s':St} {Q:D→St→Prop} (h:aF P f args s d s') (hq:Q d s'):bM P f args s Q:=
 bM.mono h fun x y ⟨h1,h2⟩=>by subst h1;subst h2;exact hq
mutual
theorem qu (os ts:List Nat) : ∀ d,D.ok 0 0 d=true→D.cU os ts d=d
 | .junk,_=>by simp[D.cU]
 | .int k n,_=>by simp[D.cU]
 | .bool b,_=>by simp[D.cU]
 | .str l,_=>by simp[D.cU]
 | .dS,_=>by simp[D.cU]
 | .val v,_=>by simp[D.cU]
 | .fv T o,h=>by simp[D.ok]at h
 | .fS o,h=>by simp[D.ok]at h
 | .eA z o g len,h=>by simp[D.ok]at h
 | .fw o g off,h=>by simp[D.ok]at h
 | .ek z,_=>by simp[D.cU]
 | .gi f cs,h=>by
  simp only[D.ok]at h
  simp only[D.cU,fB os ts cs h]
 | .ptr o f,h=>by simp[D.ok]at h
 | .dz r f,h=>by
  simp only[D.ok]at h
  simp only[D.cU,fB os ts r h]
 | .slice g z rows,h=>by
  simp only[D.ok,Bool.and_eq_true]at h
  simp only[D.cU,jm os ts rows h.2]
  cases g with
  |tok t y=>simp[Tag.ok]at h
  |full=>rfl
  |shared=>rfl
 | .agg cs,h=>by
  simp only[D.ok]at h
  simp only[D.cU,fB os ts cs h]
 | .tuple cs,h=>by
  simp only[D.ok]at h
  simp only[D.cU,fB os ts cs h]
theorem fB (os ts:List Nat) : ∀ l,D.bK 0 0 l=true→D.e7 os ts l=l
 | [],_=>by simp[D.e7]
 |d::r,h=>by
  simp only[D.bK,Bool.and_eq_true]at h
  simp only[D.e7,qu os ts d h.1,fB os ts r h.2]
theorem jm (os ts:List Nat) : ∀ l,D.gS 0 0 l=true→D.nV os ts l=l
 | [],_=>by simp[D.nV]
 |d::r,h=>by
  simp only[D.gS,Bool.and_eq_true]at h
  simp only[D.nV,fB os ts d h.1,jm os ts r h.2]
end
mutual
theorem FC {n m n' m':Nat} (hn:n≤n') (hm:m≤m') : ∀ d,D.ok n m d=true→D.ok n' m' d=true
 | .junk,_=>rfl
 | .int k n,_=>rfl
 | .bool b,_=>rfl
 | .str l,_=>rfl
 | .dS,_=>rfl
 | .val v,_=>rfl
 | .fv T o,h=>by simp[D.ok]at h ⊢;omega
 | .fS o,h=>by simp[D.ok]at h ⊢;omega
 | .eA z o g len,h=>by simp[D.ok]at h ⊢;omega
 | .fw o g off,h=>by simp[D.ok]at h ⊢;omega
 | .ek z,_=>rfl
 | .gi f cs,h=>by
  simp only[D.ok]at h ⊢
  exact iC hn hm cs h
 | .ptr o f,h=>by simp only[D.ok,decide_eq_true_eq]at h ⊢;omega
 | .dz r f,h=>by
  simp only[D.ok]at h ⊢
  exact iC hn hm r h
 | .slice g z rows,h=>by
  simp only[D.ok,Bool.and_eq_true]at h ⊢
  refine⟨?_,mE hn hm rows h.2⟩
  cases g with
  |tok t y=>simp only[Tag.ok,decide_eq_true_eq]at h ⊢;omega
  |full=>rfl
  |shared=>rfl
 | .agg cs,h=>by
  simp only[D.ok]at h ⊢
  exact iC hn hm cs h
 | .tuple cs,h=>by
  simp only[D.ok]at h ⊢
  exact iC hn hm cs h
theorem iC {n m n' m':Nat} (hn:n≤n') (hm:m≤m') : ∀ l,D.bK n m l=true→D.bK n' m' l=true
 | [],_=>rfl
 |d::r,h=>by
  simp only[D.bK,Bool.and_eq_true]at h ⊢
  exact⟨FC hn hm d h.1,iC hn hm r h.2⟩
theorem mE {n m n' m':Nat} (hn:n≤n') (hm:m≤m') : ∀ l,D.gS n m l=true→D.gS n' m' l=true
 | [],_=>rfl
 |d::r,h=>by
  simp only[D.gS,Bool.and_eq_true]at h ⊢
  exact⟨iC hn hm d h.1,mE hn hm r h.2⟩
end
def S0:St:=⟨[],[]⟩
section
variable {P:Program} {f:Nat}
theorem aF.pure {args:List D} {d:D} (h:aF P f args S0 d S0) (ha:D.bK 0 0 args=true) (hd:D.ok 0 0 d=true) (s:St):aF P f args s d s:=by
 refine bM.frame [] [] h List.nodup_nil List.nodup_nil (by simp) (by simp) rfl (by simp) rfl (by simp) (by rw[fB _ _ _ ha]) ha ?_
 rintro _ _ ⟨rfl,rfl⟩
 refine⟨qu _ _ _ hd, ?_⟩
 simp[St.back,kD,S0]
theorem aF.TE {args row kp:List D} {d:D} (h:aF P f (.ptr 0 0::args) ⟨[row],[]⟩ d ⟨[kp],[]⟩) (ha:D.bK 0 0 args=true) (hr:D.bK 0 0 row=true) (Qj:D.bK 0 0 kp=true) (hd:D.ok 0 0 d=true)
 {s:St} {o:Nat} (ho:s.ah[o]? = some row):aF P f (.ptr o 0::args) s d ⟨s.ah.set o kp,s.aw⟩:=by
 refine bM.frame [o] [] h (by simp) List.nodup_nil (by simpa using (List.getElem?_eq_some_iff.1 ho).1) (by simp) rfl (fun i o' ds e1 e2=>?_) rfl (by simp) (by simp[D.e7,D.cU,fB _ _ _ ha])
  (by simp[D.bK,D.ok,iC (Nat.zero_le 1) (Nat.le_refl 0) _ ha]) ?_
 ·cases i with
  |zero=>simp at e1 e2;subst e1;subst e2;exact⟨by rw[fB _ _ _ hr];exact ho,iC (Nat.zero_le 1) (Nat.le_refl 0) _ hr⟩
  |succ i=>simp at e1
 ·rintro _ _ ⟨rfl,rfl⟩
  refine⟨qu _ _ _ hd, ?_⟩
  simp[St.back,kD,fB _ _ _ Qj]
end
end Go.Abs
namespace Go.Abs
theorem X.bZ {x:X} {tm bx:Tm} (h : ∀ t∈x.reads,tm.get t=bx.get t):x.ev tm=x.ev bx:=by
 cases x with
 |s t=>exact h t (by simp[X.reads])
 |k d=>rfl
theorem qZ {t:Nat} {x:X} : ∀ {l:List X},x∈l→t∈x.reads→t∈od l
 | [],h,_=>by cases h
 |y::r,h,ht=>by
  simp only[od,List.mem_append]
  rcases List.mem_cons.1 h with rfl|h
  ·exact .inl ht
  ·exact .inr (qZ h ht)
theorem wv {x:Option X} {tm bx:Tm} (h : ∀ t∈AT x,tm.get t=bx.get t):x.map (·.ev tm)=x.map (·.ev bx):=by
 cases x with
 |none=>rfl
 |some y=>simp only[Option.map_some];rw[X.bZ h]
theorem CW {o:AO} {tm bx:Tm} {s:St} (h : ∀ t∈o.reads,tm.get t=bx.get t):aJ o tm s=aJ o bx s:=by
 cases o with
 |mv x=>
  have hx:x.ev tm=x.ev bx:=X.bZ fun t ht=>h t (by simp[AO.reads,ht])
  simp only[aJ,hx]
 |pick c a b=>
  have hc:c.ev tm=c.ev bx:=X.bZ fun t ht=>h t (by simp[AO.reads,ht])
  have ha:a.ev tm=a.ev bx:=X.bZ fun t ht=>h t (by simp[AO.reads,ht])
  have hb:b.ev tm=b.ev bx:=X.bZ fun t ht=>h t (by simp[AO.reads,ht])
  simp only[aJ,hc,ha,hb]
 |alloc z=>
  rfl
 |sU z T=>rfl
 |AQ x T=>
  have hx:x.ev tm=x.ev bx:=X.bZ fun t ht=>h t (by simp[AO.reads,ht])
  simp only[aJ,hx]
 |AR x y=>
  have hx:x.ev tm=x.ev bx:=X.bZ fun t ht=>h t (by simp[AO.reads,ht])
  have hy:y.ev tm=y.ev bx:=X.bZ fun t ht=>h t (by simp[AO.reads,ht])
  simp only[aJ,hx,hy]
 |apps x y=>
  have hx:x.ev tm=x.ev bx:=X.bZ fun t ht=>h t (by simp[AO.reads,ht])
  have hy:y.ev tm=y.ev bx:=X.bZ fun t ht=>h t (by simp[AO.reads,ht])
  simp only[aJ,hx,hy]
 |box x=>
  have hx:x.ev tm=x.ev bx:=X.bZ fun t ht=>h t (by simp[AO.reads,ht])
  simp only[aJ,hx]
 |AN x=>
  have hx:x.ev tm=x.ev bx:=X.bZ fun t ht=>h t (by simp[AO.reads,ht])
  simp only[aJ,hx]
 |load x g n=>
  have hx:x.ev tm=x.ev bx:=X.bZ fun t ht=>h t (by simp[AO.reads,ht])
  simp only[aJ,hx]
 |store p x n=>
  have hp:p.ev tm=p.ev bx:=X.bZ fun t ht=>h t (by simp[AO.reads,ht])
  have hx:x.ev tm=x.ev bx:=X.bZ fun t ht=>h t (by simp[AO.reads,ht])
  simp only[aJ,hp,hx]
 |bT x=>
  have hx:x.ev tm=x.ev bx:=X.bZ fun t ht=>h t (by simp[AO.reads,ht])
  simp only[aJ,hx]
 |bin op x y=>
  have hx:x.ev tm=x.ev bx:=X.bZ fun t ht=>h t (by simp[AO.reads,ht])
  have hy:y.ev tm=y.ev bx:=X.bZ fun t ht=>h t (by simp[AO.reads,ht])
  simp only[aJ,hx,hy]
 |Gk n x y=>
  have hx:x.ev tm=x.ev bx:=X.bZ fun t ht=>h t (by simp[AO.reads,ht])
  have hy:y.ev tm=y.ev bx:=X.bZ fun t ht=>h t (by simp[AO.reads,ht])
  simp only[aJ,hx,hy]
 |eqs n ks x y=>
  have hx:x.ev tm=x.ev bx:=X.bZ fun t ht=>h t (by simp[AO.reads,ht])
  have hy:y.ev tm=y.ev bx:=X.bZ fun t ht=>h t (by simp[AO.reads,ht])
  simp only[aJ,hx,hy]
 |Gl n x y=>
  have hx:x.ev tm=x.ev bx:=X.bZ fun t ht=>h t (by simp[AO.reads,ht])
  have hy:y.ev tm=y.ev bx:=X.bZ fun t ht=>h t (by simp[AO.reads,ht])
  simp only[aJ,hx,hy]
 |un op x=>
  have hx:x.ev tm=x.ev bx:=X.bZ fun t ht=>h t (by simp[AO.reads,ht])
  simp only[aJ,hx]
 |conv k x=>
  have hx:x.ev tm=x.ev bx:=X.bZ fun t ht=>h t (by simp[AO.reads,ht])
  simp only[aJ,hx]
 |DZ x=>
  have hx:x.ev tm=x.ev bx:=X.bZ fun t ht=>h t (by simp[AO.reads,ht])
  simp only[aJ,hx]
 |xN x=>
  have hx:x.ev tm=x.ev bx:=X.bZ fun t ht=>h t (by simp[AO.reads,ht])
  simp only[aJ,hx]
 |aq x n=>
  have hx:x.ev tm=x.ev bx:=X.bZ fun t ht=>h t (by simp[AO.reads,ht])
  simp only[aJ,hx]
 |CJ x n g m=>
  have hx:x.ev tm=x.ev bx:=X.bZ fun t ht=>h t (by simp[AO.reads,ht])
  simp only[aJ,hx]
 |cd x i n=>
  have hx:x.ev tm=x.ev bx:=X.bZ fun t ht=>h t (by simp[AO.reads,ht])
  have hi:i.ev tm=i.ev bx:=X.bZ fun t ht=>h t (by simp[AO.reads,ht])
  simp only[aJ,hx,hi]
 |AP x i=>
  have hx:x.ev tm=x.ev bx:=X.bZ fun t ht=>h t (by simp[AO.reads,ht])
  have hi:i.ev tm=i.ev bx:=X.bZ fun t ht=>h t (by simp[AO.reads,ht])
  simp only[aJ,hx,hi]
 |ext x i=>
  have hx:x.ev tm=x.ev bx:=X.bZ fun t ht=>h t (by simp[AO.reads,ht])
  simp only[aJ,hx]
 |len x=>
  have hx:x.ev tm=x.ev bx:=X.bZ fun t ht=>h t (by simp[AO.reads,ht])
  simp only[aJ,hx]
 |u7 x=>
  have hx:x.ev tm=x.ev bx:=X.bZ fun t ht=>h t (by simp[AO.reads,ht])
  simp only[aJ,hx]
 |app a b x y=>
  have hx:x.ev tm=x.ev bx:=X.bZ fun t ht=>h t (by simp[AO.reads,ht])
  have hy:y.ev tm=y.ev bx:=X.bZ fun t ht=>h t (by simp[AO.reads,ht])
  simp only[aJ,hx,hy]
 |mm b x y=>
  have hx:x.ev tm=x.ev bx:=X.bZ fun t ht=>h t (by simp[AO.reads,ht])
  have hy:y.ev tm=y.ev bx:=X.bZ fun t ht=>h t (by simp[AO.reads,ht])
  simp only[aJ,hx,hy]
 | build z ps=>
  have hp:(ps.map fun p=>(p.1,p.2.1,p.2.2.ev tm))=ps.map fun p=>(p.1,p.2.1,p.2.2.ev bx):=List.map_congr_left fun p hp=>by
   have:p.2.2.ev tm=p.2.2.ev bx:=X.bZ fun t ht=>h t (by simp only[AO.reads];exact qZ (List.mem_map_of_mem hp) ht)
   rw[this]
  simp only[aJ,hp]
 | dt z m n ps=>
  have hp:(ps.map fun p=>(p.1,p.2.ev tm))=ps.map fun p=>(p.1,p.2.ev bx):=List.map_congr_left fun p hp=>by
   have:p.2.ev tm=p.2.ev bx:=X.bZ fun t ht=>h t (by simp only[AO.reads];exact qZ (List.mem_map_of_mem hp) ht)
   rw[this]
  simp only[aJ,hp]
 | u6 z m n ps=>
  have hp:(ps.map fun p=>(p.1,p.2.ev tm))=ps.map fun p=>(p.1,p.2.ev bx):=List.map_congr_left fun p hp=>by
   have:p.2.ev tm=p.2.ev bx:=X.bZ fun t ht=>h t (by simp only[AO.reads];exact qZ (List.mem_map_of_mem hp) ht)
   rw[this]
  simp only[aJ,hp]
 |D0 n x lo hi=>
  have hx:x.ev tm=x.ev bx:=X.bZ fun t ht=>h t (by simp[AO.reads,ht])
  have hl:lo.map (·.ev tm)=lo.map (·.ev bx):=wv fun t ht=>h t (by simp[AO.reads,ht])
  have hh:hi.map (·.ev tm)=hi.map (·.ev bx):=wv fun t ht=>h t (by simp[AO.reads,ht])
  simp only[aJ,hx,hl,hh]
 |Ii x lo hi=>
  have hx:x.ev tm=x.ev bx:=X.bZ fun t ht=>h t (by simp[AO.reads,ht])
  have hl:lo.map (·.ev tm)=lo.map (·.ev bx):=wv fun t ht=>h t (by simp[AO.reads,ht])
  have hh:hi.map (·.ev tm)=hi.map (·.ev bx):=wv fun t ht=>h t (by simp[AO.reads,ht])
  simp only[aJ,hx,hl,hh]
 |uJ f xs=>
  have hp:(xs.map fun x=>x.ev tm)=xs.map fun x=>x.ev bx:=List.map_congr_left fun x hx=>X.bZ fun t ht=>h t (by simp only[AO.reads];exact qZ hx ht)
  simp only[aJ,hp]
 |uK=>rfl
 |yK m k v=>
  have hm:m.ev tm=m.ev bx:=X.bZ fun t ht=>h t (by simp[AO.reads,ht])
  have hk:k.ev tm=k.ev bx:=X.bZ fun t ht=>h t (by simp[AO.reads,ht])
  have hv:v.ev tm=v.ev bx:=X.bZ fun t ht=>h t (by simp[AO.reads,ht])
  simp only[aJ,hm,hk,hv]
 |AS a b z l c=>
  have hl:l.ev tm=l.ev bx:=X.bZ fun t ht=>h t (by simp[AO.reads,ht])
  have hk:c.ev tm=c.ev bx:=X.bZ fun t ht=>h t (by simp[AO.reads,ht])
  simp only[aJ,hl,hk]
 |qK o x y=>
  have hx:x.ev tm=x.ev bx:=X.bZ fun t ht=>h t (by simp[AO.reads,ht])
  have hy:y.ev tm=y.ev bx:=X.bZ fun t ht=>h t (by simp[AO.reads,ht])
  simp only[aJ,hx,hy]
 |wc m k z=>
  have hm:m.ev tm=m.ev bx:=X.bZ fun t ht=>h t (by simp[AO.reads,ht])
  have hk:k.ev tm=k.ev bx:=X.bZ fun t ht=>h t (by simp[AO.reads,ht])
  simp only[aJ,hm,hk]
theorem KT {x d:D} {agg:Bool} {size:Nat} {s s':St} (h:yM x agg size s=some (d,s')):s'=s:=by
 unfold yM at h
 (repeat' (split at h))<;>first|(cases h;rfl)|cases h
theorem KU {o:AO} (ho:gJ o.kind=false) {tm:Tm} {s s':St} {d:D} (h:aJ o tm s=some (d,s')):s'=s:=by
 cases o<;>simp only[AO.kind,gJ]at ho<;>first|cases ho|skip
 all_goals
  simp only[aJ]at h
  first
   |(cases h;rfl)
   |(repeat' (split at h))<;>first|exact KT h|(cases h;rfl)|cases h
theorem Nl {o:AO} (ho:o.kind = .pure) {tm:Tm} {s s':St} : (aJ o tm s).map (·.1)=(aJ o tm s').map (·.1):=by
 cases o<;>simp only[AO.kind]at ho<;>first|cases ho|skip
 all_goals
  simp only[aJ]
  first
   |rfl
   |(repeat' split)<;>rfl
def jT (ai:AI) (tm:Tm) (s:St):Option D:=
 match ai with
 | .op _ none o=>(aJ o tm s).map (·.1)
 | .op _ (some (t,want)) o=>
  match tm.get t with
  | .bool b=>if b=want then(aJ o tm s).map (·.1)else some (.tuple [])
  | .tuple _=>some (.tuple [])
  |_=>none
 |_=>none
def sG (P:Program) (ai:AI) (tm:Tm) (s:St) (d:D) (s':St):Prop:=
 match ai with
 | .op _ g o=>guarded g tm (aJ o tm s=some (d,s')) (d = .tuple []∧s'=s)
 | .call _ g f xs=>guarded g tm (bM P f (xs.map (·.ev tm)) s fun x y=>x=d∧y=s') (d = .tuple []∧s'=s)
 | .nil .. =>False
 | .jt .. =>False
def kP (P:Program) (is:List AI) (K:Tm→St→Prop):List (Nat×Nat)→List St→Tm→St→Prop
 | [],_,tm,s=>K tm s
 | (q,b)::r,bH,tm,s=>
  match is[q]? with
  |none=>False
  |some ai=>
   match gJ ai.kind with
   |true=>∃ d s',sG P ai tm s d s'∧kP P is K r (s::bH) (tm.put ai.dst d) s'
   |false=>∃ d,jT ai tm s=some d∧(ai.kind = .load→∀ s'∈bH.take b,jT ai tm s'=some d)∧kP P is K r bH (tm.put ai.dst d) s
def Tm.eqv (a b:Tm):Prop:=∀ t,a.get t=b.get t
theorem Tm.ly (tm:Tm) (dst:Option Nat) (d:D) (t:Nat):(tm.put dst d).get t=if dst=some t then d else tm.get t:=by
 cases dst with
 |none=>simp[Tm.put]
 |some u=>
  simp only[Tm.put,Tm.Fw,Option.some.injEq]
  by_cases h:t=u
  ·subst h;simp
  ·rw[if_neg h,if_neg (fun e=>h e.symm)]
theorem Tm.eqv.put {a b:Tm} (h:a.eqv b) (dst:Option Nat) (d:D):(a.put dst d).eqv (b.put dst d):=fun t=>by
 rw[Tm.ly,Tm.ly,h t]
theorem Tm.IW (tm:Tm) {x y:Option Nat} (h : ∀ t,x=some t→y≠some t) (d e:D):((tm.put x d).put y e).eqv ((tm.put y e).put x d):=fun t=>by
 simp only[Tm.ly]
 by_cases h1:x=some t
 ·simp only[h1,h t h1,if_true,if_false]
 ·simp only[h1,if_false]
theorem Ak {g:Option (Nat×Bool)} {tm bx:Tm} {A A' C:Prop} (h : ∀ t∈u9 g,tm.get t=bx.get t) (ha:A→A') (hh:guarded g tm A C):guarded g bx A' C:=by
 cases g with
 |none=>exact ha hh
 | some p=>
  obtain⟨t,want⟩:=p
  unfold guarded at *
  simp only at *
  rw[← h t (by simp[u9])]
  split
  ·rename_i b hb
   rw[hb]at hh
   exact⟨fun e=>ha (hh.1 e),hh.2⟩
  ·rename_i hb
   rw[hb]at hh
   exact hh
  ·rename_i x h1 h2
   split at hh
   ·exact h1 _ ‹_›
   ·exact h2 _ ‹_›
   ·exact hh
theorem GC {tm bx:Tm} : ∀ {l:List X},(∀ t∈od l,tm.get t=bx.get t)→l.map (·.ev tm)=l.map (·.ev bx)
 | [],_=>rfl
 |x::r,h=>by
  simp only[List.map_cons]
  rw[X.bZ fun t ht=>h t (by simp[od,ht]),GC (l:=r) fun t ht=>h t (by simp[od,ht])]
theorem xi {P:Program} {ai:AI} {tm bx:Tm} {s s':St} {d:D} (h : ∀ t∈ai.reads,tm.get t=bx.get t) (hh:sG P ai tm s d s'):sG P ai bx s d s':=by
 cases ai with
 |op dst g o=>
  simp only[AI.reads,List.mem_append]at h
  exact Ak (fun t ht=>h t (.inl ht)) (fun e=>by rw[← CW fun t ht=>h t (.inr ht)];exact e) hh
 |call dst g f xs=>
  simp only[AI.reads,List.mem_append]at h
  exact Ak (fun t ht=>h t (.inl ht)) (fun e=>by rw[← GC fun t ht=>h t (.inr ht)];exact e) hh
 |nil dst g n x=>exact hh
 |jt dst g t xs=>exact hh
theorem qG {ai:AI} {tm bx:Tm} {s:St} (h : ∀ t∈ai.reads,tm.get t=bx.get t):jT ai tm s=jT ai bx s:=by
 cases ai with
 | op dst g o=>
  simp only[AI.reads,List.mem_append]at h
  have he:=CW (s:=s) fun t ht=>h t (.inr ht)
  cases g with
  |none=>simp only[jT,he]
  |some p=>
   obtain⟨t,want⟩:=p
   simp only[jT,he,h t (.inl (by simp[u9]))]
 |call dst g f xs=>rfl
 |nil dst g n x=>rfl
 |jt dst g t xs=>rfl
theorem LG {dst:Option Nat} {g:Option (Nat×Bool)} {o:AO} (h:gJ (AI.op dst g o).kind=false):(AI.op dst g o).kind=o.kind:=by
 unfold AI.kind at *
 split at h
 ·cases h
 ·rename_i heq;cases heq;rfl
 ·cases h
theorem TF {ai:AI} (hk:ai.kind = .pure) {tm:Tm} {s s':St} : jT ai tm s=jT ai tm s':=by
 cases ai with
 |op dst g o=>
  have ho:o.kind = .pure:=by rw[← hk];exact(LG (by rw[hk];rfl)).symm
  have he:=Nl ho (tm:=tm) (s:=s) (s':=s')
  cases g with
  |none=>simp only[jT,he]
  |some p=>simp only[jT,he]
 |call dst g f xs=>rfl
 |nil dst g n x=>rfl
 |jt dst g t xs=>rfl
theorem apart_spec {a q:AI} (h:a.apart q=true):(∀ t,a.dst=some t→t∉q.reads)∧(∀ t,q.dst=some t→t∉a.reads)∧(∀ t,a.dst=some t→q.dst≠some t):=by
 unfold AI.apart at h
 simp only[Bool.and_eq_true]at h
 obtain⟨⟨h1,h2⟩,h3⟩:=h
 refine⟨fun t e=>?_,fun t e=>?_,fun t e e'=>?_⟩
 ·rw[e]at h1;simpa[D2]using h1
 ·rw[e]at h2;simpa[D2]using h2
 ·rw[e,e']at h3;simp at h3
theorem sH {tm:Tm} {dst:Option Nat} {d:D} {l:List Nat} (h : ∀ t,dst=some t→t∉l) : ∀ t∈l,tm.get t=(tm.put dst d).get t:=fun t ht=>by
 rw[Tm.ly,if_neg fun e=>h t e ht]
section
variable {P:Program} {is:List AI} {K:Tm→St→Prop}
theorem sI (hK : ∀ tm bx s,Tm.eqv tm bx→K tm s→K bx s) : ∀ (R:List (Nat×Nat)) (bH:List St) (tm bx:Tm) (s:St),tm.eqv bx→kP P is K R bH tm s→kP P is K R bH bx s
 | [],_,tm,bx,s,e,h=>hK tm bx s e h
 | (q,b)::R,bH,tm,bx,s,e,h=>by
  unfold kP at *
  split at h
  ·exact h.elim
  ·rename_i ai wq
   split at h
   ·rename_i hc
    obtain⟨d,s',h1,h2⟩:=h
    exact⟨d,s',xi (fun t _=>e t) h1,sI hK R _ _ _ _ (e.put _ d) h2⟩
   ·rename_i hc
    obtain⟨d,h1,h2,h3⟩:=h
    refine⟨d, ?_,fun hl s' nc=>?_,sI hK R _ _ _ _ (e.put _ d) h3⟩
    ·rw[← qG fun t _=>e t];exact h1
    ·rw[← qG fun t _=>e t];exact h2 hl s' nc
theorem IX (i:Nat) (l:List Nat):jH is (i::l)=(if gJ (ju is i)then 1 else 0)+jH is l:=by
 unfold jH
 rw[List.filter_cons]
 split<;>simp<;>omega
theorem xj (hK : ∀ tm bx s,Tm.eqv tm bx→K tm s→K bx s) {q b:Nat} {ai:AI} (hq:is[q]? = some ai) (hm:gJ ai.kind=false) (Y:List (Nat×Nat)) :
 ∀ (X:List (Nat×Nat)) (bH:List St) (tm:Tm) (s:St),(∀ a∈X,ll is a.1 q=true)→(ai.kind = .load→jH is (X.map (·.1))≤b)→
  kP P is K (X++(q,b)::Y) bH tm s→
  ∃ d,jT ai tm s=some d∧(ai.kind = .load→∀ s'∈bH.take (b - jH is (X.map (·.1))),jT ai tm s'=some d)∧kP P is K (X++Y) bH (tm.put ai.dst d) s
 | [],bH,tm,s,_,_,h=>by
  simp only[List.nil_append,kP,hq,hm]at h
  obtain⟨d,h1,h2,h3⟩:=h
  exact⟨d,h1,fun hl s' nc=>h2 hl s' (by simpa[jH]using nc),h3⟩
 | (a,c)::X,bH,tm,s,eO,hb,h=>by
  have Nn:=eO (a,c) (by simp)
  unfold ll at Nn
  split at Nn
  ·rename_i ia iq hia uA
   rw[hq]at uA
   cases uA
   obtain⟨p1,p2,p3⟩:=apart_spec Nn
   have Qs:ju is a=ia.kind:=by simp[ju,hia]
   have HX : ∀ x∈X,ll is x.1 q=true:=fun x hx=>eO x (List.mem_cons_of_mem _ hx)
   rw[List.map_cons,IX,Qs]at hb ⊢
   simp only[List.cons_append,kP,hia]at h ⊢
   cases hc:gJ ia.kind
   ·simp only [hc,Bool.false_eq_true,if_false,Nat.zero_add]at h hb ⊢
    obtain⟨d,h1,h2,h3⟩:=h
    obtain⟨e,g1,g2,g3⟩:=xj hK hq hm Y X bH _ s HX hb h3
    have cg : ∀ s,jT ai tm s=jT ai (tm.put ia.dst d) s:=fun s=>qG (sH p1)
    have cg' : ∀ s,jT ia tm s=jT ia (tm.put ai.dst e) s:=fun s=>qG (sH p2)
    refine⟨e,by rw[cg];exact g1,fun hl s' nc=>by rw[cg];exact g2 hl s' nc,d,by rw[← cg'];exact h1,fun hl s' nc=>by rw[← cg'];exact h2 hl s' nc, ?_⟩
    exact sI hK _ _ _ _ _ (Tm.IW tm p3 d e) g3
   ·simp only [hc,if_true]at h hb ⊢
    obtain⟨d,s1,h1,h3⟩:=h
    obtain⟨e,g1,g2,g3⟩:=xj hK hq hm Y X (s::bH) _ s1 HX (fun hl=>by have:=hb hl;omega) h3
    have cg : ∀ s,jT ai tm s=jT ai (tm.put ia.dst d) s:=fun s=>qG (sH p1)
    have qj:jT ai tm s=some e:=by
     cases hk:ai.kind with
     |pure=>rw[cg,TF hk (s':=s1)];exact g1
     |load=>
      have:=hb hk
      rw[cg]
      refine g2 hk s ?_
      rw[show b - jH is (X.map (·.1))=(b - (1+jH is (X.map (·.1))))+1 by omega,List.take_succ_cons]
      exact List.mem_cons_self
     |alloc=>rw[hk]at hm;cases hm
     |core=>rw[hk]at hm;cases hm
    refine⟨e,qj,fun hl s' nc=>?_,d,s1,xi (sH p2) h1,sI hK _ _ _ _ _ (Tm.IW tm p3 d e) g3⟩
    have:=hb hl
    rw[cg]
    refine g2 hl s' ?_
    rw[show b - jH is (X.map (·.1))=(b - (1+jH is (X.map (·.1))))+1 by omega,List.take_succ_cons]
    exact List.mem_cons_of_mem _ nc
  ·cases Nn
end
end Go.Abs
namespace Go.Abs
section
variable {P:Program}
theorem QG {o:Oper} {z:List D} (h:D4 P o=some (.alloc z)) : ∃ t,o.op = .alloc t∧zeroOf P t=some z:=by
 obtain⟨dst,op,type,pos,after,guard⟩:=o
 unfold D4 at h
 simp only at h
 split at h
 case h_4 t=>
  split at h
  ·obtain⟨z',h1,h2⟩:=map_some h;cases h2
  ·obtain⟨z',h1,h2⟩:=map_some h;cases h2;exact⟨t,rfl,h1⟩
 all_goals
  first
   |(rw[Option.map_eq_some_iff]at h;obtain⟨_,_,h⟩:=h;cases h)
   |skip
 all_goals
  (repeat' (split at h))<;>first|(cases h;done)|(rw[Option.map_eq_some_iff]at h;obtain⟨_,_,h⟩:=h;cases h)
theorem Bg {nt:Nat} {ops:Array Oper} {o:Oper} {ai:AI} (h:cI P nt ops o=some ai) :
 ∃ g,va ops o.guard=some g∧(∀ t,o.dst=some t→t<nt)∧sB P ops o g=some ai:=by
 have h2:=x8 h
 unfold cI at h
 split at h
 ·cases h
 ·rename_i g hg
  split at h
  ·exact⟨g,hg,h2,h⟩
  ·cases h
theorem ta {ops:Array Oper} {o:Oper} {g:Option (Nat×Bool)} {ai:AI} (h:sB P ops o g=some ai):ai.dst=o.dst:=by
 unfold sB at h
 split at h
 ·split at h
  ·obtain⟨xs,_,rfl⟩:=map_some h;rfl
  ·cases h
 ·obtain⟨xs,_,rfl⟩:=map_some h;rfl
 ·split at h
  ·cases h;rfl
  ·split at h
   ·cases h;rfl
   ·cases h;rfl
   ·cases h
theorem tc {nt:Nat} {ops:Array Oper} {o:Oper} {ai:AI} (h:cI P nt ops o=some ai):ai.dst=o.dst:=by
 obtain⟨g,_,_,h⟩:=Bg h
 exact ta h
theorem xk {nt:Nat} {ops:Array Oper} {i:Nat} {o:Oper} {ai:AI} (hi:ops[i]? = some o) (hc:cI P nt ops o=some ai)
 {M:Map} {s:St} {w:World} {tm:Tm} {act:Act} (r:Rel M s w) (ky:Laid M s w) (ht:l8 M s tm act.tmps) {K':Tm→St→Prop} (h:ja P [ai] K' tm s)
 {K:Act→World→Prop} {Q:Exit→Act→World→Prop}
 (hK : ∀ d v s1 w1 M1,K' (tm.put ai.dst d) s1→Ext M s w M1 s1 w1→Rel M1 s1 w1→RD M1 s1 d v→K (act.put o.dst v) w1):wpOp P ops Q i K act w:=by
 obtain⟨g,hg,_,hb⟩:=Bg hc
 rw[ta hb]at hK
 simp only[wpOp,hi]
 have skip:K' (tm.put o.dst (.tuple [])) s→K (act.put o.dst Go.undef) w:=fun hk=>hK _ _ _ _ _ hk (Ext.refl M s w) r .undef
 unfold sB at hb
 split at hb
 ·rename_i f args mO mN
  split at hb
  ·rename_i yX
   obtain⟨xs,oO,rfl⟩:=map_some hb
   simp only[ja]at h
   rcases kj hg ht h with ⟨hw,hA⟩|⟨hw,hB⟩
   ·simp only [hw,if_true]
    left
    have hex:(execOp act.eval o).run P w = .ok (.enter f (args.map act.eval)) w:=by
     obtain⟨dst,op,type,pos,after,guard⟩:=o
     simp only at mN
     subst mN
     exact xf act.eval dst f args mO type pos after guard rfl yX w
    obtain⟨c1,c2⟩:=wo ht oO
    unfold Oper.wp
    rw[hex,Oper.upon_enter]
    refine(hA M w (args.map act.eval) r ky (by simp[c1]) (fun i d v e1 e2=>c2 i d v e1 (by simpa using e2))).mono ?_
    rintro en w' ⟨M',d,v,s',rfl,hk,e',r',hv⟩
    exact hK _ _ _ _ _ hk e' r' hv
   ·simp only [hw]
    exact skip hB
  ·cases hb
 ·rename_i t args mO mN
  obtain⟨xs,oO,rfl⟩:=map_some hb
  simp only[ja]at h
  rcases kj hg ht h with ⟨hw,hA⟩|⟨hw,hB⟩
  ·simp only [hw,if_true]
   left
   split at hA
   ·rename_i f nP oN
    obtain⟨yX,hA⟩:=hA
    have Qv:=ht t
    rw[oN]at Qv
    obtain⟨vs,oZ,hlen,Ef⟩:=Qv.LA
    have hex:(execOp act.eval o).run P w = .ok (.enter f (args.map act.eval++vs)) w:=by
     obtain⟨dst,op,type,pos,after,guard⟩:=o
     simp only at mN
     subst mN
     exact Bc act.eval dst (.tmp t) f vs args mO type pos after guard oZ yX w
    have cc:=Gx oO ht hlen Ef
    unfold Oper.wp
    rw[hex,Oper.upon_enter]
    refine(hA M w (args.map act.eval++vs) r ky cc.1 cc.2).mono ?_
    rintro en w' ⟨M',d,v,s',rfl,hk,e',r',hv⟩
    exact hK _ _ _ _ _ hk e' r' hv
   ·exact hA.elim
  ·simp only [hw]
   exact skip hB
 ·split at hb
  ·rename_i neg x Dk
   cases hb
   simp only[ja]at h
   rcases kj hg ht h with ⟨hw,hA⟩|⟨hw,hB⟩
   ·simp only [hw,if_true]
    left
    split at hA
    ·rename_i g' z rows hx
     obtain⟨b,hb,hex⟩:=Ag (w:=w) Dk ht hx
     unfold Oper.wp
     rw[hex,Oper.upon_value]
     exact hK _ _ _ _ _ (hA b hb) (Ext.refl M s w) r (.bool _)
    ·exact hA.elim
   ·simp only [hw]
    exact skip hB
  ·have fin : ∀ ao,ai = .op o.dst g ao→(∀ d s',aJ ao tm s=some (d,s')→cR P M s w (execOp act.eval o) d s')→
    (if Region.wanted o (yielded ops act.tmps)=true then o.wp P act w K Q∨(o.asks P act w∧LetsOut Q)else K (act.put o.dst Go.undef) w):=by
    intro ao wq hdo
    subst wq
    simp only[ja]at h
    rcases kj hg ht h with ⟨hw,hA⟩|⟨hw,hB⟩
    ·simp only [hw,if_true]
     left
     split at hA
     ·rename_i d s' qE
      obtain⟨v,w',M',dG,r',hv,e'⟩:=hdo d s' qE
      unfold Oper.wp
      rcases dG with dG|⟨dG,rfl⟩
      ·rw [dG,Oper.upon_value]
       exact hK _ _ _ _ _ hA e' r' hv
      ·rw [dG,Oper.upon_skip]
       exact hK _ _ _ _ _ hA e' r' hv
     ·exact hA.elim
    ·simp only [hw]
     exact skip hB
   split at hb
   ·rename_i z k n ps og
    cases hb
    refine fin _ rfl (fun d s' qE=>?_)
    split at qE
    ·exact yW og r ht qE
    ·exact sF og r ht qE
   ·rename_i ao og
    cases hb
    exact fin _ rfl (fun d s' qE=>sF og r ht qE)
   ·cases hb
structure LH (M:Map) (s:St) (b:Nat):Prop where
 o : ∀ o,o<s.ah.length→M.mu o≠b
 t : ∀ t c z,s.live t→M.be t≠some (b,c,z)
 g : ∀ off,M.G b off=none
theorem LH.mono {M M':Map} {s s':St} {w w':World} {b:Nat} (h:LH M s b) (e:Ext M s w M' s' w') (hb:b<w.heap.size):LH M' s' b:=by
 refine⟨fun o ho=>?_,fun t c z hl he=>?_,fun off=>?_⟩
 ·rcases e.mo ho with ⟨h1,h2⟩ | h1
  ·rw[h2];exact h.o o h1
  ·omega
 ·rcases e.qo t b c z hl he with ⟨h1,c',z',h2⟩ | h1
  ·exact h.t t c' z' h1 h2
  ·omega
 ·by_cases hg:M'.G b off=M.G b off
  ·rw[hg];exact h.g off
  ·rcases e.sb b off hg with h1 | ⟨t,c,z,h1,h2⟩
   ·omega
   ·exact(h.t t c z h1 h2).elim
theorem Rel.idle {M:Map} {s:St} {w:World} (r:Rel M s w) (x:Obj):Rel M s (w.alloc x)∧Ext M s w M s (w.alloc x)∧LH M s w.heap.size:=by
 refine⟨⟨fun b o v e=>?_,fun o ds e=>?_,r.jL,r.inj,fun t n e=>?_,r.fh,r.fU⟩, ?_,⟨fun o ho=>?_,fun t c z hl e=>?_,fun off=>r.ME (Nat.le_refl _) off⟩⟩
 ·obtain⟨h3,h4⟩:=r.comm b o v e
  refine⟨?_,h4⟩
  rw[World.cell?_alloc_lt]
  ·exact h3
  ·exact r.AY e
 ·obtain⟨vs,T,h3,h4,h5,h6⟩:=r.obj o ds e
  exact⟨vs,T,h3.keep (heap_alloc_old w _ _ h3.lt),h4,h5,h6⟩
 ·rcases r.tok t n e with h3 | ⟨b,cap,size,fD,T',h3,h4,h5⟩
  ·exact .inl h3
  ·exact .inr ⟨b,cap,size,fD,T',h3,by rw[heap_alloc_old w _ _ (kg h4)];exact h4,h5⟩
 ·exact⟨Le.refl M s,fun b hb _ _=>heap_alloc_old w _ b hb,fun o h3 h4=>by rcases h3 with h3|h3;omega;exact(h3 rfl).elim,fun t b c z h e=> .inl ⟨h,c,z,e⟩,fun _ _ h=>(h rfl).elim,by simp,rfl,rfl,rfl⟩
 ·have:=r.qh ho;omega
 ·have:=r.sC hl e;omega
theorem Rel.afe {M:Map} {s:St} {w:World} (r:Rel M s w) {B:fX} (e:Ext B.M B.s B.w M s w) {b:Nat} (u:LH M s b) (hb:B.w.heap.size≤b)
 (ds:List D) (vs:Array Value) (T:TypeId) (hh:w.heap[b]? = some (.cells vs T (0,0))) (hl:vs.size=ds.length) (h1 : ∀ v∈vs,v.oneCell'=true)
 (h2 : ∀ (i:Nat) (d:D) (v:Value),ds[i]? = some d→vs[i]? = some v→RD M s d v) :
 Rel (M.dN s.ah.length b) {s with ah:=s.ah++ [ds]} w∧Ext B.M B.s B.w (M.dN s.ah.length b) {s with ah:=s.ah++ [ds]} w∧
 Le M s (M.dN s.ah.length b) {s with ah:=s.ah++ [ds]}:=by
 have le:=se (M:=M) s b ds
 have mY : ∀ o,o<s.ah.length→(M.dN s.ah.length b).mu o=M.mu o:=fun o ho=>congrArg Prod.fst (sX M b .any ho)
 have dh:(M.dN s.ah.length b).mu s.ah.length=b:=by simp[Map.dN,Map.mu]
 refine⟨⟨r.comm,fun o nJ e'=>?_,fun o ho off=>?_,fun o o' ho nK e'=>?_,r.tok,fun t b' c z o hl e' ho=>?_,r.fU⟩, ?_,le⟩
 ·rcases Nat.lt_or_ge o s.ah.length with ho | ho
  ·rw [List.getElem?_append_left ho]at e'
   obtain⟨fD,T',h3,h4,h5,h6⟩:=r.obj o nJ e'
   refine⟨fD,T', ?_,h4,⟨h5.1,by rw[le.ty o ho];exact h5.2⟩,fun i d v e1 e2=>(h6 i d v e1 e2).mono le⟩
   rw[sX M b .any ho];exact h3
  ·rw [List.getElem?_append_right ho]at e'
   have:o=s.ah.length:=by
    have:=(List.getElem?_eq_some_iff.1 e').1
    simp at this;omega
   subst this
   simp at e';subst e'
   refine⟨vs,T, ?_,hl,⟨h1,fun T' h=>by simp[Map.dN,Map.ty,Ob.ty?]at h⟩,fun i d v e1 e2=>(h2 i d v e1 e2).mono le⟩
   have hl:(M.dN s.ah.length b).loc s.ah.length=(b, .any):=by simp[Map.dN]
   rw[hl];exact iG.of hh trivial
 ·simp at ho
  rcases Nat.lt_or_ge o s.ah.length with h3|h3
  ·rw[mY o h3];exact r.jL o h3 off
  ·have:o=s.ah.length:=by omega
   subst this
   rw[dh];exact u.g off
 ·simp at ho nK
  rcases Nat.lt_or_ge o s.ah.length with h3|h3<;>rcases Nat.lt_or_ge o' s.ah.length with h4|h4
  ·rw[mY o h3,mY o' h4]at e';exact r.inj o o' h3 h4 e'
  ·have:o'=s.ah.length:=by omega
   subst this
   rw[mY o h3,dh]at e'
   exact(u.o o h3 e').elim
  ·have:o=s.ah.length:=by omega
   subst this
   rw[mY o' h4,dh]at e'
   exact(u.o o' h4 e'.symm).elim
  ·omega
 ·simp at ho
  rcases Nat.lt_or_ge o s.ah.length with h3|h3
  ·rw[mY o h3];exact r.fh t b' c z o hl e' h3
  ·have:o=s.ah.length:=by omega
   subst this
   rw[dh]
   intro he
   subst he
   exact u.t t c z hl e'
 ·refine⟨e.le.trans le,e.kept,fun o h3 h4=> ?_,e.qo,e.sb,e.size,e.os,e.tape,e.output⟩
  simp at h4
  rcases Nat.lt_or_ge o s.ah.length with h5|h5
  ·rw[mY o h5]at h3 ⊢;exact e.tH o h3 h5
  ·have:o=s.ah.length:=by omega
   subst this
   rw[dh];exact hb
theorem KV {nt:Nat} {ops:Array Oper} {i:Nat} {o:Oper} {t:Nat} {z:List D} (hi:ops[i]? = some o) (hc:cI P nt ops o=some (.op (some t) none (.alloc z)))
 {w:World} {act:Act} {K:Act→World→Prop} {Q:Exit→Act→World→Prop}
 (hK : ∀ vs T,vs.size=z.length→(∀ v∈vs,v.oneCell'=true)→(∀ (M:Map) (s:St) (i:Nat) (d:D) (v:Value),z[i]? = some d→vs[i]? = some v→RD M s d v)→
  K (act.put (some t) (.pointer (some ⟨w.heap.size,0,none⟩))) (w.alloc (.cells vs T))):wpOp P ops Q i K act w:=by
 obtain⟨g,hg,_,hb⟩:=Bg hc
 have qt:=ta hb
 simp only[AI.dst]at qt
 simp only[wpOp,hi]
 have mN:g=none∧D4 P o=some (.alloc z):=by
  unfold sB at hb
  split at hb
  ·split at hb
   ·obtain⟨xs,_,h⟩:=map_some hb;cases h
   ·cases hb
  ·obtain⟨xs,_,h⟩:=map_some hb;cases h
  ·split at hb
   ·cases hb
   ·split at hb
    ·rename_i og
     simp only[Option.some.injEq,AI.op.injEq]at hb
     obtain⟨_,_,h⟩:=hb
     split at h<;>cases h
    ·rename_i ao og
     simp only[Option.some.injEq,AI.op.injEq]at hb
     obtain⟨_,h1,h2⟩:=hb
     subst h2
     exact⟨h1,og⟩
    ·cases hb
 obtain⟨rfl,og⟩:=mN
 obtain⟨T,hT,hz⟩:=QG og
 have hw:Region.wanted o (yielded ops act.tmps)=true:=by
  have:o.guard=none:=by
   cases Gp:o.guard with
   |none=>rfl
   |some p=>
    obtain⟨j,b⟩:=p
    rw[Gp]at hg
    unfold va at hg
    simp only at hg
    split at hg<;>cases hg
  simp[Region.wanted,this]
 simp only[hw,if_true]
 left
 unfold zeroOf at hz
 split at hz
 ·rename_i inf Nc
  split at hz
  ·rename_i v hv
   split at hz
   ·have dG:(execOp act.eval o).run P w = .ok (.value (.pointer (some ⟨w.heap.size,0,none⟩))) (w.alloc (.cells v.cells T)):=by
     obtain⟨dst,op,type,pos,after,guard⟩:=o
     simp only at hT
     subst hT
     simp[execOp,Instr.alloc,zeroValue,fW P Nc,hv,newVar,newRow]
    have h3:=fun M s=>lr (M:=M) (s:=s) hz
    obtain⟨h1,h2,_⟩:=h3 ⟨fun _ _=>none,fun _=>(0, .any),fun _=>none⟩ ⟨[],[]⟩
    unfold Oper.wp
    rw[dG,Oper.upon_value, ← qt]
    exact hK _ _ (by rw[h1];simp) (fun u hu=>h2 u (by simpa using hu)) (fun M s i d u e1 e2=>(h3 M s).2.2 i d u e1 (by simpa using e2))
   ·cases hz
  ·cases hz
 ·cases hz
end
end Go.Abs
namespace Go.Abs
section
variable {is:List AI} {af pt:List (List Nat)}
theorem Al {pq:List Nat} {l l':List Nat} (h:l'.Sublist l) (hb:k8 is pq l=true):k8 is pq l'=true:=by
 induction h with
 |slnil=>rfl
 |cons a h ih=>
  simp only[k8,Bool.and_eq_true]at hb
  exact ih hb.2
 |cons_cons a h ih=>
  simp only[k8,Bool.and_eq_true,Bool.or_eq_true]at hb ⊢
  refine⟨hb.1.imp id fun h1=>?_,ih hb.2⟩
  rw[List.all_eq_true]at h1 ⊢
  exact fun x hx=>h1 x (h.subset hx)
theorem Ca {f:Nat→Bool} {l l':List Nat} (h:l'.Sublist l) (ha:l.all f=true):l'.all f=true:=by
 rw[List.all_eq_true]at ha ⊢
 exact fun x hx=>ha x (h.subset hx)
theorem KW {l l':List Nat} (h:l'.Sublist l):jH is l'≤jH is l:=(h.filter _).length_le
theorem No {pre FD:List Nat} {q b:Nat} (h:FD.Sublist pre) (hs:oW is pt pre q b=true):oW is pt FD q b=true:=by
 unfold oW at *
 split at hs
 ·exact Ca h hs
 ·exact Ca h hs
 ·simp only [Bool.and_eq_true]at hs ⊢
  exact⟨Ca h hs.1,Al h hs.2⟩
 ·simp only [Bool.and_eq_true,decide_eq_true_eq]at hs ⊢
  exact⟨⟨Ca h hs.1.1,Al h hs.1.2⟩,Nat.le_trans (KW (h.filter _)) hs.2⟩
theorem IY : ∀ {R:List (Nat×Nat)} {pre FD:List Nat},FD.Sublist pre→uv is af pt pre R=true→uv is af pt FD R=true
 | [],_,_,_,_=>rfl
 |(q,b)::R,pre,FD,h,ho=>by
  simp only[uv,Bool.and_eq_true,Bool.not_eq_true']at ho ⊢
  obtain⟨⟨⟨h1,h2⟩,h3⟩,h4⟩:=ho
  refine⟨⟨⟨No h h1, ?_⟩,h3⟩,IY (h.cons_cons q) h4⟩
  rw[← Bool.not_eq_true,List.contains_iff_mem]at h2 ⊢
  exact fun hm=>h2 (h.subset hm)
theorem FE : ∀ {X:List (Nat×Nat)} {e:Nat×Nat} {Y:List (Nat×Nat)} {pre:List Nat},uv is af pt pre (X++e::Y)=true→uv is af pt pre (X++Y)=true
 | [],(q,b),Y,pre,h=>by
  simp only[List.nil_append,uv,Bool.and_eq_true]at h
  exact IY (List.sublist_cons_self q pre) h.2
 |(a,c)::X,e,Y,pre,h=>by
  simp only[List.cons_append,uv,Bool.and_eq_true]at h ⊢
  obtain⟨⟨⟨h1,h2⟩,h3⟩,h4⟩:=h
  refine⟨⟨⟨h1,h2⟩, ?_⟩,FE h4⟩
  rw[List.all_eq_true]at h3 ⊢
  intro j hj
  have:=h3 j hj
  simp only[Bool.and_eq_true,Bool.not_eq_true']at this ⊢
  refine⟨this.1, ?_⟩
  have h5:=this.2
  rw[← Bool.not_eq_true,List.contains_iff_mem]at h5 ⊢
  refine fun hm=>h5 ?_
  simp only[List.map_append,List.map_cons,List.mem_append,List.mem_cons]at hm ⊢
  exact hm.imp id .inr
theorem td : ∀ {X:List (Nat×Nat)} {q b:Nat} {Y:List (Nat×Nat)} {pre:List Nat},uv is af pt pre (X++(q,b)::Y)=true→
 oW is pt ((X.map (·.1)).reverse++pre) q b=true∧q∉X.map (·.1)∧q∉pre∧(∀ j∈gY af q,j≠q∧j∉Y.map (·.1))∧uv is af pt (q::((X.map (·.1)).reverse++pre)) Y=true
 | [],q,b,Y,pre,h=>by
  simp only[List.nil_append,uv,Bool.and_eq_true,Bool.not_eq_true']at h
  obtain⟨⟨⟨h1,h2⟩,h3⟩,h4⟩:=h
  rw[← Bool.not_eq_true,List.contains_iff_mem]at h2
  refine⟨h1,by simp,h2,fun j hj=>?_,h4⟩
  rw[List.all_eq_true]at h3
  have:=h3 j hj
  simp only[Bool.and_eq_true,bne_iff_ne,Bool.not_eq_true', ← Bool.not_eq_true,List.contains_iff_mem]at this
  exact this
 |(a,c)::X,q,b,Y,pre,h=>by
  simp only[List.cons_append,uv,Bool.and_eq_true]at h
  obtain⟨_,h4⟩:=h
  obtain⟨g1,g2,g3,g4,g5⟩:=td h4
  simp only[List.map_cons,List.reverse_cons,List.append_assoc,List.singleton_append]
  refine⟨g1, ?_,fun h=>g3 (List.mem_cons_of_mem _ h),g4,g5⟩
  intro hm
  rcases List.mem_cons.1 hm with rfl|hm
  ·exact g3 (by simp)
  ·exact g2 hm
theorem Cb : ∀ {Y:List (Nat×Nat)} {pre:List Nat},uv is af pt pre Y=true→∀ x∈Y,x.1∉pre∧(ju is x.1 = .alloc→∀ a∈pre,ll is a x.1=true)
 | [],_,_,x,hx=>by cases hx
 | (q,b)::Y,pre,h,x,hx=>by
  simp only[uv,Bool.and_eq_true,Bool.not_eq_true']at h
  obtain⟨⟨⟨h1,h2⟩,_⟩,h4⟩:=h
  rw[← Bool.not_eq_true,List.contains_iff_mem]at h2
  rcases List.mem_cons.1 hx with rfl|hx
  ·refine⟨h2,fun hk a ha=> ?_⟩
   unfold oW at h1
   simp only[hk]at h1
   rw[List.all_eq_true]at h1
   exact h1 a ha
  ·obtain⟨g1,g2⟩:=Cb h4 x hx
   exact⟨fun h=>g1 (List.mem_cons_of_mem _ h),fun hk a ha=>g2 hk a (List.mem_cons_of_mem _ ha)⟩
theorem CX : ∀ {n:Nat},xO af pt n=true→∀ i,i<n→∀ j∈gY pt i,j∈gY af i∨∃ k∈gY af i,j∈gY pt k
 | 0,_,i,hi=>by omega
 | n+1,h,i,hi=>by
  simp only[xO,Bool.and_eq_true]at h
  rcases Nat.lt_or_ge i n with h1|h1
  ·exact CX h.2 i h1
  ·have:i=n:=by omega
   subst this
   intro j hj
   have:=h.1
   rw[List.all_eq_true]at this
   have:=this j hj
   simp only[Bool.or_eq_true,List.contains_iff_mem,List.any_eq_true]at this
   exact this
theorem yd {pq:List Nat} : ∀ {l:List Nat},k8 is pq l=true→∀ (x:Nat) (l1 l2:List Nat),l=l1++x::l2→ju is x = .alloc→x∈pq→∀ y∈l2,y∈pq
 | [],_,x,l1,l2,h=>by simp at h
 | a::l,hb,x,l1,l2,h=>by
  simp only[k8,Bool.and_eq_true,Bool.or_eq_true,Bool.not_eq_true',Bool.and_eq_false_iff]at hb
  intro hk hx y hy
  cases l1 with
  | nil=>
   simp only[List.nil_append,List.cons.injEq]at h
   obtain⟨rfl,rfl⟩:=h
   rcases hb.1 with h1|h1
   ·rcases h1 with h1 | h1
    ·simp[hk]at h1
    ·rw [← Bool.not_eq_true,List.contains_iff_mem]at h1
     exact(h1 hx).elim
   ·rw [List.all_eq_true]at h1
    have:=h1 y hy
    rwa [List.contains_iff_mem]at this
  |cons b l1=>
   simp only[List.cons_append,List.cons.injEq]at h
   exact yd hb.2 x l1 l2 h.2 hk hx y hy
end
structure Pd where
 q:Nat
 t:Nat
 z:List D
 b:Nat
structure aa5 (is:List AI) (R:List (Nat×Nat)) (B:fX) (M:Map) (s:St) (act:Act) (w:World) (p:Pd):Prop where
 mem:p.q∈R.map (·.1)
 ai:is[p.q]? = some (.op (some p.t) none (.alloc p.z))
 cells : ∃ (vs:Array Value) (T:TypeId),w.heap[p.b]? = some (.cells vs T (0,0))∧vs.size=p.z.length∧(∀ v∈vs,v.oneCell'=true)∧
  ∀ (M:Map) (s:St) (i:Nat) (d:D) (v:Value),p.z[i]? = some d→vs[i]? = some v→RD M s d v
 unk:LH M s p.b
 base:B.w.heap.size≤p.b
 slot:act.tmps.getD p.t Go.undef = .pointer (some ⟨p.b,0,none⟩)
def zb (P:Program) (is:List AI) (K:Tm→St→Prop) (B:fX) (nt:Nat) (R:List (Nat×Nat)) (eg:List Pd) (act:Act) (w:World):Prop:=
 ∃ (M:Map) (s:St) (tm tf:Tm) (bH:List St),Ext B.M B.s B.w M s w∧Rel M s w∧l8 M s tf act.tmps∧(∀ t,(∀ p∈eg,p.t≠t)→tf.get t=tm.get t)∧
  act.tmps.size=nt∧act.defers = []∧kP P is K R bH tm s∧(∀ p∈eg,aa5 is R B M s act w p)∧
  (∀ p∈eg,∀ p'∈eg,p.q=p'.q∨p.t=p'.t∨p.b=p'.b→p=p')
structure q5 (is:List AI) (af pt:List (List Nat)) (du:Array Bool) (R:List (Nat×Nat)) (eg:List Pd):Prop where
 ok:uv is af pt [] R=true
 GD : ∀ i,i<is.length→(du.getD i false=true↔(i∉R.map (·.1)∨∃ p∈eg,p.q=i))
 cl : ∀ i,i<is.length→du.getD i false=true→∀ j∈gY pt i,du.getD j false=true
 size:du.size=is.length
 lt : ∀ x∈R,x.1<is.length
section
variable {P:Program} {is:List AI} {af pt:List (List Nat)} {K:Tm→St→Prop} {B:fX} {nt:Nat}
theorem aa6 {du:Array Bool} {q b:Nat} {R:List (Nat×Nat)} {eg:List Pd} {act:Act} {w:World} (hs:q5 is af pt du ((q,b)::R) eg) (h:zb P is K B nt ((q,b)::R) eg act w)
 {p:Pd} (hp:p∈eg) (uB:p.q=q) :
 q5 is af pt du R (eg.filter fun p'=>decide (p'.q≠q))∧zb P is K B nt R (eg.filter fun p'=>decide (p'.q≠q)) act w:=by
 have gD : ∀ p',p'∈(eg.filter fun p'=>decide (p'.q≠q))↔p'∈eg∧p'.q≠q:=fun p'=>by simp
 constructor
 ·have pK:=hs.ok
  have Dn:=td (X:= []) pK
  refine⟨FE (X:= []) pK,fun i hi=>?_,hs.cl,hs.size,fun x hx=>hs.lt x (List.mem_cons_of_mem _ hx)⟩
  rw[hs.GD i hi]
  simp only[List.map_cons,List.mem_cons,not_or]
  have hqR:q∉R.map (·.1):=fun hm=>by
   obtain⟨x,hx,rfl⟩:=List.mem_map.1 hm
   exact(Cb Dn.2.2.2.2 x hx).1 (by simp)
  constructor
  ·rintro(⟨h1,h2⟩ | ⟨p',h1,h2⟩)
   ·exact .inl h2
   ·by_cases hq:i=q
    ·subst hq;exact .inl hqR
    ·exact .inr ⟨p',(gD p').2 ⟨h1,by rw[h2];exact hq⟩,h2⟩
  ·rintro(h1 | ⟨p',h1,h2⟩)
   ·by_cases hq:i=q
    ·subst hq;exact .inr ⟨p,hp,uB⟩
    ·exact .inl ⟨hq,h1⟩
   ·exact .inr ⟨p',((gD p').1 h1).1,h2⟩
 ·obtain⟨M,s,tm,tf,bH,e,r,ht,qj,hn,hd,hg,wx,sJ⟩:=h
  have hk:=wx p hp
  obtain⟨vs,T,hh,hl,h1,h2⟩:=hk.cells
  have wq:=hk.ai
  rw[uB]at wq
  simp only[kP,wq,AI.kind,gJ]at hg
  obtain⟨d,s',jk,hg⟩:=hg
  have qE:aJ (.alloc p.z) tm s=some (d,s'):=jk
  simp only[aJ,Option.some.injEq,Prod.mk.injEq]at qE
  obtain⟨rfl,rfl⟩:=qE
  obtain⟨r',e',le⟩:=r.afe e hk.unk hk.base p.z vs T hh hl h1 (h2 M s)
  refine⟨_,_,_,tf.put (some p.t) (.ptr s.ah.length 0),_,e',r',fun u=>?_,fun t LI=>?_,hn,hd,hg,fun p' mV=>?_,fun p1 h1 p2 h2=>sJ p1 ((gD p1).1 h1).1 p2 ((gD p2).1 h2).1⟩
  ·rw [Tm.ly]
   split
   ·rename_i heq
    cases heq
    rw[hk.slot]
    have:(M.dN s.ah.length p.b).mu s.ah.length=p.b:=by simp[Map.dN,Map.mu]
    have h5:=RD.ptr (M:=M.dN s.ah.length p.b) (s:= {s with ah:=s.ah++ [p.z]}) s.ah.length 0 (by simp) (by simp[Map.dN,Map.ob,Ob.plain])
    rw[this]at h5
    exact h5
   ·exact(ht u).mono le
  ·simp only [AI.dst]
   rw[Tm.ly,Tm.ly]
   split
   ·rfl
   ·rename_i eK
    refine qj t fun p' mV=>?_
    by_cases hq:p'.q=q
    ·have:=sJ p' mV p hp (.inl (hq.trans uB.symm))
     subst this
     exact fun h=>eK (by rw[h])
    ·exact LI p' ((gD p').2 ⟨mV,hq⟩)
  ·obtain⟨hp1,hp2⟩:=(gD p').1 mV
   have uu:=wx p' hp1
   refine⟨?_,uu.ai,uu.cells,⟨fun o ho=>?_,uu.unk.t,uu.unk.g⟩,uu.base,uu.slot⟩
   ·have:=uu.mem
    simp only[List.map_cons,List.mem_cons]at this
    exact this.resolve_left hp2
   ·simp at ho
    rcases Nat.lt_or_ge o s.ah.length with h5|h5
    ·rw[show(M.dN s.ah.length p.b).mu o=M.mu o from congrArg Prod.fst (sX M p.b .any h5)];exact uu.unk.o o h5
    ·have:o=s.ah.length:=by omega
     subst this
     have:(M.dN s.ah.length p.b).mu s.ah.length=p.b:=by simp[Map.dN,Map.mu]
     rw[this]
     intro hb
     have:=sJ p hp p' hp1 (.inr (.inr hb))
     subst this
     exact hp2 uB
theorem norm {du:Array Bool} {act:Act} {w:World} : ∀ (R:List (Nat×Nat)) (eg:List Pd),q5 is af pt du R eg→zb P is K B nt R eg act w→
 ∃ R' wy,q5 is af pt du R' wy∧zb P is K B nt R' wy act w∧∀ x l,R'=x::l→∀ p∈wy,p.q≠x.1
 | [],eg,hs,h=>⟨[],eg,hs,h,fun _ _ he=>by cases he⟩
 | (q,b)::R,eg,hs,h=>by
  by_cases hp : ∃ p∈eg,p.q=q
  ·obtain⟨p,hp,uB⟩:=hp
   obtain⟨h1,h2⟩:=aa6 hs h hp uB
   exact norm R _ h1 h2
  ·refine⟨(q,b)::R,eg,hs,h,fun x l he p hpm uB=>hp ⟨p,hpm, ?_⟩⟩
   cases he
   exact uB
theorem WH {ops:Array Oper} {q:Nat} {o:Oper} {ai:AI} (hi:ops[q]? = some o) (hc:cI P nt ops o=some ai) {R R':List (Nat×Nat)} {eg:List Pd} {act:Act} {w:World} {M:Map} {s s1:St} {tm tf:Tm} {d:D} {WI:List St}
 (e:Ext B.M B.s B.w M s w) (r:Rel M s w) (ht:l8 M s tf act.tmps) (qj : ∀ t,(∀ p∈eg,p.t≠t)→tf.get t=tm.get t) (hn:act.tmps.size=nt) (hd:act.defers = [])
 (wx : ∀ p∈eg,aa5 is R B M s act w p) (sJ : ∀ p∈eg,∀ p'∈eg,p.q=p'.q∨p.t=p'.t∨p.b=p'.b→p=p')
 (hv:ja P [ai] (fun a b=>a=tf.put ai.dst d∧b=s1) tf s) (hg:kP P is K R' WI (tm.put ai.dst d) s1)
 (gD : ∀ p∈eg,p.q∈R'.map (·.1)) (qt : ∀ p∈eg,ai.dst≠some p.t) {Q:Exit→Act→World→Prop} :
 wpOp P ops Q q (zb P is K B nt R' eg) act w:=by
 refine xk hi hc r (B.laid.ext e) ht hv fun d' v s2 w1 M1 hk e1 r1 jv=>?_
 obtain⟨wh,rfl⟩:=hk
 have hde:=tc hc
 have hD : ∀ t,o.dst=some t→t<act.tmps.size:=fun t h=>by rw[hn];exact x8 hc t h
 refine⟨M1,s2,tm.put ai.dst d,tf.put ai.dst d,WI,e.trans e1,r1, ?_,fun t LI=>?_, ?_, ?_,hg,fun p hp=>?_,sJ⟩
 ·rw [← wh,hde]
  exact(ht.mono e1.le).put hD jv
 ·rw[Tm.ly,Tm.ly,qj t LI]
 ·cases ho:o.dst<;>simp[Act.put,hn]
 ·cases ho:o.dst<;>simp[Act.put,hd]
 ·have hk:=wx p hp
  obtain⟨vs,T,hh,hl,h1,h2⟩:=hk.cells
  have hb:=kg hh
  refine⟨gD p hp,hk.ai,⟨vs,T,by rw[e1.kept p.b hb hk.unk.o hk.unk.t];exact hh,hl,h1,h2⟩,hk.unk.mono e1 hb,hk.base, ?_⟩
  rw[← hk.slot]
  have:=qt p hp
  rw[hde]at this
  cases ho:o.dst with
  |none=>rfl
  |some t=>
   rw[ho]at this
   have eK:t≠p.t:=fun h=>this (by rw[h])
   simp[Act.put,Array.getElem?_setIfInBounds_ne eK]
theorem Np {ai:AI} (hm:gJ ai.kind=false) {tm:Tm} {s:St} {d:D} (h:jT ai tm s=some d):ja P [ai] (fun a b=>a=tm.put ai.dst d∧b=s) tm s:=by
 cases ai with
 | op dst g o=>
  have hko:=LG hm
  have key : ∀ {d},(aJ o tm s).map (·.1)=some d→aJ o tm s=some (d,s):=by
   intro d h
   cases he:aJ o tm s with
   |none=>rw[he]at h;cases h
   |some p=>
    obtain⟨d',s'⟩:=p
    rw[he]at h
    simp only[Option.map_some,Option.some.injEq]at h
    subst h
    rw[KU (by rw[← hko];exact hm) he]
  simp only[ja,AI.dst]
  cases g with
  |none=>
   simp only[jT]at h
   simp only[guarded,key h,and_self]
  | some p=>
   obtain⟨t,want⟩:=p
   simp only[jT]at h
   simp only[guarded]
   split at h
   ·rename_i b hb
    simp only[hb]
    split at h
    ·rename_i heq
     refine⟨fun _=>by simp only[key h,and_self],fun eK=>?_⟩
     subst heq
     cases b<;>cases eK
    ·rename_i eK
     cases h
     exact⟨fun heq=>(eK heq).elim,fun _=>by simp⟩
   ·rename_i ds hb
    cases h
    simp only[hb,and_self]
   ·cases h
 |call dst g f xs=>cases hm
 |nil dst g n x=>cases hm
 |jt dst g t xs=>cases hm
theorem Bh {g:Option (Nat×Bool)} {tm:Tm} {A A' C C':Prop} (ha:A→A') (hc:C→C') (hh:guarded g tm A C):guarded g tm A' C':=by
 cases g with
 |none=>exact ha hh
 | some p=>
  obtain⟨t,want⟩:=p
  unfold guarded at *
  simp only at *
  split
  ·rename_i b hb;rw[hb]at hh;exact⟨fun e=>ha (hh.1 e),fun e=>hc (hh.2 e)⟩
  ·rename_i hb;rw[hb]at hh;exact hc hh
  ·rename_i x h1 h2
   split at hh
   ·exact h1 _ ‹_›
   ·exact h2 _ ‹_›
   ·exact hh
theorem IZ {ai:AI} {tm:Tm} {s s1:St} {d:D} (h:sG P ai tm s d s1):ja P [ai] (fun a b=>a=tm.put ai.dst d∧b=s1) tm s:=by
 cases ai with
 |op dst g o=>
  refine Bh (fun e=>?_) (fun e=>?_) h
  ·rw[e];exact⟨rfl,rfl⟩
  ·obtain⟨rfl,rfl⟩:=e;exact⟨rfl,rfl⟩
 |call dst g f xs=>
  refine Bh (fun e=>?_) (fun e=>?_) h
  ·exact e.mono fun x y hxy=>by obtain⟨rfl,rfl⟩:=hxy;exact⟨rfl,rfl⟩
  ·obtain⟨rfl,rfl⟩:=e;exact⟨rfl,rfl⟩
 |nil dst g n x=>exact h.elim
 |jt dst g t xs=>exact h.elim
end
end Go.Abs
namespace Go.Abs
section
variable {P:Program} {is:List AI} {af pt:List (List Nat)} {K:Tm→St→Prop} {B:fX} {nt:Nat}
theorem Cc {ops:Array Oper} : ∀ {ol:List Oper} {is:List AI},qN P nt ops ol=some is→is.length=ol.length∧∀ (i:Nat) (o:Oper),ol[i]? = some o→∃ ai,is[i]? = some ai∧cI P nt ops o=some ai
 | [],is,h=>by cases h;exact⟨rfl,by simp⟩
 | o::ol,is,h=>by
  unfold qN at h
  split at h
  ·rename_i ai Qu h1 h2
   cases h
   obtain⟨g1,g2⟩:=Cc h2
   refine⟨by simp[g1],fun i o' ho=>?_⟩
   cases i with
   |zero=>simp at ho;subst ho;exact⟨ai,rfl,h1⟩
   |succ i=>exact g2 i o' (by simpa using ho)
  ·cases h
theorem sK {du:Array Bool} {i:Nat} (h:i<du.size):du.getD i true=du.getD i false:=by
 simp[h]
theorem q5.done {du:Array Bool} {X Y:List (Nat×Nat)} {q b:Nat} {eg:List Pd} (hs:q5 is af pt du (X++(q,b)::Y) eg) (hq:q<is.length)
 (GF : ∀ j∈gY pt q,du.getD j false=true):q5 is af pt (du.setIfInBounds q true) (X++Y) eg:=by
 obtain⟨g1,g2,g3,g4,g5⟩:=td hs.ok
 have hqY:q∉Y.map (·.1):=fun hm=>by
  obtain⟨x,hx,rfl⟩:=List.mem_map.1 hm
  exact(Cb g5 x hx).1 (by simp)
 refine⟨FE hs.ok,fun i hi=>?_,fun i hi hl j hj=>?_,by simp[hs.size],fun x hx=>hs.lt x (by simp at hx ⊢;exact hx.imp id .inr)⟩
 ·by_cases uA:i=q
  ·subst uA
   have:i<du.size:=by rw[hs.size];exact hq
   simp only[List.map_append,List.mem_append,g2,hqY,or_self,not_false_eq_true,true_or,iff_true]
   simp[this]
  ·rw [getD_set_ne false (Ne.symm uA),hs.GD i hi]
   simp[uA]
 ·by_cases uA:i=q
  ·subst uA;exact getD_set_true (GF j hj)
  ·rw [getD_set_ne false (Ne.symm uA)]at hl
   exact getD_set_true (hs.cl i hi hl j hj)
theorem q5.flag {du:Array Bool} {R:List (Nat×Nat)} {eg:List Pd} (hs:q5 is af pt du R eg) {p:Pd} (hq:p.q<is.length)
 (GF : ∀ j∈gY pt p.q,du.getD j false=true):q5 is af pt (du.setIfInBounds p.q true) R (p::eg):=by
 refine⟨hs.ok,fun i hi=>?_,fun i hi hl j hj=>?_,by simp[hs.size],hs.lt⟩
 ·by_cases uA:i=p.q
  ·subst uA
   have:p.q<du.size:=by rw[hs.size];exact hq
   simp[this]
  ·rw [getD_set_ne false (Ne.symm uA),hs.GD i hi]
   have eK:p.q≠i:=fun h=>uA h.symm
   simp[eK]
 ·by_cases uA:i=p.q
  ·subst uA;exact getD_set_true (GF j hj)
  ·rw [getD_set_ne false (Ne.symm uA)]at hl
   exact getD_set_true (hs.cl i hi hl j hj)
theorem Nq {ai:AI} (h:ai.kind = .alloc) : ∃ t z,ai = .op (some t) none (.alloc z):=by
 cases ai with
 | op dst g o=>
  unfold AI.kind at h
  split at h
  ·rename_i heq;cases heq;exact⟨_,_,rfl⟩
  ·rename_i heq
   cases heq
   exfalso
   revert h
   cases o<;>simp[AO.kind]
  ·cases h
 |call dst g f xs=>cases h
 |nil dst g n x=>cases h
 |jt dst g t xs=>cases h
theorem Nr {ops:Array Oper} (xl:qN P nt ops ops.toList=some is) (Ns:xO af pt is.length=true)
 (hK : ∀ tm bx s,Tm.eqv tm bx→K tm s→K bx s) {du:Array Bool} {R:List (Nat×Nat)} {eg:List Pd} {act:Act} {w:World} (hs:q5 is af pt du R eg) (h:zb P is K B nt R eg act w)
 (afg : ∀ x l,R=x::l→∀ p∈eg,p.q≠x.1) {q:Nat} (hq:q<is.length) (El:du.getD q false=false) (jv : ∀ j∈gY af q,j<is.length∧du.getD j false=true)
 {Q:Exit→Act→World→Prop} {K2:Act→World→Prop} (hK2 : ∀ R' wy a' w',q5 is af pt (du.setIfInBounds q true) R' wy→zb P is K B nt R' wy a' w'→K2 a' w'):wpOp P ops Q q K2 act w:=by
 obtain⟨hlen,hY⟩:=Cc xl
 have vi:q<ops.size:=by rw[hlen]at hq;simpa using hq
 obtain⟨ai,wq,QI⟩:=hY q ops[q] (by simp[vi])
 have hi:ops[q]? = some ops[q]:=by simp[vi]
 have GF : ∀ j∈gY pt q,du.getD j false=true:=fun j hj=>by
  rcases CX Ns q hq j hj with h1|⟨k,h1,h2⟩
  ·exact(jv j h1).2
  ·exact hs.cl k (jv k h1).1 (jv k h1).2 j h2
 have QJ : ∀ p∈eg,p.q≠q:=fun p hp uB=>by
  have:=(hs.GD q hq).2 (.inr ⟨p,hp,uB⟩)
  rw[El]at this;cases this
 have hqR:q∈R.map (·.1):=by
  by_cases hm:q∈R.map (·.1)
  ·exact hm
  ·have:=(hs.GD q hq).2 (.inl hm)
   rw[El]at this;cases this
 obtain⟨⟨q',b⟩,hx,hqq⟩:=List.mem_map.1 hqR
 simp only at hqq
 subst hqq
 obtain⟨X,Y,rfl⟩:=List.append_of_mem hx
 obtain⟨g1,g2,g3,g4,g5⟩:=td hs.ok
 rw[List.append_nil]at g1 g5
 obtain⟨M,s,tm,tf,bH,e,r,ht,qj,hn,hd,hg,wx,sJ⟩:=h
 have QK:ju is q'=ai.kind:=by simp[ju,wq]
 -- what must have come up ahead of it, is not here any more, but for what was allocated early
 have WJ : ∀ a∈X.map (·.1),a∈gY pt q'→∃ p∈eg,p.q=a:=fun a ha eO=>by
  have h1:=GF a eO
  obtain⟨x,hxX,rfl⟩:=List.mem_map.1 ha
  rcases(hs.GD x.1 (hs.lt x (by simp[hxX]))).1 h1 with h2|h2
  ·exact(h2 (by simp;exact .inl ⟨x.2,hxX⟩)).elim
  ·exact h2
 have WK : ∀ x l,X=x::l→x.1∉gY pt q':=fun x l hX hxp=>by
  obtain⟨p,hp,uB⟩:=WJ x.1 (by simp[hX]) hxp
  exact afg x (l++(q',b)::Y) (by simp[hX]) p hp uB
 have hpk : ∀ p∈eg,ju is p.q = .alloc:=fun p hp=>by simp[ju,(wx p hp).ai,AI.kind]
 have Dn : ∀ p∈eg,(p.q∈X.map (·.1)→ll is p.q q'=true)→(∀ t,ai.dst=some t→t≠p.t)∧p.t∉ai.reads:=fun p hp hX=>by
  have hk:=wx p hp
  have hm:=hk.mem
  simp only[List.map_append,List.map_cons,List.mem_append,List.mem_cons]at hm
  rcases hm with hm|hm|hm
  ·have:=hX hm
   simp only[ll,hk.ai,wq]at this
   obtain⟨p1,p2,p3⟩:=apart_spec this
   exact⟨fun t ht he=>p3 p.t rfl (by rw[ht,he]),p1 p.t rfl⟩
  ·exact(QJ p hp hm).elim
  ·obtain⟨x,hxY,WL⟩:=List.mem_map.1 hm
   have:=(Cb g5 x hxY).2 (by rw[WL];exact hpk p hp) q' (by simp)
   rw[WL]at this
   simp only[ll,hk.ai,wq]at this
   obtain⟨p1,p2,p3⟩:=apart_spec this
   exact⟨fun t ht he=>p3 t ht (by rw[he];rfl),p2 p.t rfl⟩
 have QL:(∀ p∈eg,p.t∉ai.reads)→∀ t∈ai.reads,tm.get t=tf.get t:=fun hp t ht=>(qj t fun p hpm he=>hp p hpm (by rw[he];exact ht)).symm
 have WM : ∀ p∈eg,p.q∈(X++Y).map (·.1):=fun p hp=>by
  have hm:=(wx p hp).mem
  have:=QJ p hp
  simp only[List.map_append,List.map_cons,List.mem_append,List.mem_cons]at hm ⊢
  rcases hm with hm|hm|hm
  ·exact .inl hm
  ·exact(this hm).elim
  ·exact .inr hm
 by_cases ye:ai.kind = .alloc
 ·-- an allocation
  obtain⟨t,z,rfl⟩:=Nq ye
  have eO : ∀ a∈X.map (·.1),ll is a q'=true:=fun a ha=>by
   unfold oW at g1
   rw[QK,ye]at g1
   simp only[List.all_reverse,List.all_eq_true]at g1
   exact g1 a ha
  have rZ:=fun p hp=>Dn p hp (eO p.q)
  refine KV hi QI fun vs T hl h1 h2=>?_
  obtain⟨r1,e1,u1⟩:=r.idle (.cells vs T)
  have abd:t<act.tmps.size:=by
   rw[hn]
   exact x8 QI t (by rw[← tc QI];rfl)
  have:=hs.flag (p:=⟨q',t,z,w.heap.size⟩) hq GF
  refine hK2 _ _ _ _ this ⟨M,s,tm,tf.put (some t) .junk,bH,e.trans e1,r1,l8.put ht (dst:=some t) (fun u hu=>by cases hu;exact abd) (.junk _),fun u hu=>?_,by simp[Act.put,hn],by simp[Act.put,hd],hg,fun p hp=>?_,fun p hp p' mV he=>?_⟩
  ·have h3:=hu ⟨q',t,z,w.heap.size⟩ (by simp)
   rw[Tm.ly,if_neg (by simpa using h3)]
   exact qj u fun p hp=>hu p (List.mem_cons_of_mem _ hp)
  ·rcases List.mem_cons.1 hp with rfl | hp
   ·refine⟨by simp,wq,⟨vs,T,heap_alloc_new w _,hl,h1,h2⟩,u1,e.size, ?_⟩
    simp[Act.put,abd]
   ·have hk:=wx p hp
    obtain⟨fD,T',kb,l9,rY,uz⟩:=hk.cells
    refine⟨hk.mem,hk.ai,⟨fD,T',by rw[heap_alloc_old w _ _ (kg kb)];exact kb,l9,rY,uz⟩,hk.unk,hk.base, ?_⟩
    rw[← hk.slot]
    have eK:t≠p.t:=(rZ p hp).1 t rfl
    simp[Act.put,Array.getElem?_setIfInBounds_ne eK]
  ·have dh : ∀ p∈eg,¬ (q'=p.q∨t=p.t∨w.heap.size=p.b):=fun p hp h=>by
    rcases h with h|h|h
    ·exact QJ p hp h.symm
    ·exact(rZ p hp).1 t rfl h
    ·obtain⟨fD,T',kb,_⟩:=(wx p hp).cells
     have:=kg kb
     omega
   rcases List.mem_cons.1 hp with rfl|hp<;>rcases List.mem_cons.1 mV with rfl|mV
   ·rfl
   ·exact(dh p' mV he).elim
   ·exact(dh p hp (he.imp Eq.symm (Or.imp Eq.symm Eq.symm))).elim
   ·exact sJ p hp p' mV he
 ·by_cases og:gJ ai.kind=true
  ·-- a step that changes something: it stands first
   have hkc:ai.kind = .core:=by
    cases hk:ai.kind<;>simp_all [gJ]
   have hX:X = []:=by
    cases X with
    |nil=>rfl
    |cons x l=>
     refine(WK x l rfl ?_).elim
     unfold oW at g1
     rw[QK,hkc]at g1
     simp only[List.all_reverse,List.all_eq_true]at g1
     have:=g1 x.1 (by simp)
     rwa [List.contains_iff_mem]at this
   subst hX
   have rZ:=fun p hp=>Dn p hp (fun h=>by simp at h)
   simp only[List.nil_append,kP,wq,og]at hg
   obtain⟨d,s1,jk,hg⟩:=hg
   have ajs:=xi (QL fun p hp=>(rZ p hp).2) jk
   refine wpOp_mono (fun a' w' hr=>hK2 _ _ _ _ (hs.done hq GF) hr) ?_
   exact WH hi QI e r ht qj hn hd wx sJ (IZ ajs) hg WM (fun p hp he=>(rZ p hp).1 _ he rfl)
  ·-- a step that changes nothing
   have hm:gJ ai.kind=false:=by simpa using og
   have nW : ∀ a∈X.map (·.1),a∉gY pt q':=fun a ha eO=>by
    obtain⟨p,hp,uB⟩:=WJ a ha eO
    have Qs:ju is a = .alloc:=by rw[← uB];exact hpk p hp
    have kJ:k8 is (gY pt q') (X.map (·.1)).reverse=true:=by
     unfold oW at g1
     rw[QK]at g1
     cases hk:ai.kind with
     |pure=>simp only[hk,Bool.and_eq_true]at g1;exact g1.2
     |load=>simp only[hk,Bool.and_eq_true]at g1;exact g1.1.2
     |alloc=>exact(ye hk).elim
     |core=>rw[hk]at hm;cases hm
    cases X with
    |nil=>simp at ha
    | cons x l=>
     have ha2:a∈((x::l).map (·.1)).reverse:=List.mem_reverse.2 ha
     obtain⟨l1,l2,CY⟩:=List.append_of_mem ha2
     have vn:=yd kJ a l1 l2 CY Qs eO
     refine WK x l rfl ?_
     cases iY:l2.reverse with
     |nil=>
      have h3:l2 = []:=by simpa using iY
      subst h3
      have:=congrArg List.reverse CY
      simp at this
      rw[this.1];exact eO
     |cons y l3=>
      have:=congrArg List.reverse CY
      simp only[List.reverse_reverse,List.map_cons,List.reverse_append,List.reverse_cons,List.reverse_nil,List.append_assoc,iY,List.cons_append,List.nil_append,List.cons.injEq]at this
      rw[this.1]
      exact vn y (by rw[← List.mem_reverse,iY];simp)
   have eO : ∀ a∈X,ll is a.1 q'=true:=fun a ha=>by
    have h3 : ∀ x∈(X.map (·.1)).reverse,((gY pt q').contains x ||ll is x q')=true:=by
     unfold oW at g1
     rw[QK]at g1
     cases hk:ai.kind with
     |pure=>simp only[hk,Bool.and_eq_true]at g1;exact List.all_eq_true.1 g1.1
     |load=>simp only[hk,Bool.and_eq_true]at g1;exact List.all_eq_true.1 g1.1.1
     |alloc=>exact(ye hk).elim
     |core=>rw[hk]at hm;cases hm
    have:=h3 a.1 (List.mem_reverse.2 (List.mem_map_of_mem ha))
    simp only[Bool.or_eq_true,List.contains_iff_mem]at this
    exact this.resolve_left (nW a.1 (List.mem_map_of_mem ha))
   have abe:ai.kind = .load→jH is (X.map (·.1))≤b:=fun hk=>by
    unfold oW at g1
    rw[QK,hk]at g1
    simp only[Bool.and_eq_true,decide_eq_true_eq]at g1
    have h3:=g1.2
    have h4:(X.map (·.1)).reverse.filter (fun a=> !(gY pt q').contains a)=(X.map (·.1)).reverse:=by
     rw[List.filter_eq_self]
     intro a ha
     have:=nW a (List.mem_reverse.1 ha)
     simpa using this
    rw[h4]at h3
    unfold jH at h3 ⊢
    rw[List.filter_reverse,List.length_reverse]at h3
    exact h3
   have rZ:=fun p hp=>Dn p hp (fun h=>by
    obtain⟨x,hx,WL⟩:=List.mem_map.1 h
    rw[← WL];exact eO x hx)
   obtain⟨d,h1,_,CQ⟩:=xj hK wq hm Y X bH tm s eO abe hg
   have rY:jT ai tf s=some d:=by rw[← qG (QL fun p hp=>(rZ p hp).2)];exact h1
   refine wpOp_mono (fun a' w' hr=>hK2 _ _ _ _ (hs.done hq GF) hr) ?_
   exact WH hi QI e r ht qj hn hd wx sJ (Np hm rY) CQ WM (fun p hp he=>(rZ p hp).1 _ he rfl)
theorem CZ {o:Oper} {j:Nat} : j∈mW o↔∃ e∈o.after,Region.binds .any e=true∧e.on=j:=by
 simp only[mW,List.mem_map,List.mem_filter,Array.mem_toList_iff]
 constructor
 ·rintro⟨e,⟨h1,h2⟩,h3⟩;exact⟨e,h1,h2,h3⟩
 ·rintro⟨e,h1,h2,h3⟩;exact⟨e,⟨h1,h2⟩,h3⟩
theorem Nt {ops:Array Oper} (xl:qN P nt ops ops.toList=some is) (Ns:xO (ops.toList.map mW) pt is.length=true)
 (abf : ∀ i,i<is.length→∀ j∈gY (ops.toList.map mW) i,j<is.length) {Q:Exit→Tm→St→Prop} (hK : ∀ tm bx s,Tm.eqv tm bx→K tm s→K bx s)
 (hKQ : ∀ tm s act w,K tm s→Holds B nt tm s act w→pQ B nt Q .normal act w) :
 ∀ (fuel:Nat) (du:Array Bool) (R:List (Nat×Nat)) (eg:List Pd) (act:Act) (w:World) (U:List Nat),U.length≤fuel→(∀ j,j<is.length→du.getD j false=false→j∈U)→
  q5 is (ops.toList.map mW) pt du R eg→zb P is K B nt R eg act w→wpAny P .any ops (pQ B nt Q) fuel du act w:=by
 obtain⟨hlen,_⟩:=Cc xl
 have sE:is.length=ops.size:=by rw[hlen];simp
 have abg : ∀ (j:Nat) (o:Oper),ops[j]? = some o→gY (ops.toList.map mW) j=mW o:=fun j o h=>by
  simp[gY,List.getD,h]
 have fin : ∀ {du:Array Bool} {eg:List Pd} {act:Act} {w:World},zb P is K B nt [] eg act w→pQ B nt Q .normal act w:=by
  intro du eg act w h
  obtain⟨M,s,tm,tf,bH,e,r,ht,qj,hn,hd,hg,wx,sJ⟩:=h
  have Dk : ∀ p∈eg,False:=fun p hp=>by have:=(wx p hp).mem;simp at this
  exact hKQ tf s act w (hK tm tf s (fun t=>(qj t fun p hp=>(Dk p hp).elim).symm) hg) ⟨M,e,r,ht,hn,hd⟩
 have QM : ∀ {du:Array Bool} {R:List (Nat×Nat)} {eg:List Pd} {x:Nat×Nat} {l:List (Nat×Nat)},q5 is (ops.toList.map mW) pt du R eg→R=x::l→(∀ p∈eg,p.q≠x.1)→
  x.1∈Region.ready .any ops du:=by
  intro du R eg x l hs hR QJ
  subst hR
  have hx:=hs.lt x (by simp)
  rw[mem_ready]
  have El:du.getD x.1 false=false:=by
   cases hl:du.getD x.1 false with
   |false=>rfl
   |true=>
    rcases(hs.GD x.1 hx).1 hl with h1|⟨p,hp,uB⟩
    ·exact(h1 (by simp)).elim
    ·exact(QJ p hp uB).elim
  have hxo:x.1<ops.size:=by rw[← sE];exact hx
  refine⟨by rw[sK (by rw[hs.size];exact hx)];exact El,ops[x.1],by simp[hxo],fun e he hb=>?_⟩
  have hm:e.on∈gY (ops.toList.map mW) x.1:=by rw[abg x.1 ops[x.1] (by simp[hxo])];exact CZ.2 ⟨e,he,hb,rfl⟩
  obtain⟨_,_,_,g4,_⟩:=td (X:= []) (q:=x.1) (b:=x.2) hs.ok
  obtain⟨h1,h2⟩:=g4 _ hm
  refine(hs.GD e.on (abf x.1 hx _ hm)).2 (.inl ?_)
  simp only[List.map_cons,List.mem_cons,not_or]
  exact⟨h1,h2⟩
 intro fuel
 induction fuel with
 | zero=>
  intro du R eg act w U hU El hs h
  obtain⟨R',wy,nc,h',hn⟩:=norm R eg hs h
  have hUn:U = []:=List.length_eq_zero_iff.1 (by omega)
  have vn : ∀ j,j<is.length→du.getD j false=true:=fun j hj=>by
   cases hl:du.getD j false with
   |true=>rfl
   |false=>have:=El j hj hl;rw[hUn]at this;cases this
  have hR:R' = []:=by
   cases hR:R' with
   |nil=>rfl
   |cons x l=>
    have hx:=nc.lt x (by simp[hR])
    have:=QM nc hR (hn x l hR)
    rw[mem_ready,sK (by rw[nc.size];exact hx),vn x.1 hx]at this
    cases this.1
  subst hR
  refine⟨?_,fin (du:=du) h'⟩
  cases hr:Region.ready .any ops du with
  |nil=>rfl
  |cons j js=>
   have hj:j∈Region.ready .any ops du:=by rw[hr];simp
   rw[mem_ready]at hj
   obtain⟨h1,o,ho,_⟩:=hj
   have WN:j<is.length:=by rw[sE];exact(Array.getElem?_eq_some_iff.1 ho).1
   rw[sK (by rw[hs.size];exact WN),vn j WN]at h1
   cases h1
 | succ fuel ih=>
  intro du R eg act w U hU El hs h
  obtain⟨R',wy,nc,h',hn⟩:=norm R eg hs h
  refine⟨fun hr=>?_,fun i hi=>?_⟩
  ·cases hR:R' with
   |nil=>subst hR;exact fin (du:=du) h'
   |cons x l=>
    have:=QM nc hR (hn x l hR)
    rw[hr]at this
    cases this
  ·rw [mem_ready]at hi
   obtain⟨h1,o,ho,ajt⟩:=hi
   have qF:i<is.length:=by rw[sE];exact(Array.getElem?_eq_some_iff.1 ho).1
   rw[sK (by rw[hs.size];exact qF)]at h1
   refine Nr xl Ns hK nc h' hn qF h1 (fun j hj=>⟨abf i qF j hj, ?_⟩) fun R2 afj a2 w2 Ae h2=>?_
   ·rw [abg i o ho]at hj
    obtain⟨e,he,hb,rfl⟩:=CZ.1 hj
    exact ajt e he hb
   ·refine ih _ R2 afj a2 w2 (U.erase i) ?_ (fun j hj hl=> ?_) Ae h2
    ·have:=List.length_erase_of_mem (El i qF h1)
     omega
    ·have hji:j≠i:=fun e=>by
      subst e
      have:j<du.size:=by rw[hs.size];exact qF
      simp[this]at hl
     rw[getD_set_ne false (Ne.symm hji)]at hl
     exact(List.mem_erase_of_ne hji).2 (El j hj hl)
theorem Sem.par {is:List AI} {lT:List (Nat×Nat)} {Q:Exit→Tm→St→Prop} {tm:Tm} {s:St} (h:kP P is (Q .normal) lT [] tm s):Sem P B nt (.par is lT) Q tm s:=by
 intro c hc act w hh
 obtain⟨id,ops,rfl,hi,hm,pt,hp⟩:=lG hc
 simp only[Ij,Bool.and_eq_true,List.all_eq_true,List.mem_range,List.contains_iff_mem,decide_eq_true_eq]at hp
 obtain⟨⟨⟨⟨h1,h2⟩,h3⟩,h4⟩,h5⟩:=hp
 obtain⟨hlen,_⟩:=Cc hi
 have sE:is.length=ops.size:=by rw[hlen];simp
 refine wp_region_any hm ?_
 obtain⟨M,e,r,ht,hn,hd⟩:=hh
 have key : ∀ (R:List (Nat×Nat)) (bH:List St) (tm:Tm) (s:St),kP P is (Q .normal) R bH tm s→kP P is (fun tm s=>∃ bx,tm.eqv bx∧Q .normal bx s) R bH tm s:=by
  intro R
  induction R with
  |nil=>intro bH tm s h;exact⟨tm,fun _=>rfl,h⟩
  | cons x R ih=>
   obtain⟨q,b⟩:=x
   intro bH tm s h
   unfold kP at h ⊢
   split at h
   ·exact h.elim
   ·split at h
    ·obtain⟨d,s',h1,h2⟩:=h;exact⟨d,s',h1,ih _ _ _ h2⟩
    ·obtain⟨d,h1,h2,h3⟩:=h;exact⟨d,h1,h2,ih _ _ _ h3⟩
 have hg:=key _ _ _ _ h
 refine Nt (K:=fun tm s=>∃ bx,tm.eqv bx∧Q .normal bx s) hi h1 h5 (fun tm bx s he ⟨t2,h3,h4⟩=>⟨t2,fun t=>(he t).symm.trans (h3 t),h4⟩)
  (fun tm s act w ⟨t2,h3,h4⟩ ⟨M,e,r,ht,hn,hd⟩=>⟨t2,s,h4,M,e,r,fun t=>by rw[← h3 t];exact ht t,hn,hd⟩) ops.size _ lT [] act _ (List.range is.length) (by simp[sE]) (fun j hj _=>by simpa using hj)
  ⟨h2,fun i hi=>?_,fun i hi hl=>?_,by simp[sE],h4⟩ ⟨M,s,tm,tm,[],⟨e.le,e.kept,e.tH,e.qo,e.sb,e.size,e.os,e.tape,e.output⟩,r.of_heap rfl,ht,fun _ _=>rfl,hn,hd,hg,by simp,by simp⟩
 ·have:i<ops.size:=by rw [← sE];exact hi
  have h6:=h3 i hi
  simp only[List.not_mem_nil,false_and,exists_false,or_false]
  rw[show(Array.replicate ops.size false).getD i false=false by simp[this]]
  simp[h6]
 ·have:i<ops.size:=by rw [← sE];exact hi
  rw[show(Array.replicate ops.size false).getD i false=false by simp[this]]at hl
  cases hl
end
end Go.Abs
namespace Go.Abs
theorem Ys (k:IntKind) (n:Int):D.row (.int k n)=some [.int k n]:=rfl
theorem TG (b:Bool):D.row (.bool b)=some [.bool b]:=rfl
theorem Yt (l:List UInt8):D.row (.str l)=some [.str l]:=rfl
theorem TH:D.row .dS=some [.dS]:=rfl
theorem Yu (o f:Nat):D.row (.ptr o f)=some [.ptr o f]:=rfl
theorem TI (r:List D) (f:Nat):D.row (.dz r f)=some [.dz r f]:=rfl
theorem QN (g:Tag) (z:Nat) (r:List (List D)):D.row (.slice g z r)=some [.slice g z r]:=rfl
theorem Yv (cs:List D):D.row (.agg cs)=some cs:=rfl
theorem Yw (v:Value):D.row (.val v)=some [.val v]:=rfl
theorem QO (T:TypeId) (o:Nat):D.row (.fv T o)=some [.fv T o]:=rfl
theorem Yx (f:Nat) (cs:List D):D.row (.gi f cs)=some [.gi f cs]:=rfl
theorem TJ (o:Nat):D.row (.fS o)=some [.fS o]:=rfl
theorem TK (w:Bool):Tag.cut .full w=if w then .full else .shared:=rfl
theorem Nu (w:Bool):Tag.cut .shared w = .shared:=rfl
theorem TL (t:Nat) (y:Bool) (w:Bool):Tag.cut (.tok t y) w = .tok t y:=rfl
section
variable {P:Program}
def KC (P:Program) (r:List AI) (K:Tm→St→Prop) (tm:Tm) (dst:Option Nat) (d:D) (s:St):Prop:=ja P r K (tm.put dst d) s
def GI (P:Program) (g:D) (want:Bool) (i:AI) (r:List AI) (K:Tm→St→Prop) (tm:Tm) (s:St):Prop:=
 match g with
 | .bool b=>(b=want→ja P (i::r) K tm s)∧(b=(!want)→ja P r K (tm.put i.dst (.tuple [])) s)
 | .tuple _=>ja P r K (tm.put i.dst (.tuple [])) s
 |_=>False
def NI (P:Program) (dst:Option Nat) (neg:Bool) (x:D) (r:List AI) (K:Tm→St→Prop) (tm:Tm) (s:St):Prop:=
 match x with
 | .slice _ _ rows=>∀ b:Bool,(rows≠ []→b=false)→ja P r K (tm.put dst (.bool (if neg then !b else b))) s
 |_=>False
def uN (d:D) (A C:Prop):Prop:=
 match d with
 | .bool b=>(b=true→A)∧(b=false→C)
 |_=>False
theorem Sem.afk {B:fX} {nt:Nat} {Q:Exit→Tm→St→Prop} {tm:Tm} {s:St} {x:X} {a b:AC} (h:uN (x.ev tm) (Sem P B nt a Q tm s) (Sem P B nt b Q tm s)):Sem P B nt (.cond x a b) Q tm s:=by
 unfold uN at h
 split at h
 ·rename_i t ht
  exact Sem.cond ht h.1 h.2
 ·exact h.elim
def gL (P:Program) (K:Tm→St→Prop):List (AI×Nat)→List St→Tm→St→Prop
 | [],_,tm,s=>K tm s
 |(ai,b)::r,bH,tm,s=>
  match gJ ai.kind with
  |true=>∃ d s',sG P ai tm s d s'∧gL P K r (s::bH) (tm.put ai.dst d) s'
  |false=>∃ d,jT ai tm s=some d∧(ai.kind = .load→∀ s'∈bH.take b,jT ai tm s'=some d)∧gL P K r bH (tm.put ai.dst d) s
def nh (is:List AI):List (Nat×Nat)→Option (List (AI×Nat))
 | []=>some []
 |(q,b)::r=>match is[q]?,nh is r with
  |some ai,some l=>some ((ai,b)::l)
  |_,_=>none
theorem FF {is:List AI} {K:Tm→St→Prop} : ∀ {lT:List (Nat×Nat)} {items:List (AI×Nat)} {bH:List St} {tm:Tm} {s:St},nh is lT=some items→gL P K items bH tm s→kP P is K lT bH tm s
 | [],items,bH,tm,s,h,g=>by cases h;exact g
 | (q,b)::r,items,bH,tm,s,h,g=>by
  simp only[nh]at h
  split at h
  ·rename_i ai l h1 h2
   cases h
   simp only[gL]at g
   simp only[kP,h1]
   split at g
   ·rename_i hk
    obtain⟨d,s',g1,g2⟩:=g
    try simp only[hk]
    exact⟨d,s',g1,FF h2 g2⟩
   ·rename_i hk
    obtain⟨d,g1,g2,g3⟩:=g
    try simp only[hk]
    exact⟨d,g1,g2,FF h2 g3⟩
  ·cases h
theorem Sem.aju {B:fX} {nt:Nat} {Q:Exit→Tm→St→Prop} {tm:Tm} {s:St} {is:List AI} {lT:List (Nat×Nat)} {items:List (AI×Nat)} (hi:nh is lT=some items) (h:gL P (Q .normal) items [] tm s):Sem P B nt (.par is lT) Q tm s:=
 Sem.par (FF hi h)
def AI.free:AI→AI
 | .op d _ o=> .op d none o
 | .call d _ f xs=> .call d none f xs
 | .nil d _ n x=> .nil d none n x
 | .jt d _ t xs=> .jt d none t xs
def GL (P:Program) (g:D) (want:Bool) (i:AI) (b:Nat) (r:List (AI×Nat)) (K:Tm→St→Prop) (bH:List St) (tm:Tm) (s:St):Prop:=
 match g with
 | .bool v=>(v=want→gL P K ((i,b)::r) bH tm s)∧(v=(!want)→gL P K r (if gJ i.kind then s::bH else bH) (tm.put i.dst (.tuple [])) s)
 | .tuple _=>gL P K r (if gJ i.kind then s::bH else bH) (tm.put i.dst (.tuple [])) s
 |_=>False
def CL (one:Bool) (P:Program) (f:Nat) (args:List D) (s:St) (K:D→St→Prop):Prop:=
 match one with
 |true=>∃ d s',aF P f args s d s'∧K d s'
 |false=>bM P f args s K
def KL (P:Program) (K:Tm→St→Prop) (r:List (AI×Nat)) (bH:List St) (tm:Tm) (dst:Option Nat) (d:D) (s:St):Prop:=gL P K r bH (tm.put dst d) s
def oh (i:AI) (tm:Tm) (d:D):List St→Prop
 | []=>True
 |s::r=>jT i tm s=some d∧oh i tm d r
theorem Em {i:AI} {tm:Tm} {d:D} : ∀ {l:List St},oh i tm d l→∀ s∈l,jT i tm s=some d
 | [],_,s,h=>by cases h
 |a::l,h,s,hs=>by
  rcases List.mem_cons.1 hs with rfl|hs
  ·exact h.1
  ·exact Em h.2 s hs
def PL (P:Program) (o:AO) (dst:Option Nat) (b:Nat) (r:List (AI×Nat)) (K:Tm→St→Prop) (bH:List St) (tm:Tm) (s:St):Prop:=
 match aJ o tm s with
 |some (d,_)=>oh (.op dst none o) tm d (bH.take b)∧gL P K r bH (tm.put dst d) s
 |none=>False
def ML (P:Program) (o:AO) (dst:Option Nat) (r:List (AI×Nat)) (K:Tm→St→Prop) (bH:List St) (tm:Tm) (s:St):Prop:=
 match aJ o tm s with
 |some (d,s')=>gL P K r (s::bH) (tm.put dst d) s'
 |none=>False
def AO.core:AO→Bool
 | .alloc _=>true
 | .box _=>true
 | .u6 .. =>true
 | .AN _=>true
 | .store .. =>true
 | .app .. =>true
 | .sU .. =>true
 | .AQ .. =>true
 | .AR .. =>true
 | .apps .. =>true
 | .uK=>true
 | .yK .. =>true
 | .AS .. =>true
 |_=>false
theorem tj (dst:Option Nat) (g:Option (Nat×Bool)) (o:AO):gJ (AI.op dst g o).kind=o.core:=by
 cases dst<;>cases g<;>cases o<;>rfl
def OL (P:Program) (o:AO) (dst:Option Nat) (b:Nat) (r:List (AI×Nat)) (K:Tm→St→Prop) (bH:List St) (tm:Tm) (s:St):Prop:=
 match o.core with
 |true=>ML P o dst r K bH tm s
 |false=>PL P o dst b r K bH tm s
theorem I0 {K:Tm→St→Prop} {dst:Option Nat} {o:AO} {b:Nat} {r:List (AI×Nat)} {bH:List St} {tm:Tm} {s:St} (h:OL P o dst b r K bH tm s) :
 gL P K ((.op dst none o,b)::r) bH tm s:=by
 unfold OL at h
 simp only[gL,tj]
 cases hc:o.core with
 | true=>
  simp only[hc,ML]at h
  simp only[]
  split at h
  ·rename_i d s' he
   exact⟨d,s',by simpa[sG,guarded]using he,h⟩
  ·exact h.elim
 | false=>
  simp only[hc,PL]at h
  simp only[]
  split at h
  ·rename_i d s' he
   exact⟨d,by simp[jT,he],fun _=>Em h.1,h.2⟩
  ·exact h.elim
theorem Nv {K:Tm→St→Prop} {dst:Option Nat} {f:Nat} {xs:List X} {b:Nat} {r:List (AI×Nat)} {bH:List St} {tm:Tm} {s:St} (h:CL true P f (xs.map (·.ev tm)) s (KL P K r (s::bH) tm dst)) :
 gL P K ((.call dst none f xs,b)::r) bH tm s:=by
 obtain⟨d,s',h1,h2⟩:=h
 exact⟨d,s',h1,h2⟩
theorem abh {K:Tm→St→Prop} {i:AI} {t:Nat} {w:Bool} {b:Nat} {r:List (AI×Nat)} {bH:List St} {tm:Tm} {s:St} {j:AI} (hf:(∃ d o,i = .op d none o∧j = .op d (some (t,w)) o)∨(∃ d f xs,i = .call d none f xs∧j = .call d (some (t,w)) f xs))
 (hg:tm.get t = .bool w) (h:gL P K ((i,b)::r) bH tm s):gL P K ((j,b)::r) bH tm s:=by
 rcases hf with ⟨d,o,rfl,rfl⟩|⟨d,f,xs,rfl,rfl⟩
 ·simp only [gL,tj]at h ⊢
  cases hc:o.core<;>simp only[hc]at h ⊢
  ·obtain⟨x,h1,h2,h3⟩:=h
   refine⟨x,by simpa[jT,hg]using h1,fun hk s' nc=>?_,h3⟩
   have uu:(AI.op d none o).kind = .load:=by
    cases d<;>cases o<;>first|exact hk|(cases hc;done)|(cases hk;done)
   simpa[jT,hg]using h2 uu s' nc
  ·obtain⟨x,s',h1,h2⟩:=h
   exact⟨x,s',by simpa[sG,guarded,hg]using h1,h2⟩
 ·obtain⟨x,s',h1,h2⟩:=h
  exact⟨x,s',by simpa[sG,guarded,hg]using h1,h2⟩
theorem QP {K:Tm→St→Prop} {i:AI} {t:Nat} {w:Bool} {b:Nat} {r:List (AI×Nat)} {bH:List St} {tm:Tm} {s:St} {j:AI} (hf:(∃ d o,i = .op d none o∧j = .op d (some (t,w)) o)∨(∃ d f xs,i = .call d none f xs∧j = .call d (some (t,w)) f xs))
 (hg:tm.get t = .bool (!w)∨∃ l,tm.get t = .tuple l) (h:gL P K r (if gJ i.kind then s::bH else bH) (tm.put i.dst (.tuple [])) s):gL P K ((j,b)::r) bH tm s:=by
 rcases hf with ⟨d,o,rfl,rfl⟩|⟨d,f,xs,rfl,rfl⟩
 ·simp only [gL,tj]at h ⊢
  cases hc:o.core<;>simp only[hc]at h ⊢
  ·refine⟨.tuple [], ?_,fun hk s' nc=> ?_,h⟩
   ·rcases hg with hg|⟨l,hg⟩<;>simp[jT,hg]
   ·rcases hg with hg|⟨l,hg⟩<;>simp[jT,hg]
  ·refine⟨.tuple [],s, ?_,h⟩
   rcases hg with hg|⟨l,hg⟩<;>simp[sG,guarded,hg]
 ·refine⟨.tuple [],s, ?_,h⟩
  rcases hg with hg|⟨l,hg⟩<;>simp[sG,guarded,hg]
theorem LJ {K:Tm→St→Prop} {i j:AI} {t:Nat} {w:Bool} {b:Nat} {r:List (AI×Nat)} {bH:List St} {tm:Tm} {s:St} (hf:(∃ d o,i = .op d none o∧j = .op d (some (t,w)) o)∨(∃ d f xs,i = .call d none f xs∧j = .call d (some (t,w)) f xs))
 (h:GL P (tm.get t) w i b r K bH tm s):gL P K ((j,b)::r) bH tm s:=by
 unfold GL at h
 split at h
 ·rename_i v hv
  by_cases e:v=w
  ·exact abh hf (by rw[hv,e]) (h.1 e)
  ·exact QP hf (.inl (by rw[hv];cases v<;>cases w<;>simp_all)) (h.2 (by cases v<;>cases w<;>simp_all))
 ·rename_i l hl
  exact QP hf (.inr ⟨l,hl⟩) h
 ·exact h.elim
theorem GG {K:Tm→St→Prop} {dst:Option Nat} {o:AO} {t:Nat} {w:Bool} {b:Nat} {r:List (AI×Nat)} {bH:List St} {tm:Tm} {s:St} (h:GL P (tm.get t) w (.op dst none o) b r K bH tm s) :
 gL P K ((.op dst (some (t,w)) o,b)::r) bH tm s:=LJ (.inl ⟨dst,o,rfl,rfl⟩) h
theorem KX {K:Tm→St→Prop} {dst:Option Nat} {f:Nat} {xs:List X} {t:Nat} {w:Bool} {b:Nat} {r:List (AI×Nat)} {bH:List St} {tm:Tm} {s:St} (h:GL P (tm.get t) w (.call dst none f xs) b r K bH tm s) :
 gL P K ((.call dst (some (t,w)) f xs,b)::r) bH tm s:=LJ (.inr ⟨dst,f,xs,rfl,rfl⟩) h
theorem CL.use {one:Bool} {f:Nat} {args:List D} {s:St} {d:D} {s':St} {K:D→St→Prop} (h:aF P f args s d s') (hk:K d s'):CL one P f args s K:=
 match one with
 |true=>⟨d,s',h,hk⟩
 |false=>h.use hk
theorem CU {one:Bool} {f:Nat} {args:List D} {s:St} {d:D} {s':St} {K:D→St→Prop} (h:aF P f args s d s') (hk:K d s'):CL one P f args s K:=CL.use h hk
theorem CR {f:Nat} {args:List D} {s:St} {Q K:D→St→Prop} (h:bM P f args s Q) (hk : ∀ d s',Q d s'→K d s'):CL false P f args s K:=bM.mono h hk
end
end Go.Abs
namespace Go.Abs
theorem nd {α:Type} {a b:α} (h:a=b):a=b:=h
def GJ (g:D) (w:Bool) (A C:Prop):Prop:=
 match g with
 | .bool b=>(b=w→A)∧(b=(!w)→C)
 | .tuple _=>C
 |_=>False
class Two where
 a:Prop
 c:Prop
def CB (d:D) [b:Two] : Prop:=uN d b.a b.c
def GB (d:D) (w:Bool) [b:Two] : Prop:=GJ d w b.a b.c
def ni (g:Option (Nat×Bool)) (tm:Tm) (A C:Prop):Prop:=
 match g with
 |none=>A
 |some (t,w)=>GJ (tm.get t) w A C
def kq (P:Program):List AI→(Tm→St→Prop)→Tm→St→Prop
 | [],K,tm,s=>K tm s
 | .op dst g o::r,K,tm,s=>ni g tm (match aJ o tm s with|some (d,s')=>kq P r K (tm.put dst d) s'|none=>False) (kq P r K (tm.put dst (.tuple [])) s)
 | .call dst g f xs::r,K,tm,s=>ni g tm (CL false P f (xs.map (·.ev tm)) s fun d s'=>kq P r K (tm.put dst d) s') (kq P r K (tm.put dst (.tuple [])) s)
 | .nil dst g neg x::r,K,tm,s=>
  ni g tm (match x.ev tm with
   | .slice _ _ rows=>∀ b:Bool,(rows≠ []→b=false)→kq P r K (tm.put dst (.bool (if neg then !b else b))) s
   |_=>False) (kq P r K (tm.put dst (.tuple [])) s)
 | .jt dst g t xs::r,K,tm,s=>
  ni g tm (match tm.get t with
   | .gi f nP=>enters P f=true∧CL false P f (xs.map (·.ev tm)++nP) s fun d s'=>kq P r K (tm.put dst d) s'
   |_=>False) (kq P r K (tm.put dst (.tuple [])) s)
theorem sL {g:Option (Nat×Bool)} {tm:Tm} {A C A' C':Prop} (h:ni g tm A C) (ha:A→A') (hc:C→C'):guarded g tm A' C':=by
 unfold ni at h
 unfold guarded
 cases g with
 |none=>exact ha h
 | some p=>
  obtain⟨t,w⟩:=p
  simp only[GJ]at h ⊢
  split at h
  ·rename_i hb;try simp only [hb]
   exact⟨fun e=>ha (h.1 e),fun e=>hc (h.2 e)⟩
  ·rename_i hb;try simp only [hb]
   exact hc h
  ·exact h.elim
theorem ow {P:Program} {K:Tm→St→Prop} : ∀ {is:List AI} {tm:Tm} {s:St},kq P is K tm s→ja P is K tm s
 | [],tm,s,h=>h
 | .op dst g o::r,tm,s,h=>by
  refine sL h (fun h=>?_) ow
  split at h
  ·rename_i he;try simp only [he]
   exact ow h
  ·exact h.elim
 | .call dst g f xs::r,tm,s,h=>sL h (fun h=>bM.mono h fun _ _ h=>ow h) ow
 | .nil dst g neg x::r,tm,s,h=>by
  refine sL h (fun h=>?_) ow
  split at h
  ·rename_i he;try simp only [he]
   exact fun b hb=>ow (h b hb)
  ·exact h.elim
 | .jt dst g t xs::r,tm,s,h=>by
  refine sL h (fun h=>?_) ow
  split at h
  ·rename_i he;try simp only [he]
   exact⟨h.1,bM.mono h.2 fun _ _ h=>ow h⟩
  ·exact h.elim
def gp (P:Program) (K:Tm→St→Prop):List (AI×Nat)→List St→Tm→St→Prop
 | [],_,tm,s=>K tm s
 |(.op dst g o,b)::r,bH,tm,s=>
  match o.core with
  |true=>ni g tm (match aJ o tm s with|some (d,s')=>gp P K r (s::bH) (tm.put dst d) s'|none=>False) (gp P K r (s::bH) (tm.put dst (.tuple [])) s)
  |false=>ni g tm (match aJ o tm s with|some (d,_)=>oh (.op dst none o) tm d (bH.take b)∧gp P K r bH (tm.put dst d) s|none=>False) (gp P K r bH (tm.put dst (.tuple [])) s)
 |(.call dst g f xs,_)::r,bH,tm,s=>ni g tm (CL true P f (xs.map (·.ev tm)) s fun d s'=>gp P K r (s::bH) (tm.put dst d) s') (gp P K r (s::bH) (tm.put dst (.tuple [])) s)
 |(.nil ..,_)::_,_,_,_=>False
 |(.jt ..,_)::_,_,_,_=>False
theorem Bj {P:Program} {t:Nat} {w:Bool} {tm:Tm} {i:AI} {b:Nat} {r:List (AI×Nat)} {K:Tm→St→Prop} {bH:List St} {s:St} {A C:Prop} (h:ni (some (t,w)) tm A C) (ha:A→gL P K ((i,b)::r) bH tm s)
 (hc:C→gL P K r (if gJ i.kind then s::bH else bH) (tm.put i.dst (.tuple [])) s):GL P (tm.get t) w i b r K bH tm s:=by
 simp only[ni,GJ]at h
 unfold GL
 split at h
 ·rename_i hb;try simp only [hb]
  exact⟨fun e=>ha (h.1 e),fun e=>hc (h.2 e)⟩
 ·rename_i hb;try simp only [hb]
  exact hc h
 ·exact h.elim
theorem mF {P:Program} {K:Tm→St→Prop} : ∀ {l:List (AI×Nat)} {bH:List St} {tm:Tm} {s:St},gp P K l bH tm s→gL P K l bH tm s
 | [],bH,tm,s,h=>h
 | (.op dst g o,b)::r,bH,tm,s,h=>by
  simp only[gp]at h
  cases hc:o.core with
  | true=>
   simp only[hc]at h
   have ha:(match aJ o tm s with|some (d,s')=>gp P K r (s::bH) (tm.put dst d) s'|none=>False)→gL P K ((.op dst none o,b)::r) bH tm s:=by
    intro h
    refine I0 ?_
    simp only[OL,hc,ML]
    split at h
    ·rename_i he;try simp only [he]
     exact mF h
    ·exact h.elim
   cases g with
   |none=>exact ha h
   |some p=>
    obtain⟨t,w⟩:=p
    refine GG (Bj h ha fun h=>?_)
    simp only[tj,hc,if_true]
    exact mF h
  | false=>
   simp only[hc]at h
   have ha:(match aJ o tm s with|some (d,_)=>oh (.op dst none o) tm d (bH.take b)∧gp P K r bH (tm.put dst d) s|none=>False)→gL P K ((.op dst none o,b)::r) bH tm s:=by
    intro h
    refine I0 ?_
    simp only[OL,hc,PL]
    split at h
    ·rename_i he;try simp only [he]
     exact⟨h.1,mF h.2⟩
    ·exact h.elim
   cases g with
   |none=>exact ha h
   |some p=>
    obtain⟨t,w⟩:=p
    refine GG (Bj h ha fun h=>?_)
    simp only[tj,hc]
    exact mF h
 | (.call dst g f xs,b)::r,bH,tm,s,h=>by
  simp only[gp]at h
  have ha:(CL true P f (xs.map (·.ev tm)) s fun d s'=>gp P K r (s::bH) (tm.put dst d) s')→gL P K ((.call dst none f xs,b)::r) bH tm s:=
   fun⟨d,s',h1,h2⟩=>Nv ⟨d,s',h1,mF h2⟩
  cases g with
  |none=>exact ha h
  |some p=>
   obtain⟨t,w⟩:=p
   exact KX (Bj h ha fun h=>mF h)
 |(.nil ..,_)::_,bH,tm,s,h=>h.elim
 |(.jt ..,_)::_,bH,tm,s,h=>h.elim
section
variable {P:Program} {B:fX} {nt:Nat}
def ke (P:Program) (B:fX) (nt:Nat):AC→(Exit→Tm→St→Prop)→Tm→St→Prop
 | .skip,Q,tm,s=>Q .normal tm s
 | .run is,Q,tm,s=>kq P is (Q .normal) tm s
 | .par is lT,Q,tm,s=>match nh is lT with|some l=>gp P (Q .normal) l [] tm s|none=>False
 | .seq a b,Q,tm,s=>ke P B nt a (nT (ke P B nt b Q) Q) tm s
 | .cond x a b,Q,tm,s=>uN (x.ev tm) (ke P B nt a Q tm s) (ke P B nt b Q tm s)
 | .block id a,Q,tm,s=>ke P B nt a (kC id Q) tm s
 | .loop a,Q,tm,s=>bp P B nt a Q tm s
 | .exit id,Q,tm,s=>Q (.exit id) tm s
 | .scope a,Q,tm,s=>lH P B nt a a Q tm s
 | .label _,Q,tm,s=>Q .normal tm s
 | .goto l,Q,tm,s=>Q (.goto l) tm s
 | .ret,Q,tm,s=>Q .ret tm s
theorem iI : ∀ {ac:AC} {Q:Exit→Tm→St→Prop} {tm:Tm} {s:St},ke P B nt ac Q tm s→Sem P B nt ac Q tm s:=by
 intro ac
 induction ac with
 |skip=>exact fun h=>Sem.skip h
 |run is=>exact fun h=>Sem.run (ow h)
 |par is lT=>
  intro Q tm s h
  simp only[ke]at h
  split at h
  ·exact Sem.aju ‹_› (mF h)
  ·exact h.elim
 |seq a b Qx Qy=>
  intro Q tm s h
  refine Sem.seq ((Qx h).mono fun e tm s hq=>?_)
  cases e with
  |normal=>exact Qy hq
  |_=>exact hq
 |cond x a b Qx Qy=>
  intro Q tm s h
  refine Sem.afk ?_
  simp only[ke]at h
  unfold uN at h ⊢
  split at h
  ·exact⟨fun e=>Qx (h.1 e),fun e=>Qy (h.2 e)⟩
  ·exact h.elim
 |block id a ih=>exact fun h=>Sem.block (ih h)
 |loop a ih=>exact fun h=>Sem.loop h
 |exit id=>exact fun h=>Sem.exit h
 |scope a ih=>exact fun h=>Sem.scope h
 |label l=>exact fun h=>Sem.label h
 |goto l=>exact fun h=>Sem.goto h
 |ret=>exact fun h=>Sem.ret h
section
variable (Q:Exit→Tm→St→Prop) (N:Tm→St→Prop) (tm:Tm) (s:St) (a b:AC) (is:List AI) (x:X)
theorem TN:ke P B nt .skip Q tm s=Q .normal tm s:=nd rfl
theorem Yz:ke P B nt (.run is) Q tm s=kq P is (Q .normal) tm s:=nd rfl
theorem YA (lT:List (Nat×Nat)):ke P B nt (.par is lT) Q tm s=match nh is lT with|some l=>gp P (Q .normal) l [] tm s|none=>False:=nd rfl
theorem YB:ke P B nt (.seq a b) Q tm s=ke P B nt a (nT (ke P B nt b Q) Q) tm s:=nd rfl
theorem TO:ke P B nt (.cond x a b) Q tm s = @CB (x.ev tm) ⟨ke P B nt a Q tm s,ke P B nt b Q tm s⟩:=nd rfl
theorem QQ (id:Nat):ke P B nt (.block id a) Q tm s=ke P B nt a (kC id Q) tm s:=nd rfl
theorem TP:ke P B nt (.loop a) Q tm s=bp P B nt a Q tm s:=nd rfl
theorem QR:ke P B nt (.scope a) Q tm s=lH P B nt a a Q tm s:=nd rfl
theorem TQ (id:Nat):ke P B nt (.exit id) Q tm s=Q (.exit id) tm s:=nd rfl
theorem QS (id:Nat):ke P B nt (.label id) Q tm s=Q .normal tm s:=nd rfl
theorem TR (id:Nat):ke P B nt (.goto id) Q tm s=Q (.goto id) tm s:=nd rfl
theorem YC:ke P B nt .ret Q tm s=Q .ret tm s:=nd rfl
theorem YD:nT N Q .normal tm s=N tm s:=nd rfl
theorem YE:nT N Q .ret tm s=Q .ret tm s:=nd rfl
theorem YF (id:Nat):nT N Q (.exit id) tm s=Q (.exit id) tm s:=nd rfl
theorem YG (id:Nat):nT N Q (.goto id) tm s=Q (.goto id) tm s:=nd rfl
theorem TS (id:Nat):kC id Q .normal tm s=Q .normal tm s:=nd rfl
theorem TT (id:Nat):kC id Q .ret tm s=Q .ret tm s:=nd rfl
theorem TU (id l:Nat):kC id Q (.goto l) tm s=Q (.goto l) tm s:=nd rfl
theorem TV (id i:Nat):kC id Q (.exit i) tm s=if i=id then Q .normal tm s else Q (.exit i) tm s:=nd rfl
end
theorem bp.kQ {a:AC} {Q:Exit→Tm→St→Prop} {tm:Tm} {s:St} (h:ke P B nt a (nT (bp P B nt a Q) Q) tm s):bp P B nt a Q tm s:=bp.once (iI h)
theorem lH.kQ {a r:AC} {Q:Exit→Tm→St→Prop} {tm:Tm} {s:St} (h:ke P B nt r (yZ P B nt a Q) tm s):lH P B nt a r Q tm s:=lH.once (iI h)
def wz (tm:Tm) (n m:Nat):Tm→Prop
 | []=>True
 |(k,d)::r=>Wk ((tm.get k).fg n m) d∧wz tm n m r
theorem wz.get {tm:Tm} {n m:Nat} : ∀ {bx:Tm},wz tm n m bx→∀ t,Wk ((tm.get t).fg n m) (bx.get t)
 | [],_,t=>Wk.junk _
 |(k,d)::r,h,t=>by
  simp only[Tm.get]
  split
  ·rename_i hk;subst hk;exact h.1
  ·exact wz.get h.2 t
theorem Holds.re {Q:Exit→Tm→St→Prop} {tm bx:Tm} {s:St} {gu:List (List D)} {act:Act} {w:World} (n m:Nat) (hn:B.s.ah.length≤n) (hm:B.s.aw.length≤m) (ht:wz tm n m bx) (ho:gC (s.cut n m).ah gu)
 (h:Holds B nt tm s act w):Holds B nt bx ⟨gu,(s.cut n m).aw⟩ act w:=by
 obtain⟨M,e,r,hr,h1,h2⟩:=h
 obtain⟨r',le⟩:=(r.cut n m).qY ho
 have e':=e.cut hn hm
 refine⟨M,e'.trans ⟨le,fun _ _ _ _=>rfl,fun o h1 h2=>?_,fun t b c z hl e=> .inl ⟨hl,c,z,e⟩,fun _ _ h=>(h rfl).elim,Nat.le_refl _,rfl,rfl,rfl⟩,r',fun k=>((ht.get k) _ _ _ ((hr k).fg n m)).mono le,h1,h2⟩
 rw[← ho.len]at h2
 exact h1.elim (fun h1=>absurd h2 (Nat.not_lt.2 h1)) fun h1=>(h1 rfl).elim
theorem bp.re {a:AC} {Q:Exit→Tm→St→Prop} {tm:Tm} {s:St} (bx:Tm) (gu:List (List D)) (n m:Nat) (hn:B.s.ah.length≤n) (hm:B.s.aw.length≤m) (ht:wz tm n m bx) (ho:gC (s.cut n m).ah gu)
 (h:bp P B nt a Q bx ⟨gu,(s.cut n m).aw⟩):bp P B nt a Q tm s:=
 fun c hc act w hh=>h c hc act w (hh.re (Q:=Q) n m hn hm ht ho)
theorem bp.ind {ι:Type} {a:AC} {Q:Exit→Tm→St→Prop} (I:ι→Prop) (μ:ι→Nat) (TM:ι→Tm) (ST:ι→St)
 (step : ∀ i,I i→(∀ j,I j→μ j<μ i→bp P B nt a Q (TM j) (ST j))→ke P B nt a (nT (bp P B nt a Q) Q) (TM i) (ST i)) : ∀ i,I i→bp P B nt a Q (TM i) (ST i):=by
 have key : ∀ n i,μ i<n→I i→bp P B nt a Q (TM i) (ST i):=by
  intro n
  induction n with
  |zero=>intro i h;exact absurd h (Nat.not_lt_zero _)
  |succ n ih=>exact fun i h hi=>bp.kQ (step i hi fun j hj hD=>ih j (by omega) hj)
 exact fun i hi=>key (μ i+1) i (Nat.lt_succ_self _) hi
theorem drop_cons {α:Type} {l rest:List α} {k:Nat} {x:α} (h:l.drop k=x::rest):l[k]? = some x∧l.drop (k+1)=rest∧decide ((k:Int)<(l.length:Int))=true∧k<l.length:=by
 have h1:l[k]? = some x:=by
  have:(l.drop k)[0]? = some x:=by rw[h];rfl
  simpa using this
 have h2:=(List.getElem?_eq_some_iff.1 h1).1
 refine⟨h1, ?_,by simpa using h2,h2⟩
 have:l.drop (k+1)=(l.drop k).drop 1:=by rw[List.drop_drop]
 rw[this,h];rfl
theorem drop_nil {α:Type} {l:List α} {k:Nat} (h:l.drop k = []):decide ((k:Int)<(l.length:Int))=false:=by
 have:=List.drop_eq_nil_iff.1 h
 simp;omega
theorem bp.q6 {a:AC} {Q:Exit→Tm→St→Prop} {tm:Tm} {s:St} (t z':Nat) {z:Nat} (hw:tm.get t = .slice .full z [])
 (h:bp P B nt a Q (tm.set t (.slice (.tok s.aw.length) z' [])) {s with aw:=s.aw++ [some 0]}):bp P B nt a Q tm s:=by
 intro c hc act w ⟨M,e,r,ht,h1,h2⟩
 obtain⟨r',le⟩:=r.blank
 refine h c hc act w ⟨_,Gz e le,r',fun k=>?_,h1,h2⟩
 rw[Tm.Fw]
 split
 ·rename_i hk;subst hk;have:=ht k;rw[hw]at this;exact this.own
 ·exact(ht k).mono le
theorem bp.Dq {a:AC} {Q:Exit→Tm→St→Prop} {tm:Tm} {s:St} (o i z':Nat) {z:Nat} {cs:List D} (hc:s.ah[o]? = some cs) (hi:cs[i]? = some (.slice .full z []))
 (h:bp P B nt a Q tm ⟨s.ah.set o (cs.set i (.slice (.tok s.aw.length) z' [])),s.aw++ [some 0]⟩):bp P B nt a Q tm s:=by
 intro c hcc act w hh
 obtain⟨M,e,r,ht,h1,h2⟩:=hh
 obtain⟨r',le⟩:=r.blank
 have le':Le M s (M.eY s.aw.length none) ⟨s.ah.set o (cs.set i (.slice (.tok s.aw.length) z' [])),s.aw++ [some 0]⟩:=⟨le.G,by simp,le.loc,le.t,le.tk⟩
 have le2:Le (M.eY s.aw.length none) {s with aw:=s.aw++ [some 0]} (M.eY s.aw.length none) ⟨s.ah.set o (cs.set i (.slice (.tok s.aw.length) z' [])),s.aw++ [some 0]⟩:=
  ⟨fun _ _ _ h=>h,by simp,fun _ _=> .refl _,Nat.le_refl _,fun t n' _ e=>⟨n',e,Nat.le_refl _,fun _=>rfl⟩⟩
 have r2:Rel (M.eY s.aw.length none) ⟨s.ah.set o (cs.set i (.slice (.tok s.aw.length) z' [])),s.aw++ [some 0]⟩ w:=by
  refine⟨r'.comm,fun o' ds e=>?_,fun o ho=>r'.jL o (by simpa using ho),fun o o' ho nK=>r'.inj o o' (by simpa using ho) (by simpa using nK),r'.tok,
   fun t b c z o hv e ho=>r'.fh t b c z o hv e (by simpa using ho),r'.fU⟩
  simp only[List.getElem?_set]at e
  split at e
  ·rename_i ho
   subst ho
   split at e
   ·cases e
    obtain⟨vs,T,g1,g2,g3,g4⟩:=r.obj o cs hc
    refine⟨vs,T,g1,by simpa using g2,g3,fun j d v e1 e2=>?_⟩
    rw[List.getElem?_set]at e1
    split at e1
    ·rename_i hj
     subst hj
     split at e1
     ·cases e1
      exact((g4 i _ v hi e2).own (z':=z')).mono le2
     ·cases e1
    ·exact(g4 j d v e1 e2).mono le'
   ·cases e
  ·obtain⟨vs,T,g1,g2,g3,g4⟩:=r'.obj o' ds e
   exact⟨vs,T,g1,g2,g3,fun i d v e1 e2=>(g4 i d v e1 e2).mono le2⟩
 have ee:Ext B.M B.s B.w (M.eY s.aw.length none) ⟨s.ah.set o (cs.set i (.slice (.tok s.aw.length) z' [])),s.aw++ [some 0]⟩ w:=by
  refine(Gz e le).trans ⟨le2,fun _ _ _ _=>rfl,fun o h1 h2=>?_,fun t b c z hl e=> .inl ⟨hl,c,z,e⟩,fun _ _ h=>(h rfl).elim,Nat.le_refl _,rfl,rfl,rfl⟩
  simp at h2
  exact h1.elim (fun h1=>absurd h2 (Nat.not_lt.2 h1)) fun h1=>(h1 rfl).elim
 exact h c hcc act w ⟨_,ee,r2,fun k=>(ht k).mono le',h1,h2⟩
theorem Dr {ac r:AC} {l:Nat} {Q:Exit→Tm→St→Prop} {tm:Tm} {s:St} (hf:uM ac l=some r) (h:lH P B nt ac r Q tm s):yZ P B nt ac Q (.goto l) tm s:=⟨r,hf,h⟩
theorem Sem.nj {a b:AC} {Q:Exit→Tm→St→Prop} {tm:Tm} {s:St} (h:ke P B nt a (nT (Sem P B nt b Q) Q) tm s):Sem P B nt (.seq a b) Q tm s:=Sem.seq (iI h)
theorem Sem.re {a:AC} {Q:Exit→Tm→St→Prop} {tm:Tm} {s:St} (bx:Tm) (gu:List (List D)) (n m:Nat) (hn:B.s.ah.length≤n) (hm:B.s.aw.length≤m) (ht:wz tm n m bx) (ho:gC (s.cut n m).ah gu)
 (h:Sem P B nt a Q bx ⟨gu,(s.cut n m).aw⟩):Sem P B nt a Q tm s:=
 fun c hc act w hh=>h c hc act w (hh.re (Q:=Q) n m hn hm ht ho)
def Has (P:Program) (f nt:Nat) (res:List (Nat×Option (Bool×Nat))) (body:AC):Prop:=∃ fn,P.funcs[f]? = some fn∧cF P fn=some ⟨nt,res,body⟩
theorem aF.go {f:FuncId} {res:List (Nat×Option (Bool×Nat))} {body:AC} {args:List D} {s:St} {d:D} {s':St} (h0:Has P f nt res body) (hl:Nat.ble args.length nt=true)
 (h : ∀ (B:fX) (Q:Exit→Tm→St→Prop),B.s=s→pR s.ah.length s.aw.length res d s'=Q→ke P B nt body Q (mT 0 args) s):aF P f args s d s':=by
 obtain⟨fn,hf,hc⟩:=h0
 exact aF.intro ⟨fn,hf,hc⟩ (Nat.le_of_ble_eq_true hl) fun B hB=>iI (h B _ hB rfl)
theorem aF.abk {f:FuncId} {pre post:List D} {rows oM:List (List D)} {z z' k k':Nat} (h:aF P f (pre++ .slice (.tok 0) z rows::post) ⟨[],[some k]⟩ (.slice (.tok 0) z' oM) ⟨[],[some k']⟩)
 (hp:D.bK 0 0 pre=true) (ha:D.bK 0 0 post=true) (hw:D.gS 0 0 rows=true) (hw':D.gS 0 0 oM=true)
 {s:St} {t:Nat} (ht:s.aw[t]? = some (some k)):aF P f (pre++ .slice (.tok t) z rows::post) s (.slice (.tok t) z' oM) ⟨s.ah,s.aw.set t (some k')⟩:=by
 refine bM.frame [] [t] h (by simp) (by simp) (by simp) (by simpa using (List.getElem?_eq_some_iff.1 ht).1) rfl (fun i o' ds e1 e2=>by simp at e1) rfl (fun i t' e1=>?_)
  ?_ ?_ ?_
 ·cases i with
  |zero=>simp at e1;subst e1;simp[ht]
  |succ i=>simp at e1
 ·have h1:=fB [] [t] _ hp
  have h2:=fB [] [t] _ ha
  rw[fQ]at h1 h2
  simp[fQ,D.cU,Tag.cU,h1,h2,jm _ _ _ hw]
 ·have h1:=iC (n':=0) (m':=1) (Nat.le_refl 0) (Nat.zero_le 1) _ hp
  have h2:=iC (n':=0) (m':=1) (Nat.le_refl 0) (Nat.zero_le 1) _ ha
  rw[x9]at h1 h2 ⊢
  simp only[List.length_nil,List.length_cons,List.all_append,h1,Bool.true_and,List.all_cons,h2,Bool.and_true,D.ok,Tag.ok,mE (Nat.zero_le 0) (Nat.zero_le 1) _ hw]
  rfl
 ·rintro _ _ ⟨rfl,rfl⟩
  refine⟨by simp[D.back,D.cU,Tag.cU,kz,jm _ _ _ hw'], ?_⟩
  simp[St.back,kD]
theorem ajx (A C:Prop) : @CB (.bool true) ⟨A,C⟩=A:=by simp[CB,uN]
theorem ajy (A C:Prop) : @CB (.bool false) ⟨A,C⟩=C:=by simp[CB,uN]
theorem abm (b:Bool) (A C:Prop) : @CB (.bool (!b)) ⟨A,C⟩ = @CB (.bool b) ⟨C,A⟩:=by
 cases b<;>simp[CB,uN]
theorem I1 {b:Bool} {A C:Prop} (h1:b=true→A) (h2:b=false→C) : @CB (.bool b) ⟨A,C⟩:=⟨h1,h2⟩
theorem abn {b:Bool} {A C:Prop} (h:b=true) (h1:b=true→A) : @CB (.bool b) ⟨A,C⟩:=I1 h1 (fun h'=>by rw[h]at h';cases h')
theorem abo {b:Bool} {A C:Prop} (h:b=false) (h1:b=false→C) : @CB (.bool b) ⟨A,C⟩:=I1 (fun h'=>by rw[h]at h';cases h') h1
theorem afn {n m:Nat} {res:List (Nat×Option (Bool×Nat))} {d:D} {s':St} {tm:Tm} {s:St} {Q:Exit→Tm→St→Prop} (hQ:pR n m res d s'=Q)
 (h : ∃ l,aS res tm s=some l∧Wk ((aV l).fg n m) d∧gC (s.cut n m).ah s'.ah∧(s.cut n m).aw=s'.aw):Q .ret tm s:=hQ ▸ h
theorem afo {n m:Nat} {res:List (Nat×Option (Bool×Nat))} {d:D} {s':St} {tm:Tm} {s:St} {Q:Exit→Tm→St→Prop} (hQ:pR n m res d s'=Q)
 (h : ∃ l,aS res tm s=some l∧Wk ((aV l).fg n m) d∧gC (s.cut n m).ah s'.ah∧(s.cut n m).aw=s'.aw):Q .normal tm s:=hQ ▸ h
end
attribute [go_sem] TN Yz YA YB TO QQ TP QR TQ QS TR YC YD YE YF YG TS TT TU TV
theorem QT : ∀ (tm:Tm) (s:St) (x:X),aJ (AO.mv x) tm s=some (X.ev tm x,s):=
 fun tm s x=>nd (aJ.eq_1 tm s x)
theorem QU : ∀ (tm:Tm) (s:St) (c a b:X),
 aJ (AO.pick c a b) tm s =
  match X.ev tm c with
  |D.bool t=>some (if t=true then X.ev tm a else X.ev tm b,s)
  |x=>none:=
 fun tm s c a b=>nd (aJ.eq_2 tm s c a b)
theorem QV : ∀ (tm:Tm) (s:St) (zero:List D),
 aJ (AO.alloc zero) tm s=some (D.ptr s.ah.length 0,{ah:=s.ah++ [zero],aw:=s.aw}):=
 fun tm s zero=>nd (aJ.eq_3 tm s zero)
theorem QW : ∀ (tm:Tm) (s:St) (x:X),
 aJ (AO.box x) tm s =
  match (X.ev tm x).row with
  |some r=>some (D.ptr s.ah.length 0,{ah:=s.ah++ [r],aw:=s.aw})
  |none=>none:=
 fun tm s x=>nd (aJ.eq_4 tm s x)
theorem QX : ∀ (tm:Tm) (s:St) (zero:List D) (parts:List (Nat×Nat×X)),
 aJ (AO.build zero parts) tm s =
  match qL zero (List.map (fun(p:Nat×Nat×X)=>(p.fst,p.snd.fst,X.ev tm p.snd.snd)) parts)with
  |some cs=>some (D.agg cs,s)
  |none=>none:=
 fun tm s zero parts=>nd (aJ.eq_5 tm s zero parts)
theorem QY : ∀ (tm:Tm) (s:St) (zero:List D) (size n:Nat) (parts:List (Nat×X)),
 aJ (AO.dt zero size n parts) tm s =
  match jY size (fV zero n) (List.map (fun(p:Nat×X)=>(p.fst,X.ev tm p.snd)) parts)with
  |some rows=>some (D.slice Tag.full size rows,s)
  |none=>none:=
 fun tm s zero size n parts=>nd (aJ.eq_6 tm s zero size n parts)
theorem QZ : ∀ (tm:Tm) (s:St) (zero:List D) (size n:Nat) (parts:List (Nat×X)),
 aJ (AO.u6 zero size n parts) tm s =
  match jY size (fV zero n) (List.map (fun(p:Nat×X)=>(p.fst,X.ev tm p.snd)) parts)with
  |some rows=>
   some (D.slice (Tag.tok s.aw.length) size rows,{ah:=s.ah,aw:=s.aw++ [some rows.length]})
  |none=>none:=
 fun tm s zero size n parts=>nd (aJ.eq_7 tm s zero size n parts)
theorem Q1 : ∀ (tm:Tm) (s:St) (x:X),
 aJ (AO.AN x) tm s =
  match X.ev tm x with
  | D.slice (Tag.tok t _) z rows=>
   if rows≠ []∧s.aw[t]? = some (some rows.length)then
    some (D.slice Tag.shared z rows,{ah:=s.ah,aw:=s.aw.set t none})
   else none
  |x=>none:=
 fun tm s x=>nd (aJ.eq_8 tm s x)
theorem Q2 : ∀ (tm:Tm) (s:St) (x:X) (agg:Bool) (size:Nat),
 aJ (AO.load x agg size) tm s =
  match X.ev tm x with
  | D.ptr o off=>
   match s.ah[o]? with
   |some cs=>
    match part cs off agg size with
    |some d=>some (d,s)
    |none=>none
   |none=>none
  |D.dz row off=>
   match part row off agg size with
   |some d=>some (d,s)
   |none=>none
  |x=>yM x agg size s:=
 fun tm s x agg size=>nd (aJ.eq_9 tm s x agg size)
theorem Nw : ∀ (tm:Tm) (s:St) (p x:X) (size:Nat),
 aJ (AO.store p x size) tm s =
  match X.ev tm p,(X.ev tm x).row with
  | D.ptr o off,some r=>
   match s.ah[o]? with
   | some cs=>
    if r.length=size∧off+size≤cs.length then
     some (D.tuple [],{ah:=s.ah.set o (iy cs off r),aw:=s.aw})
    else none
   |none=>none
  |x,fz=>AV x fz size s:=
 fun tm s p x size=>nd (aJ.eq_10 tm s p x size)
theorem Nx : ∀ (tm:Tm) (s:St) (x:X),
 aJ (AO.bT x) tm s =
  match X.ev tm x with
  |D.ptr o off=>some (D.ptr o off,s)
  |D.dz row off=>some (D.dz row off,s)
  |x=>match MA x with|some d=>some (d,s)|none=>none:=
 fun tm s x=>nd (aJ.eq_11 tm s x)
theorem Ny : ∀ (tm:Tm) (s:St) (op:BinOp) (x y:X),
 aJ (AO.bin op x y) tm s =
  match xa op (X.ev tm x) (X.ev tm y)with
  |some d=>some (d,s)
  |none=>none:=
 fun tm s op x y=>nd (aJ.eq_12 tm s op x y)
theorem Nz : ∀ (tm:Tm) (s:St) (neg:Bool) (x y:X),
 aJ (AO.Gk neg x y) tm s =
  match X.ev tm x,X.ev tm y with
  |D.bool a,D.bool b=>some (D.bool (if neg=true then !a==b else a==b),s)
  |x,fz=>none:=
 fun tm s neg x y=>nd (aJ.eq_13 tm s neg x y)
theorem NA : ∀ (tm:Tm) (s:St) (neg:Bool) (ks:List Nat) (x y:X),
 aJ (AO.eqs neg ks x y) tm s =
  match X.ev tm x,X.ev tm y with
  |D.agg a,D.agg b=>
   match ln ks a b with
   |some e=>some (D.bool (if neg=true then !e else e),s)
   |none=>none
  |x,fz=>none:=
 fun tm s neg ks x y=>nd (aJ.eq_14 tm s neg ks x y)
theorem NB : ∀ (tm:Tm) (s:St) (neg:Bool) (x y:X),
 aJ (AO.Gl neg x y) tm s =
  match X.ev tm x,X.ev tm y with
  |D.dS,D.dS=>some (D.bool !neg,s)
  |D.ptr o off,D.dS=>some (D.bool neg,s)
  |D.dz row off,D.dS=>some (D.bool neg,s)
  |x,fz=>none:=
 fun tm s neg x y=>nd (aJ.eq_15 tm s neg x y)
theorem NC : ∀ (tm:Tm) (s:St) (op:UnOp) (x:X),
 aJ (AO.un op x) tm s =
  match Il op (X.ev tm x)with
  |some d=>some (d,s)
  |none=>none:=
 fun tm s op x=>nd (aJ.eq_16 tm s op x)
theorem ND : ∀ (tm:Tm) (s:St) (k:IntKind) (x:X),
 aJ (AO.conv k x) tm s =
  match X.ev tm x with
  |D.int k_1 n=>some (D.int k (k.wrap n),s)
  |x=>none:=
 fun tm s k x=>nd (aJ.eq_17 tm s k x)
theorem NF : ∀ (tm:Tm) (s:St) (x:X),
 aJ (AO.DZ x) tm s =
  match X.ev tm x with
  |D.slice g size rows=>
   match ov rows with
   |some b=>some (D.str b,s)
   |none=>none
  |x=>none:=
 fun tm s x=>nd (aJ.eq_18 tm s x)
theorem NG : ∀ (tm:Tm) (s:St) (x:X),
 aJ (AO.xN x) tm s =
  match X.ev tm x with
  |D.str l=>some (D.slice Tag.shared 1 (List.map (fun(c:UInt8)=> [D.int IntKind.u8 ↑c.toNat]) l),s)
  |x=>none:=
 fun tm s x=>nd (aJ.eq_19 tm s x)
theorem NH : ∀ (tm:Tm) (s:St) (size:Nat) (x:X) (lo hi:Option X),
 aJ (AO.D0 size x lo hi) tm s =
  match X.ev tm x with
  | D.slice g z rows=>
   match sV (Option.map (fun(x:X)=>X.ev tm x) lo),
    sW (Option.map (fun(x:X)=>X.ev tm x) hi) rows.length with
   | some l,some h=>
    if(rows = []∨z=size)∧0≤l∧l≤h∧h≤ ↑rows.length then
     some
      (D.slice (if l=0 then g.cut (decide (h = ↑rows.length))else Tag.shared) z
       (List.drop l.toNat (List.take h.toNat rows)),
       s)
    else none
   |x,fz=>none
  |x=>match xc x (Option.map (fun(x:X)=>X.ev tm x) lo) (Option.map (fun(x:X)=>X.ev tm x) hi)with|some d=>some (d,s)|none=>none:=
 fun tm s size x lo hi=>nd (aJ.eq_20 tm s size x lo hi)
theorem NK : ∀ (tm:Tm) (s:St) (x:X) (lo hi:Option X),
 aJ (AO.Ii x lo hi) tm s =
  match X.ev tm x with
  | D.str t=>
   match sV (Option.map (fun(x:X)=>X.ev tm x) lo),sW (Option.map (fun(x:X)=>X.ev tm x) hi) t.length with
   |some l,some h=>
    if 0≤l∧l≤h∧h≤ ↑t.length then some (D.str (List.drop l.toNat (List.take h.toNat t)),s)else none
   |x,fz=>none
  |x=>none:=
 fun tm s x lo hi=>nd (aJ.eq_21 tm s x lo hi)
theorem NL : ∀ (tm:Tm) (s:St) (x:X) (off:Nat),
 aJ (AO.aq x off) tm s =
  match X.ev tm x with
  |D.ptr o k=>some (D.ptr o (k+off),s)
  |D.dz row k=>some (D.dz row (k+off),s)
  |x=>match D3 x off with|some d=>some (d,s)|none=>none:=
 fun tm s x off=>nd (aJ.eq_22 tm s x off)
theorem NM : ∀ (tm:Tm) (s:St) (x:X) (off:Nat) (agg:Bool) (size:Nat),
 aJ (AO.CJ x off agg size) tm s =
  match X.ev tm x with
  |D.agg cs=>
   match part cs off agg size with
   |some d=>some (d,s)
   |none=>none
  |x=>none:=
 fun tm s x off agg size=>nd (aJ.eq_23 tm s x off agg size)
theorem NN : ∀ (tm:Tm) (s:St) (x i:X) (size:Nat),
 aJ (AO.cd x i size) tm s =
  match X.ev tm x,X.ev tm i with
  | D.slice g z rows,D.int k n=>
   if 0≤n∧z=size then
    match rows[n.toNat]? with
    |some row=>some (D.dz row 0,s)
    |none=>none
   else none
  |x,fz=>match xP x fz size with|some d=>some (d,s)|none=>none:=
 fun tm s x i size=>nd (aJ.eq_24 tm s x i size)
theorem NO : ∀ (tm:Tm) (s:St) (x i:X),
 aJ (AO.AP x i) tm s =
  match X.ev tm x,X.ev tm i with
  | D.str t,D.int k n=>
   if 0≤n then
    match t[n.toNat]? with
    |some c=>some (D.int IntKind.u8 ↑c.toNat,s)
    |none=>none
   else none
  |x,fz=>none:=
 fun tm s x i=>nd (aJ.eq_25 tm s x i)
theorem NP : ∀ (tm:Tm) (s:St) (x:X) (i:Nat),
 aJ (AO.ext x i) tm s =
  match X.ev tm x with
  |D.tuple ds=>
   match ds[i]? with
   |some d=>some (d,s)
   |none=>none
  |x=>none:=
 fun tm s x i=>nd (aJ.eq_26 tm s x i)
theorem NQ : ∀ (tm:Tm) (s:St) (x:X),
 aJ (AO.u7 x) tm s =
  match X.ev tm x with
  |D.str t=>some (D.int IntKind.i64 ↑t.length,s)
  |x=>none:=
 fun tm s x=>nd (aJ.eq_27 tm s x)
theorem NR : ∀ (tm:Tm) (s:St) (x:X),
 aJ (AO.len x) tm s =
  match X.ev tm x with
  |D.slice g size rows=>some (D.int IntKind.i64 ↑rows.length,s)
  |x=>match Fq x with|some d=>some (d,s)|none=>none:=
 fun tm s x=>nd (aJ.eq_28 tm s x)
theorem NS : ∀ (tm:Tm) (s:St) (size bytes:Nat) (x y:X),
 aJ (AO.app size bytes x y) tm s =
  match X.ev tm x with
  |D.slice g z rows=>iB size bytes (D.slice g z rows) (X.ev tm y) s
  |d=>AW size bytes d (X.ev tm y) s:=
 fun tm s size bytes x y=>nd (aJ.eq_29 tm s size bytes x y)
theorem NT : ∀ (tm:Tm) (s:St) (isMax:Bool) (x y:X),
 aJ (AO.mm isMax x y) tm s =
  match X.ev tm x,X.ev tm y with
  |D.int k a,D.int k' b=>
   if k=k' then some (D.int k (if isMax=true then if b > a then b else a else if b<a then b else a),s)
   else none
  |x,fz=>none:=
 fun tm s isMax x y=>nd (aJ.eq_30 tm s isMax x y)
theorem NU (tm:Tm) (s:St) (r:List D) (T:TypeId):aJ (AO.sU (.dS::r) T) tm s=some (.ptr s.ah.length 0,{ah:=s.ah++ [.fv T s.ah.length::r],aw:=s.aw}):=nd rfl
theorem NV (tm:Tm) (s:St) (x:X) (T:TypeId):aJ (AO.AQ x T) tm s =
 match (x.ev tm).row with
 |some (.dS::r)=>some (.ptr s.ah.length 0,{ah:=s.ah++ [.fv T s.ah.length::r],aw:=s.aw})
 |_=>none:=nd rfl
theorem NW (tm:Tm) (s:St) (x y:X):aJ (AO.apps x y) tm s =
 match y.ev tm with
 | .str l=>AU (x.ev tm) (.slice .shared 1 (l.map fun c=> [.int .u8 c.toNat])) s
 |_=>none:=nd rfl
theorem NY (tm:Tm) (s:St) (x y:X):aJ (AO.AR x y) tm s=AU (x.ev tm) (y.ev tm) s:=nd rfl
theorem NZ (tm:Tm) (s:St) (f:Nat) (xs:List X):aJ (AO.uJ f xs) tm s=some (.gi f (xs.map fun x=>x.ev tm),s):=nd rfl
theorem N0 (tm:Tm) (s:St):aJ AO.uK tm s=some (.fS s.ah.length,{ah:=s.ah++ [[]],aw:=s.aw}):=nd rfl
theorem N1 (tm:Tm) (s:St) (m k v:X):aJ (AO.yK m k v) tm s =
 match m.ev tm,k.ev tm,v.ev tm with
 | .fS o, .str key, .slice g z rows=>
  match s.ah[o]? with
  |some cs=>match xb key (.slice g z rows) cs with|some jJ=>some (.tuple [],{ah:=s.ah.set o jJ,aw:=s.aw})|none=>none
  |none=>none
 |_,_,_=>none:=nd rfl
theorem N2 (tm:Tm) (s:St) (m k:X) (zero:D):aJ (AO.wc m k zero) tm s =
 match m.ev tm,k.ev tm with
 | .fS o, .str key=>
  match s.ah[o]? with
  |some cs=>match yL key zero cs with|some d=>some (d,s)|none=>none
  |none=>none
 |_,_=>none:=nd rfl
theorem N3 (tm:Tm) (s:St) (o:FO) (x y:X):aJ (AO.qK o x y) tm s=match qp o (x.ev tm) (y.ev tm)with|some d=>some (d,s)|none=>none:=nd rfl
theorem N4 (tm:Tm) (s:St) (size bytes:Nat) (zero:List D) (l c:X):aJ (AO.AS size bytes zero l c) tm s =
 match l.ev tm,c.ev tm with
 | .int .i64 n, .int .i64 m=>if n=m∧0≤n∧n*((bytes:Int)+1)≤bC then some (.eA size s.ah.length 0 n.toNat,{s with ah:=s.ah++ [.int .i64 ((0:Nat):Int)::(fV zero n.toNat).flatten]})else none
 |_,_=>none:=nd rfl
theorem I2 (o:FO) (x y:X):(AO.qK o x y).core=false:=nd rfl
theorem I3 (size bytes:Nat) (zero:List D) (l c:X):(AO.AS size bytes zero l c).core=true:=nd rfl
theorem I4 (f:Nat) (xs:List X):(AO.uJ f xs).core=false:=nd rfl
theorem I5:AO.uK.core=true:=nd rfl
theorem I6 (m k v:X):(AO.yK m k v).core=true:=nd rfl
theorem I7 (m k:X) (zero:D):(AO.wc m k zero).core=false:=nd rfl
theorem Q3 (n m f:Nat) (cs:List D):D.fg n m (.gi f cs) = .gi f (D.gx n m cs):=nd (by simp only[D.fg])
theorem Q4 (n m:Nat) (o:Nat):D.fg n m (.fS o)=if o<n then .fS o else .junk:=nd (by simp only[D.fg])
theorem N5 (d:Option Nat) (g:Option (Nat×Bool)) (t:Nat) (xs:List X):(AI.jt d g t xs).dst=d:=nd rfl
theorem I8 (x y:X):(AO.AR x y).core=true:=nd rfl
theorem I9 (z:List D) (T:TypeId):(AO.sU z T).core=true:=nd rfl
theorem Ja (x:X) (T:TypeId):(AO.AQ x T).core=true:=nd rfl
theorem Jb (x y:X):(AO.apps x y).core=true:=nd rfl
theorem Q5 (n m:Nat) (v:Value):D.fg n m (.val v) = .val v:=nd (by simp only[D.fg])
theorem Q6 (n m:Nat) (T:TypeId) (o:Nat):D.fg n m (.fv T o)=if o<n then .fv T o else .junk:=nd (by simp only[D.fg])
theorem TW : ∀ (tm:Tm) (t:Nat),X.ev tm (X.s t)=tm.get t:=
 fun tm t=>nd (X.ev.eq_1 tm t)
theorem TX : ∀ (tm:Tm) (d:D),X.ev tm (X.k d)=d:=
 fun tm d=>nd (X.ev.eq_2 tm d)
theorem N6 : ∀ (tm:Tm) (d:D) (t:Nat),tm.put (some t) d=tm.set t d:=
 fun tm d t=>nd (Tm.put.eq_1 tm d t)
theorem N7 : ∀ (tm:Tm) (d:D),tm.put none d=tm:=
 fun tm d=>nd (Tm.put.eq_2 tm d)
theorem N8 : ∀ (x:Nat) (fz:D),Tm.set [] x fz = [(x,fz)]:=
 fun x fz=>nd (Tm.set.eq_1 x fz)
theorem N9 : ∀ (x:Nat) (fz:D) (k:Nat) (e:D) (r:List (Nat×D)),
 Tm.set ((k,e)::r) x fz=if k=x then(k,fz)::r else(k,e)::Tm.set r x fz:=
 fun x fz k e r=>nd (Tm.set.eq_2 x fz k e r)
theorem Oa : ∀ (x:Nat),Tm.get [] x=D.junk:=
 fun x=>nd (Tm.get.eq_1 x)
theorem Oc : ∀ (x k:Nat) (d:D) (r:List (Nat×D)),Tm.get ((k,d)::r) x=if k=x then d else Tm.get r x:=
 fun x k d r=>nd (Tm.get.eq_2 x k d r)
theorem Q7 : ∀ (x:Nat),mT x [] = []:=
 fun x=>nd (mT.eq_1 x)
theorem Q8 : ∀ (x:Nat) (d:D) (r:List D),mT x (d::r)=(x,d)::mT (x+1) r:=
 fun x d r=>nd (mT.eq_2 x d r)
theorem Od : ∀ (d:Option Nat) (g:Option (Nat×Bool)) (o:AO),(AI.op d g o).dst=d:=
 fun d g o=>nd (AI.dst.eq_1 d g o)
theorem Oe : ∀ (d:Option Nat) (g:Option (Nat×Bool)) (f:Nat) (xs:List X),(AI.call d g f xs).dst=d:=
 fun d g f xs=>nd (AI.dst.eq_2 d g f xs)
theorem Og : ∀ (d:Option Nat) (g:Option (Nat×Bool)) (neg:Bool) (fz:X),(AI.nil d g neg fz).dst=d:=
 fun d g neg fz=>nd (AI.dst.eq_3 d g neg fz)
theorem TY : ∀ (cs:List D) (off size:Nat),
 part cs off true size=if off+size≤cs.length then some (D.agg (List.take size (List.drop off cs)))else none:=
 fun cs off size=>nd (part.eq_1 cs off size)
theorem T1 : ∀ (cs:List D) (off size:Nat),part cs off false size=cs[off]? :=
 fun cs off size=>nd (part.eq_2 cs off size)
theorem Oh : ∀ (cs:List D) (off:Nat) (r:List D),
 iy cs off r=List.take off cs++r++List.drop (off+r.length) cs:=
 fun cs off r=>nd (iy.eq_1 cs off r)
theorem Q9 : ∀ (cells:List D),qL cells [] = some cells:=
 fun cells=>nd (qL.eq_1 cells)
theorem Ra : ∀ (cells:List D) (off size:Nat) (d:D) (rest:List (Nat×Nat×D)),
 qL cells ((off,size,d)::rest) =
  match d.row with
  |none=>none
  |some r=>if r.length=size∧off+size≤cells.length then qL (iy cells off r) rest else none:=
 fun cells off size d rest=>nd (qL.eq_2 cells off size d rest)
theorem Jc : ∀ (size:Nat) (rows:List (List D)),jY size rows [] = some rows:=
 fun size rows=>nd (jY.eq_1 size rows)
theorem Jd : ∀ (size:Nat) (rows:List (List D)) (i:Nat) (d:D) (rest:List (Nat×D)),
 jY size rows ((i,d)::rest) =
  match d.row with
  |none=>none
  |some r=>if r.length=size∧i<rows.length then jY size (rows.set i r) rest else none:=
 fun size rows i d rest=>nd (jY.eq_2 size rows i d rest)
theorem Je : ∀ (zero:List D),fV zero 0 = []:=
 fun zero=>nd (fV.eq_1 zero)
theorem Jf : ∀ (zero:List D) (i:Nat),fV zero i.succ=zero::fV zero i:=
 fun zero i=>nd (fV.eq_2 zero i)
theorem T2 : ∀ (op:BinOp) (k:IntKind) (a:Int) (k':IntKind) (b:Int),
 xa op (D.int k a) (D.int k' b)=if k=k' then gj op k a b else none:=
 fun op k a k' b=>nd (xa.eq_1 op k a k' b)
theorem T3 : ∀ (op:BinOp) (a b:List UInt8),xa op (D.str a) (D.str b)=oe op a b:=
 fun op a b=>nd (xa.eq_2 op a b)
theorem Oi : ∀ (k:IntKind) (a b:Int),gj BinOp.add k a b=some (D.int k (k.wrap (a+b))):=
 fun k a b=>nd (gj.eq_1 k a b)
theorem Oj : ∀ (k:IntKind) (a b:Int),gj BinOp.sub k a b=some (D.int k (k.wrap (a - b))):=
 fun k a b=>nd (gj.eq_2 k a b)
theorem Ol : ∀ (k:IntKind) (a b:Int),gj BinOp.mul k a b=some (D.int k (k.wrap (a*b))):=
 fun k a b=>nd (gj.eq_3 k a b)
theorem Om : ∀ (k:IntKind) (a b:Int),
 gj BinOp.quo k a b=if b=0 then none else some (D.int k (k.wrap (a.tdiv b))):=
 fun k a b=>nd (gj.eq_4 k a b)
theorem On : ∀ (k:IntKind) (a b:Int),gj BinOp.rem k a b=if b=0 then none else some (D.int k (a.tmod b)):=
 fun k a b=>nd (gj.eq_5 k a b)
theorem Oo : ∀ (k:IntKind) (a b:Int),gj BinOp.eql k a b=some (D.bool (a==b)):=
 fun k a b=>nd (gj.eq_6 k a b)
theorem Oq : ∀ (k:IntKind) (a b:Int),gj BinOp.neq k a b=some (D.bool (a != b)):=
 fun k a b=>nd (gj.eq_7 k a b)
theorem Ot : ∀ (k:IntKind) (a b:Int),gj BinOp.lss k a b=some (D.bool (decide (a<b))):=
 fun k a b=>nd (gj.eq_8 k a b)
theorem Ou : ∀ (k:IntKind) (a b:Int),gj BinOp.leq k a b=some (D.bool (decide (a≤b))):=
 fun k a b=>nd (gj.eq_9 k a b)
theorem KZ : ∀ (k:IntKind) (a b:Int),gj BinOp.gtr k a b=some (D.bool (decide (a > b))):=
 fun k a b=>nd (gj.eq_10 k a b)
theorem K0 : ∀ (k:IntKind) (a b:Int),gj BinOp.geq k a b=some (D.bool (decide (a≥b))):=
 fun k a b=>nd (gj.eq_11 k a b)
theorem Ov : ∀ (a b:List UInt8),
 oe BinOp.add a b=if a.length+b.length≤bC then some (D.str (a++b))else none:=
 fun a b=>nd (oe.eq_1 a b)
theorem Ow : ∀ (a b:List UInt8),oe BinOp.eql a b=some (D.bool (a==b)):=
 fun a b=>nd (oe.eq_2 a b)
theorem Ox : ∀ (a b:List UInt8),oe BinOp.neq a b=some (D.bool !a==b):=
 fun a b=>nd (oe.eq_3 a b)
theorem Oy : ∀ (a b:List UInt8),oe BinOp.lss a b=some (D.bool (bytesLess a b)):=
 fun a b=>nd (oe.eq_4 a b)
theorem YH : ∀ (k:IntKind) (n:Int),Il UnOp.neg (D.int k n)=some (D.int k (k.wrap (0 - n))):=
 fun k n=>nd (Il.eq_1 k n)
theorem YI : ∀ (b:Bool),Il UnOp.not (D.bool b)=some (D.bool !b):=
 fun b=>nd (Il.eq_2 b)
theorem Oz : ∀ (k:IntKind) (a:Int) (k':IntKind) (b:Int),
 mX 0 (D.int k a) (D.int k' b)=if k=k' then some (a==b)else none:=
 fun k a k' b=>nd (mX.eq_1 k a k' b)
theorem OA : ∀ (a b:Bool),mX 1 (D.bool a) (D.bool b)=some (a==b):=
 fun a b=>nd (mX.eq_2 a b)
theorem OB : ∀ (a b:List UInt8),mX 2 (D.str a) (D.str b)=some (a==b):=
 fun a b=>nd (mX.eq_3 a b)
theorem K1:ln [] [] [] = some true:=
 nd (ln.eq_1)
theorem K3 : ∀ (k:Nat) (ks:List Nat) (WO:D) (xs:List D) (y:D) (ys:List D),
 ln (k::ks) (WO::xs) (y::ys) =
  match mX k WO y with
  |none=>none
  |some true=>ln ks xs ys
  |some false=>some false:=
 fun k ks WO xs y ys=>nd (ln.eq_2 k ks WO xs y ys)
theorem YJ:sV none=some 0:=
 nd (sV.eq_1)
theorem YK : ∀ (k:IntKind) (n:Int),sV (some (D.int k n))=some n:=
 fun k n=>nd (sV.eq_2 k n)
theorem YL : ∀ (len:Nat),sW none len=some ↑len:=
 fun len=>nd (sW.eq_1 len)
theorem YM : ∀ (len:Nat) (k:IntKind) (n:Int),sW (some (D.int k n)) len=some n:=
 fun len k n=>nd (sW.eq_2 len k n)
theorem K4 : ∀ (zero:List D),(AO.alloc zero).core=true:=
 fun zero=>nd (AO.core.eq_1 zero)
theorem K5 : ∀ (fz:X),(AO.box fz).core=true:=
 fun fz=>nd (AO.core.eq_2 fz)
theorem K6 : ∀ (zero:List D) (size n:Nat) (parts:List (Nat×X)),(AO.u6 zero size n parts).core=true:=
 fun zero size n parts=>nd (AO.core.eq_3 zero size n parts)
theorem K7 : ∀ (fz:X),(AO.AN fz).core=true:=
 fun fz=>nd (AO.core.eq_4 fz)
theorem K8 : ∀ (p fz:X) (size:Nat),(AO.store p fz size).core=true:=
 fun p fz size=>nd (AO.core.eq_5 p fz size)
theorem K9 : ∀ (size bytes:Nat) (fz y:X),(AO.app size bytes fz y).core=true:=
 fun size bytes fz y=>nd (AO.core.eq_6 size bytes fz y)
theorem La : ∀ (val:Nat) (zero:List D),(AI.op (some val) none (AO.alloc zero)).kind=AK.alloc:=
 fun val zero=>nd (AI.kind.eq_1 val zero)
theorem Lb : ∀ (zero:List D),(AO.alloc zero).kind=AK.core:=
 fun zero=>nd (AO.kind.eq_1 zero)
theorem Lc : ∀ (fz:X),(AO.box fz).kind=AK.core:=
 fun fz=>nd (AO.kind.eq_2 fz)
theorem Ld : ∀ (zero:List D) (size n:Nat) (parts:List (Nat×X)),(AO.u6 zero size n parts).kind=AK.core:=
 fun zero size n parts=>nd (AO.kind.eq_3 zero size n parts)
theorem Lf : ∀ (fz:X),(AO.AN fz).kind=AK.core:=
 fun fz=>nd (AO.kind.eq_4 fz)
theorem Lg : ∀ (p fz:X) (size:Nat),(AO.store p fz size).kind=AK.core:=
 fun p fz size=>nd (AO.kind.eq_5 p fz size)
theorem Lh : ∀ (size bytes:Nat) (fz y:X),(AO.app size bytes fz y).kind=AK.core:=
 fun size bytes fz y=>nd (AO.kind.eq_6 size bytes fz y)
theorem Li : ∀ (fz:X) (agg:Bool) (size:Nat),(AO.load fz agg size).kind=AK.load:=
 fun _ _ _=>nd rfl
theorem OC:gJ AK.core=true:=
 nd (gJ.eq_1)
theorem OD:gJ AK.alloc=true:=
 nd (gJ.eq_2)
theorem OE : ∀ (i:AI) (tm:Tm) (d:D),oh i tm d [] = True:=
 fun i tm d=>nd (oh.eq_1 i tm d)
theorem OF : ∀ (i:AI) (tm:Tm) (d:D) (s:St) (r:List St),
 oh i tm d (s::r)=(jT i tm s=some d∧oh i tm d r):=
 fun i tm d s r=>nd (oh.eq_2 i tm d s r)
theorem YN : ∀ (tm:Tm) (s:St) (dst:Option Nat) (o:AO),
 jT (AI.op dst none o) tm s=Option.map (fun(x:D×St)=>x.fst) (aJ o tm s):=
 fun tm s dst o=>nd (jT.eq_1 tm s dst o)
theorem YO : ∀ (tm:Tm) (s:St) (dst:Option Nat) (t:Nat) (want:Bool) (o:AO),
 jT (AI.op dst (some (t,want)) o) tm s =
  match tm.get t with
  |D.bool b=>if b=want then Option.map (fun(x:D×St)=>x.fst) (aJ o tm s)else some (D.tuple [])
  |D.tuple vs=>some (D.tuple [])
  |x=>none:=
 fun tm s dst t want o=>nd (jT.eq_2 tm s dst t want o)
theorem Lj : ∀ (is:List AI),nh is [] = some []:=
 fun is=>nd (nh.eq_1 is)
theorem Lk : ∀ (is:List AI) (q b:Nat) (r:List (Nat×Nat)),
 nh is ((q,b)::r) =
  match is[q]?,nh is r with
  |some ai,some l=>some ((ai,b)::l)
  |x,fz=>none:=
 fun is q b r=>nd (nh.eq_2 is q b r)
theorem YP : ∀ (tm:Tm) (n m:Nat),wz tm n m [] = True:=
 fun tm n m=>nd (wz.eq_1 tm n m)
theorem YQ : ∀ (tm:Tm) (n m k:Nat) (d:D) (r:List (Nat×D)),
 wz tm n m ((k,d)::r)=(Wk (D.fg n m (tm.get k)) d∧wz tm n m r):=
 fun tm n m k d r=>nd (wz.eq_2 tm n m k d r)
theorem T4 : ∀ (n m o off:Nat),D.fg n m (D.ptr o off)=if o<n then D.ptr o off else D.junk:=
 fun n m o off=>nd (D.fg.eq_1 n m o off)
theorem T5 : ∀ (n m:Nat) (row:List D) (off:Nat),D.fg n m (D.dz row off)=D.dz (D.gx n m row) off:=
 fun n m row off=>nd (D.fg.eq_2 n m row off)
theorem T6 : ∀ (n m:Nat) (g:Tag) (z:Nat) (rows:List (List D)),
 D.fg n m (D.slice g z rows)=D.slice (Tag.fg m g) z (D.kx n m rows):=
 fun n m g z rows=>nd (D.fg.eq_3 n m g z rows)
theorem T7 : ∀ (n m:Nat) (cs:List D),D.fg n m (D.agg cs)=D.agg (D.gx n m cs):=
 fun n m cs=>nd (D.fg.eq_4 n m cs)
theorem T8 : ∀ (n m:Nat) (ds:List D),D.fg n m (D.tuple ds)=D.tuple (D.gx n m ds):=
 fun n m ds=>nd (D.fg.eq_5 n m ds)
theorem T9 : ∀ (n m:Nat),D.fg n m D.junk=D.junk:=
 fun n m=>nd (D.fg.eq_6 n m)
theorem Ua : ∀ (n m:Nat) (k:IntKind) (fz:Int),D.fg n m (D.int k fz)=D.int k fz:=
 fun n m k fz=>nd (D.fg.eq_7 n m k fz)
theorem Ub : ∀ (n m:Nat) (b:Bool),D.fg n m (D.bool b)=D.bool b:=
 fun n m b=>nd (D.fg.eq_8 n m b)
theorem Uc : ∀ (n m:Nat) (l:List UInt8),D.fg n m (D.str l)=D.str l:=
 fun n m l=>nd (D.fg.eq_9 n m l)
theorem Rb : ∀ (n m:Nat),D.fg n m D.dS=D.dS:=
 fun n m=>nd (D.fg.eq_10 n m)
theorem Rc : ∀ (n m:Nat),D.gx n m [] = []:=
 fun n m=>nd (D.gx.eq_1 n m)
theorem Re : ∀ (n m:Nat) (d:D) (r:List D),D.gx n m (d::r)=D.fg n m d::D.gx n m r:=
 fun n m d r=>nd (D.gx.eq_2 n m d r)
theorem Rf : ∀ (n m:Nat),D.kx n m [] = []:=
 fun n m=>nd (D.kx.eq_1 n m)
theorem Rg : ∀ (n m:Nat) (d:List D) (r:List (List D)),D.kx n m (d::r)=D.gx n m d::D.kx n m r:=
 fun n m d r=>nd (D.kx.eq_2 n m d r)
theorem OG : ∀ (m t:Nat) (y:Bool),Tag.fg m (Tag.tok t y)=if t<m then Tag.tok t y else Tag.shared:=
 fun _ _ _=>nd rfl
theorem OH : ∀ (s:St) (n m:Nat),
 s.cut n m = {ah:=List.map (D.gx n m) (List.take n s.ah),aw:=List.take m s.aw}:=
 fun s n m=>nd (St.cut.eq_1 s n m)
theorem Ud : ∀ (d:D),aV [d] = d:=
 fun d=>nd (aV.eq_1 d)
theorem Ue (size bytes t:Nat) (rows:List (List D)) (g:Tag) (r:List D) (s:St):iB size bytes (.slice (.tok t) size rows) (.slice g size [r]) s =
 if(rows.length+1)*(bytes+1)≤bC∧s.aw[t]? = some (some rows.length)then some (.slice (.tok t) size (rows++ [r]),⟨s.ah,s.aw.set t (some (rows.length+1))⟩)else none:=by
 simp only[iB,List.length_singleton]
 by_cases h1:(rows.length+1)*(bytes+1)≤bC<;>by_cases h2:s.aw[t]? = some (some rows.length)<;>simp[h1,h2]
theorem nX {size bytes t:Nat} {rows new:List (List D)} {g:Tag} {s:St} (h1:(rows.length+new.length)*(bytes+1)≤bC) (h2:s.aw[t]? = some (some rows.length)) :
 iB size bytes (.slice (.tok t) size rows) (.slice g size new) s=some (.slice (.tok t) size (rows++new),⟨s.ah,s.aw.set t (some (rows.length+new.length))⟩):=by
 cases new with
 | nil=>
  have:s.aw.set t (some rows.length)=s.aw:=by
   apply List.ext_getElem?
   intro i
   rw[List.getElem?_set]
   split
   ·rename_i hi;subst hi;rw[h2,if_pos (List.getElem?_eq_some_iff.1 h2).1]
   ·rfl
  simp only[List.length_nil,Nat.add_zero]at h1
  simp[iB,h1,this]
 |cons x l=>
  simp only[iB,h1,h2]
  simp
theorem Rh (size bytes z:Nat) (g:Tag) (r:List D) (s:St):iB size bytes (.slice .full z []) (.slice g size [r]) s =
 if bytes+1≤bC then some (.slice (.tok s.aw.length) size [r],⟨s.ah,s.aw++ [some 1]⟩)else none:=by
 simp[iB]
theorem YR {P:Program} {B:fX} {nt:Nat} (ac:AC) (Q:Exit→Tm→St→Prop) (tm:Tm) (s:St):yZ P B nt ac Q .normal tm s=Q .normal tm s:=nd rfl
theorem YS {P:Program} {B:fX} {nt:Nat} (ac:AC) (Q:Exit→Tm→St→Prop) (tm:Tm) (s:St):yZ P B nt ac Q .ret tm s=Q .ret tm s:=nd rfl
theorem YT {P:Program} {B:fX} {nt:Nat} (ac:AC) (Q:Exit→Tm→St→Prop) (tm:Tm) (s:St) (i:Nat):yZ P B nt ac Q (.exit i) tm s=Q (.exit i) tm s:=nd rfl
theorem YU (m:Nat):Tag.fg m .full = .full:=nd rfl
theorem Ri (m:Nat):Tag.fg m .shared = .shared:=nd rfl
theorem afp {P:Program} (K:Tm→St→Prop) (tm:Tm) (s:St):kq P [] K tm s=K tm s:=nd rfl
theorem s_op {P:Program} (dst:Option Nat) (o:AO) (r:List AI) (K:Tm→St→Prop) (tm:Tm) (s:St) :
 kq P (.op dst none o::r) K tm s=(match aJ o tm s with|some (d,s')=>kq P r K (tm.put dst d) s'|none=>False):=nd rfl
def KJ (P:Program) (r:List AI) (K:Tm→St→Prop) (tm:Tm) (dst:Option Nat) (d:D) (s:St):Prop:=kq P r K (tm.put dst d) s
theorem ajA {P:Program} (r:List AI) (K:Tm→St→Prop) (tm:Tm) (dst:Option Nat) (d:D) (s:St):KJ P r K tm dst d s=kq P r K (tm.put dst d) s:=nd rfl
theorem s_call {P:Program} (dst:Option Nat) (f:Nat) (xs:List X) (r:List AI) (K:Tm→St→Prop) (tm:Tm) (s:St) :
 kq P (.call dst none f xs::r) K tm s=CL false P f (xs.map (·.ev tm)) s (KJ P r K tm dst):=nd rfl
def NJ (P:Program) (dst:Option Nat) (neg:Bool) (x:D) (r:List AI) (K:Tm→St→Prop) (tm:Tm) (s:St):Prop:=
 match x with
 | .slice _ _ rows=>∀ b:Bool,(rows≠ []→b=false)→kq P r K (tm.put dst (.bool (if neg then !b else b))) s
 |_=>False
theorem abp {P:Program} (dst:Option Nat) (neg:Bool) (x:X) (r:List AI) (K:Tm→St→Prop) (tm:Tm) (s:St) :
 kq P (.nil dst none neg x::r) K tm s=NJ P dst neg (x.ev tm) r K tm s:=nd rfl
theorem YV {P:Program} (dst:Option Nat) (neg:Bool) (g:Tag) (z:Nat) (d:List D) (l:List (List D)) (r:List AI) (K:Tm→St→Prop) (tm:Tm) (s:St) :
 NJ P dst neg (.slice g z (d::l)) r K tm s=kq P r K (tm.put dst (.bool neg)) s:=by
 simp only[NJ,ne_eq,reduceCtorEq,not_false_eq_true,true_imp_iff,eq_iff_iff]
 refine⟨fun h=>by have:=h false rfl;cases neg<;>exact this,fun h b hb=>?_⟩
 subst hb;cases neg<;>exact h
theorem Uf {P:Program} {dst:Option Nat} {neg:Bool} {g:Tag} {z:Nat} {l:List (List D)} {r:List AI} {K:Tm→St→Prop} {tm:Tm} {s:St}
 (h1:l = []→kq P r K (tm.put dst (.bool (!neg))) s) (h2:kq P r K (tm.put dst (.bool neg)) s):NJ P dst neg (.slice g z l) r K tm s:=by
 intro b hb
 cases b with
 |false=>cases neg<;>exact h2
 |true=>
  have:l = []:=Decidable.byContradiction fun h=>by cases hb h
  cases neg<;>exact h1 this
theorem afr {P:Program} (dst:Option Nat) (t:Nat) (w:Bool) (o:AO) (r:List AI) (K:Tm→St→Prop) (tm:Tm) (s:St) :
 kq P (.op dst (some (t,w)) o::r) K tm s = @GB (tm.get t) w ⟨(kq P (.op dst none o::r) K tm s),(kq P r K (tm.put dst (.tuple [])) s)⟩:=nd rfl
def CV (P:Program) (x:D) (afs:List D) (s:St) (K:D→St→Prop):Prop:=
 match x with
 | .gi f nP=>enters P f=true∧CL false P f (afs++nP) s K
 |_=>False
theorem YW {P:Program} (dst:Option Nat) (t:Nat) (xs:List X) (r:List AI) (K:Tm→St→Prop) (tm:Tm) (s:St) :
 kq P (.jt dst none t xs::r) K tm s=CV P (tm.get t) (xs.map (·.ev tm)) s (KJ P r K tm dst):=nd rfl
theorem CV.use {P:Program} {f:Nat} {nP afs:List D} {s s':St} {d:D} {K:D→St→Prop} (he:enters P f=true) (h:aF P f (afs++nP) s d s') (k:K d s'):CV P (.gi f nP) afs s K:=⟨he,CU h k⟩
theorem Ug {P:Program} (dst:Option Nat) (t:Nat) (w:Bool) (u:Nat) (xs:List X) (r:List AI) (K:Tm→St→Prop) (tm:Tm) (s:St) :
 kq P (.jt dst (some (t,w)) u xs::r) K tm s = @GB (tm.get t) w ⟨(kq P (.jt dst none u xs::r) K tm s),(kq P r K (tm.put dst (.tuple [])) s)⟩:=nd rfl
theorem YX {P:Program} (dst:Option Nat) (t:Nat) (w:Bool) (f:Nat) (xs:List X) (r:List AI) (K:Tm→St→Prop) (tm:Tm) (s:St) :
 kq P (.call dst (some (t,w)) f xs::r) K tm s = @GB (tm.get t) w ⟨(kq P (.call dst none f xs::r) K tm s),(kq P r K (tm.put dst (.tuple [])) s)⟩:=nd rfl
theorem abr {P:Program} (dst:Option Nat) (t:Nat) (w:Bool) (neg:Bool) (x:X) (r:List AI) (K:Tm→St→Prop) (tm:Tm) (s:St) :
 kq P (.nil dst (some (t,w)) neg x::r) K tm s = @GB (tm.get t) w ⟨(kq P (.nil dst none neg x::r) K tm s),(kq P r K (tm.put dst (.tuple [])) s)⟩:=nd rfl
theorem ajB (b:Bool) (A C:Prop) : @GB (.bool b) true ⟨A,C⟩ = @CB (.bool b) ⟨A,C⟩:=nd rfl
theorem ajC (b:Bool) (A C:Prop) : @GB (.bool b) false ⟨A,C⟩ = @CB (.bool b) ⟨C,A⟩:=by
 cases b<;>simp[GB,CB,GJ,uN]
theorem ajD (l:List D) (w:Bool) (A C:Prop) : @GB (.tuple l) w ⟨A,C⟩=C:=nd rfl
theorem aft {P:Program} {K:Tm→St→Prop} (bH:List St) (tm:Tm) (s:St):gp P K [] bH tm s=K tm s:=nd rfl
def OJ (P:Program) (o:AO) (dst:Option Nat) (b:Nat) (r:List (AI×Nat)) (K:Tm→St→Prop) (bH:List St) (tm:Tm) (s:St):Bool→Prop
 |true=>match aJ o tm s with|some (d,s')=>gp P K r (s::bH) (tm.put dst d) s'|none=>False
 |false=>match aJ o tm s with|some (d,_)=>oh (.op dst none o) tm d (bH.take b)∧gp P K r bH (tm.put dst d) s|none=>False
theorem ajF {P:Program} {K:Tm→St→Prop} (dst:Option Nat) (o:AO) (b:Nat) (r:List (AI×Nat)) (bH:List St) (tm:Tm) (s:St) :
 gp P K ((.op dst none o,b)::r) bH tm s=OJ P o dst b r K bH tm s o.core:=by
 simp only[gp,ni]
 cases o.core<;>rfl
theorem ajG {P:Program} (o:AO) (dst:Option Nat) (b:Nat) (r:List (AI×Nat)) (K:Tm→St→Prop) (bH:List St) (tm:Tm) (s:St) :
 OJ P o dst b r K bH tm s true=match aJ o tm s with|some (d,s')=>gp P K r (s::bH) (tm.put dst d) s'|none=>False:=nd rfl
theorem ajH {P:Program} (o:AO) (dst:Option Nat) (b:Nat) (r:List (AI×Nat)) (K:Tm→St→Prop) (bH:List St) (tm:Tm) (s:St) :
 OJ P o dst b r K bH tm s false=match aJ o tm s with|some (d,_)=>oh (.op dst none o) tm d (bH.take b)∧gp P K r bH (tm.put dst d) s|none=>False:=nd rfl
theorem afu {P:Program} {K:Tm→St→Prop} (dst:Option Nat) (t:Nat) (w:Bool) (o:AO) (b:Nat) (r:List (AI×Nat)) (bH:List St) (tm:Tm) (s:St) :
 gp P K ((.op dst (some (t,w)) o,b)::r) bH tm s = @GB (tm.get t) w ⟨(gp P K ((.op dst none o,b)::r) bH tm s),(gp P K r (if o.core then s::bH else bH) (tm.put dst (.tuple [])) s)⟩:=by
 simp only[GB,gp,ni]
 cases o.core<;>rfl
def KG (P:Program) (K:Tm→St→Prop) (r:List (AI×Nat)) (bH:List St) (tm:Tm) (dst:Option Nat) (d:D) (s:St):Prop:=gp P K r bH (tm.put dst d) s
theorem ajI {P:Program} (K:Tm→St→Prop) (r:List (AI×Nat)) (bH:List St) (tm:Tm) (dst:Option Nat) (d:D) (s:St):KG P K r bH tm dst d s=gp P K r bH (tm.put dst d) s:=nd rfl
theorem g_call {P:Program} {K:Tm→St→Prop} (dst:Option Nat) (f:Nat) (xs:List X) (b:Nat) (r:List (AI×Nat)) (bH:List St) (tm:Tm) (s:St) :
 gp P K ((.call dst none f xs,b)::r) bH tm s=CL true P f (xs.map (·.ev tm)) s (KG P K r (s::bH) tm dst):=nd rfl
theorem YY {P:Program} {K:Tm→St→Prop} (dst:Option Nat) (t:Nat) (w:Bool) (f:Nat) (xs:List X) (b:Nat) (r:List (AI×Nat)) (bH:List St) (tm:Tm) (s:St) :
 gp P K ((.call dst (some (t,w)) f xs,b)::r) bH tm s = @GB (tm.get t) w ⟨(gp P K ((.call dst none f xs,b)::r) bH tm s),(gp P K r (s::bH) (tm.put dst (.tuple [])) s)⟩:=nd rfl
class Ok (p:Prop):Prop where
 out:p
instance:Ok True:=⟨trivial⟩
instance {p q:Prop} [Ok p] [Ok q] : Ok (p∧q):=⟨⟨Ok.out,Ok.out⟩⟩
instance {α:Type} (a:α):Ok (a=a):=⟨rfl⟩
instance (d:D):Ok (Wk d .junk):=⟨Wk.junk d⟩
instance {l l':List D} [Ok (jr l l')] : Ok (Wk (.tuple l) (.tuple l')):=⟨Wk.tuple Ok.out⟩
instance {l l':List D} [Ok (jr l l')] : Ok (Wk (.agg l) (.agg l')):=⟨Wk.agg Ok.out⟩
instance {g:Tag} {z:Nat} {l l':List (List D)} [Ok (gC l l')] : Ok (Wk (.slice g z l) (.slice g z l')):=⟨Wk.rows Ok.out⟩
instance {g:Tag} {z:Nat} {l l':List (List D)} [Ok (gC l l')] : Ok (Wk (.slice g z l) (.slice .shared z l')):=⟨Wk.slice Ok.out⟩
instance (z z':Nat):Ok (Wk (.slice .full z []) (.slice .full z' [])):=⟨Wk.ajr z z'⟩
instance (g:Tag) (z z':Nat):Ok (Wk (.slice g z []) (.slice .shared z' [])):=⟨Wk.nil g z z'⟩
instance (d:D):Ok (Wk d d):=⟨Wk.refl d⟩
instance:Ok (jr [] []):=⟨.nil⟩
instance {d d':D} {l l':List D} [Ok (Wk d d')] [Ok (jr l l')] : Ok (jr (d::l) (d'::l')):=⟨.cons Ok.out Ok.out⟩
instance (l:List D):Ok (jr l l):=⟨jr.refl l⟩
instance:Ok (gC [] []):=⟨.nil⟩
instance {d d':List D} {l l':List (List D)} [Ok (jr d d')] [Ok (gC l l')] : Ok (gC (d::l) (d'::l')):=⟨.cons Ok.out Ok.out⟩
instance {a a' b b':List (List D)} [Ok (gC a a')] [Ok (gC b b')] : Ok (gC (a++b) (a'++b')):=⟨gC.append Ok.out Ok.out⟩
instance (l:List (List D)):Ok (gC l l):=⟨gC.refl l⟩
theorem bs:(∀ b,(true ||b)=true)∧(∀ b,(false ||b)=b)∧(∀ b,(b ||true)=true)∧(∀ b,(b ||false)=b)∧(∀ b,(true && b)=b)∧(∀ b,(false && b)=false)∧(∀ b,(b && true)=b)∧(∀ b,(b && false)=false)∧
 (!true)=false∧(!false)=true∧(∀ b,(!!b)=b)∧((false=true)=False)∧(∀ (α β:Type) (a:α) (f:α→Option β),(some a).bind f=f a)∧
 (∀ (α β γ:Type) (x:Option α) (f:α→Option β) (g:β→Option γ),(x.bind f).bind g=x.bind fun y=>(f y).bind g):=
 ⟨Bool.true_or,Bool.false_or,Bool.or_true,Bool.or_false,Bool.true_and,Bool.false_and,Bool.and_true,Bool.and_false,rfl,rfl,Bool.not_not,by simp,fun _ _ _ _=>rfl,fun _ _ _ x f g=>Option.bind_assoc x f g⟩
attribute [go_sem] abm ajx ajy afp s_op ajA s_call abp YV afr YX abr ajB ajC ajD aft ajF ajG ajH afu ajI g_call YY AO.core AI.kind AO.kind gJ
attribute [go_sem] N3 N4 I2 I3 YW Ug NZ N0 N1 N2 I4 I5 I6 I7 Q3 Q4 N5 Yx TJ
attribute [go_sem] NY I8 NU NV NW I9 Ja Jb Q5 Q6 Yw QO Ys TG Yt TH Yu TI QN Yv TK Nu TL
attribute [go_sem] QT QU QV QW QX QY QZ Q1 Q2 Nw Nx Ny Nz NA NB NC ND NF NG NH NK NL NM NN NO NP NQ NR NS NT TW TX N6 N7 N8 N9 Oa Oc Q7 Q8 Od Oe Og TY T1 Oh Q9 Ra Jc Jd Je Jf T2 T3 Oi Oj Ol Om On Oo Oq Ot Ou KZ K0 Ov Ow Ox Oy YH YI Oz OA OB K1 K3 YJ YK YL YM K4 K5 K6 K7 K8 K9 La Lb Lc Ld Lf Lg Lh Li OC OD OE OF YN YO Lj Lk YP YQ T4 T5 T6 T7 T8 T9 Ua Ub Uc Rb Rc Re Rf Rg OG OH Ud Ue Rh YU Ri YR YS YT
attribute [go_sem] List.map_cons List.map_nil List.getElem?_cons_zero List.getElem?_cons_succ List.length_cons List.length_nil List.set_cons_zero List.set_cons_succ List.take_succ_cons List.take_zero List.take_nil List.drop_succ_cons List.drop_zero List.drop_nil List.cons_append List.nil_append List.append_nil Nat.zero_add Nat.add_zero Option.map_some Option.map_none
attribute [go_sem] Bool.not_false Bool.not_true List.length_map List.getElem?_map Int.toNat_natCast Int.natCast_nonneg Int.toNat_zero and_self and_true true_and
attribute [go_sem_proc ↓] reduceIte
attribute [go_sem_proc] Int.reduceLE reduceCtorEq Nat.reduceEqDiff Nat.reduceLeDiff Nat.reduceAdd Nat.reduceMul Nat.reduceSub Nat.reduceLT
theorem bl {b:Bool} {A C:Prop} (h1:b=true→A) (h:b=true:=by assumption) : @CB (.bool b) ⟨A,C⟩:=abn h h1
theorem bm {b:Bool} {A C:Prop} (h1:b=false→C) (h:b=false:=by assumption) : @CB (.bool b) ⟨A,C⟩:=abo h h1
theorem bn {b:Bool} {A C:Prop} (h1:b=true→A) (h2:b=false→C) : @CB (.bool b) ⟨A,C⟩:=⟨h1,h2⟩
theorem jb {a b:Prop} (x:a) (y:b):a∧b:=⟨x,y⟩
theorem bF {α:Type _} (a b:α):(some a=some b)=(a=b):=Option.some.injEq a b
theorem bG {α:Sort _} {p:α→Prop} {a:α} : (∃ x,a=x∧p x)↔p a:=exists_eq_left'
theorem C0 {n m:Nat} (h:Nat.ble n m=true):n≤m:=Nat.le_of_ble_eq_true h
theorem aE {n m:Nat} {res:List (Nat×Option (Bool×Nat))} {d:D} {s':St} {e:Exit} {tm:Tm} {s:St} {Q:Exit→Tm→St→Prop} (hQ:pR n m res d s'=Q) (h : ∃ l,aS res tm s=some l∧Wk ((aV l).fg n m) d∧gC (s.cut n m).ah s'.ah∧(s.cut n m).aw=s'.aw) (he:e = .ret∨e = .normal:=by first|exact .inl rfl|exact .inr rfl):Q e tm s:=by cases he with|inl x=>cases x;exact afn hQ h|inr x=>cases x;exact afo hQ h
theorem cq {p:Prop} (h:p:=by repeat' (first|exact Ok.out|with_reducible refine jb ?_ ?_|(simp;done))):p:=h
theorem bX {p:Prop} (h:p:=by repeat' (first|exact Ok.out|with_reducible refine jb ?_ ?_)):p:=h
theorem fO {p:Prop} (h:p:=by(try cases h);simp only[aS,aV,bF,bG,go_sem,hD,hY,hZ,gA];repeat' (first|exact Ok.out|with_reducible refine jb ?_ ?_|(simp;done))):p:=h
theorem bc {p:Prop} (h:p:=by simp only[aS,aV,bF,bG,go_sem,hD,hY,hZ,gA];repeat' (first|exact Ok.out|with_reducible refine jb ?_ ?_|(simp;done))):p:=h
theorem lX_ {p:Prop} (h:p:=by simp only[go_sem,hD,hY,hZ,gA];repeat' (first|exact Ok.out|with_reducible refine jb ?_ ?_)):p:=h
theorem ff {P:Program} {B:fX} {nt:Nat} {a:AC} {Q:Exit→Tm→St→Prop} {tm bx:Tm} {s:St} {gu:List (List D)} (n m:Nat) (h:bp P B nt a Q bx ⟨gu,(s.cut n m).aw⟩) (hn:B.s.ah.length≤n:=by rw[hB];exact C0 rfl) (hm:B.s.aw.length≤m:=by rw[hB];exact C0 rfl) (ht:wz tm n m bx:=by exact lX_) (ho:gC (s.cut n m).ah gu:=by exact lX_):bp P B nt a Q tm s:=bp.re bx gu n m hn hm ht ho h
theorem eQ {P:Program} {B:fX} {nt:Nat} {a:AC} {Q:Exit→Tm→St→Prop} {tm bx:Tm} {s:St} {gu:List (List D)} (n m:Nat) (ht:wz tm n m bx) (ho:gC (s.cut n m).ah gu) (h:bp P B nt a Q bx ⟨gu,(s.cut n m).aw⟩) (hn:B.s.ah.length≤n:=by rw[hB];exact C0 rfl) (hm:B.s.aw.length≤m:=by rw[hB];exact C0 rfl):bp P B nt a Q tm s:=bp.re bx gu n m hn hm ht ho h
theorem bR:0<1∧0<1∧0<1∧0<1:=⟨Nat.zero_lt_one,Nat.zero_lt_one,Nat.zero_lt_one,Nat.zero_lt_one⟩
end Go.Abs
namespace Go.Abs
mutual
theorem OI (n m:Nat) : ∀ d,D.ok 0 0 d=true→D.fg n m d=d
 | .junk,_=>by simp[D.fg]
 | .int k n,_=>by simp[D.fg]
 | .bool b,_=>by simp[D.fg]
 | .str l,_=>by simp[D.fg]
 | .dS,_=>by simp[D.fg]
 | .val v,_=>by simp[D.fg]
 | .ek z,_=>by simp[D.fg]
 | .fv T o,h=>by simp[D.ok]at h
 | .fS o,h=>by simp[D.ok]at h
 | .gi f cs,h=>by
  simp only[D.ok]at h
  simp only[D.fg,ie n m cs h]
 | .ptr o f,h=>by simp[D.ok]at h
 | .dz r f,h=>by
  simp only[D.ok]at h
  simp only[D.fg,ie n m r h]
 | .slice g z rows,h=>by
  simp only[D.ok,Bool.and_eq_true]at h
  simp only[D.fg,Jg n m rows h.2]
  cases g with
  |tok t y=>simp[Tag.ok]at h
  |full=>rfl
  |shared=>rfl
 | .agg cs,h=>by
  simp only[D.ok]at h
  simp only[D.fg,ie n m cs h]
 | .tuple cs,h=>by
  simp only[D.ok]at h
  simp only[D.fg,ie n m cs h]
theorem ie (n m:Nat) : ∀ l,D.bK 0 0 l=true→D.gx n m l=l
 | [],_=>by simp[D.gx]
 |d::r,h=>by
  simp only[D.bK,Bool.and_eq_true]at h
  simp only[D.gx,OI n m d h.1,ie n m r h.2]
theorem Jg (n m:Nat) : ∀ l,D.gS 0 0 l=true→D.kx n m l=l
 | [],_=>by simp[D.kx]
 |d::r,h=>by
  simp only[D.gS,Bool.and_eq_true]at h
  simp only[D.kx,ie n m d h.1,Jg n m r h.2]
end
theorem gT {α:Type} {f:α→List D} (h : ∀ x,D.bK 0 0 (f x)=true) (l:List α):D.gS 0 0 (l.map f)=true:=by
 simp[Eg,h]
theorem lY {α:Type} {f:α→List D} (h : ∀ x,D.bK 0 0 (f x)=true) (n m:Nat) (l:List α):D.kx n m (l.map f)=l.map f:=Jg n m _ (gT h l)
theorem LK (n m:Nat) : ∀ a b,D.kx n m (a++b)=D.kx n m a++D.kx n m b
 | [],b=>by simp[D.kx]
 |x::a,b=>by simp[D.kx,LK n m a b]
abbrev aG:=List UInt8
structure p7 where
 kind:Int
 text:aG
 n:Int
 pos:Int
deriving DecidableEq
structure Ex where
 op:Int
 n:Int
 name:aG
 kids:List Ex
structure Ar where
 ref:Bool
 name:aG
 x:Ex
structure Sm where
 id:Int
 kind:Int
 labels:List aG
 name:aG
 proc:aG
 x:Ex
 has:Bool
 args:List Ar
 a8:List Sm
 aR:List Sm
structure Pm where
 name:aG
 ref:Bool
structure Pc where
 name:aG
 params:List Pm
 vars:List aG
 body:List Sm
 fin:List aG
structure Pg where
 globals:List aG
 procs:List Pc
def q7:Ex:=⟨0,0,[],[]⟩
def ar0:Ar:=⟨false,[],q7⟩
def Jh:Sm:=⟨0,0,[],[],[],q7,false,[],[],[]⟩
def pg0:Pg:=⟨[],[]⟩
def encStr (s:aG):List D:= [.str s]
def jU (t:p7):List D:= [.int .i64 t.kind, .str t.text, .int .i64 t.n, .int .i64 t.pos]
def sl (z:Nat) (rows:List (List D)):D:= .slice .shared z rows
mutual
def cj:Ex→List D
 |⟨op,n,name,kids⟩=> [.int .i64 op, .int .i64 n, .str name, .slice .shared 4 (vq kids)]
def vq:List Ex→List (List D)
 | []=> []
 |x::l=>cj x::vq l
end
theorem GH : ∀ l,vq l=l.map cj
 | []=>by simp[vq]
 |x::l=>by simp[vq,GH l]
theorem je (x:Ex):cj x = [.int .i64 x.op, .int .i64 x.n, .str x.name, .slice .shared 4 (x.kids.map cj)]:=by
 cases x;simp[cj,GH]
def eB (a:Ar):List D:= [.bool a.ref, .str a.name, .int .i64 a.x.op, .int .i64 a.x.n, .str a.x.name, .slice .shared 4 (a.x.kids.map cj)]
mutual
def bh:Sm→List D
 |⟨id,kind,labels,name,proc,x,has,args,a8,aR⟩=> [.int .i64 id, .int .i64 kind, .slice .shared 1 (labels.map encStr), .str name, .str proc,
  .int .i64 x.op, .int .i64 x.n, .str x.name, .slice .shared 4 (x.kids.map cj), .bool has, .slice .shared 6 (args.map eB), .slice .shared 13 (tn a8), .slice .shared 13 (tn aR)]
def tn:List Sm→List (List D)
 | []=> []
 |x::l=>bh x::tn l
end
theorem GK : ∀ l,tn l=l.map bh
 | []=>by simp[tn]
 |x::l=>by simp[tn,GK l]
theorem ep (s:Sm):bh s = [.int .i64 s.id, .int .i64 s.kind, .slice .shared 1 (s.labels.map encStr), .str s.name, .str s.proc,
 .int .i64 s.x.op, .int .i64 s.x.n, .str s.x.name, .slice .shared 4 (s.x.kids.map cj), .bool s.has, .slice .shared 6 (s.args.map eB), .slice .shared 13 (s.a8.map bh), .slice .shared 13 (s.aR.map bh)]:=by
 cases s;simp[bh,GK]
def iJ (p:Pm):List D:= [.str p.name, .bool p.ref]
def cu (p:Pc):List D:= [.str p.name, .slice .shared 2 (p.params.map iJ), .slice .shared 1 (p.vars.map encStr), .slice .shared 13 (p.body.map bh), .slice .shared 1 (p.fin.map encStr)]
def cz (p:Pg):List D:= [.slice .shared 1 (p.globals.map encStr), .slice .shared 5 (p.procs.map cu)]
theorem abu (x:p7):(jU x).length=4:=nd rfl
theorem YZ (x:p7):List.take 4 (jU x)=jU x:=nd rfl
theorem Y0 (x:p7):List.drop 4 (jU x) = []:=nd rfl
theorem Rj (x:p7):(jU x)[0]? = some (.int .i64 x.kind):=nd rfl
theorem Rk (x:p7):(jU x)[1]? = some (.str x.text):=nd rfl
theorem Rm (x:p7):(jU x)[2]? = some (.int .i64 x.n):=nd rfl
theorem Rn (x:p7):(jU x)[3]? = some (.int .i64 x.pos):=nd rfl
theorem afv (En:Int) (WQ:aG) (n_:Int) (abw:Int):jU ⟨En,WQ,n_,abw⟩ = [.int .i64 En, .str WQ, .int .i64 n_, .int .i64 abw]:=by simp only[jU]
theorem WR (x:Ex):(cj x).length=4:=by simp only[je];rfl
theorem abx (x:Ex):List.take 4 (cj x)=cj x:=by simp only[je];rfl
theorem aby (x:Ex):List.drop 4 (cj x) = []:=by simp only[je];rfl
theorem Uh (x:Ex):(cj x)[0]? = some (.int .i64 x.op):=by simp only[je];rfl
theorem Ui (x:Ex):(cj x)[1]? = some (.int .i64 x.n):=by simp only[je];rfl
theorem Uj (x:Ex):(cj x)[2]? = some (.str x.name):=by simp only[je];rfl
theorem Uk (x:Ex):(cj x)[3]? = some (.slice .shared 4 (x.kids.map cj)):=by simp only[je];rfl
theorem ajJ (op_:Int) (n_:Int) (oP:aG) (WS:List Ex):cj ⟨op_,n_,oP,WS⟩ = [.int .i64 op_, .int .i64 n_, .str oP, .slice .shared 4 (WS.map cj)]:=by simp only[je]
theorem afw (x:Ar):(eB x).length=6:=nd rfl
theorem abz (x:Ar):List.take 6 (eB x)=eB x:=nd rfl
theorem abA (x:Ar):List.drop 6 (eB x) = []:=nd rfl
theorem Ul (x:Ar):(eB x)[0]? = some (.bool x.ref):=nd rfl
theorem Um (x:Ar):(eB x)[1]? = some (.str x.name):=nd rfl
theorem Un (x:Ar):(eB x)[2]? = some (.int .i64 x.x.op):=nd rfl
theorem Uo (x:Ar):(eB x)[3]? = some (.int .i64 x.x.n):=nd rfl
theorem Uq (x:Ar):(eB x)[4]? = some (.str x.x.name):=nd rfl
theorem Ur (x:Ar):(eB x)[5]? = some (.slice .shared 4 (x.x.kids.map cj)):=nd rfl
theorem Us (x:Ar):List.take 4 (List.drop 2 (eB x))=cj x.x:=by simp only[eB,je];rfl
theorem ajK (Ji:Bool) (oP:aG) (x_:Ex):eB ⟨Ji,oP,x_⟩ = [.bool Ji, .str oP, .int .i64 x_.op, .int .i64 x_.n, .str x_.name, .slice .shared 4 (x_.kids.map cj)]:=by simp only[eB]
theorem H0 (x:Sm):(bh x).length=13:=by simp only[ep];rfl
theorem abB (x:Sm):List.take 13 (bh x)=bh x:=by simp only[ep];rfl
theorem abC (x:Sm):List.drop 13 (bh x) = []:=by simp only[ep];rfl
theorem Ut (x:Sm):(bh x)[0]? = some (.int .i64 x.id):=by simp only[ep];rfl
theorem Uu (x:Sm):(bh x)[1]? = some (.int .i64 x.kind):=by simp only[ep];rfl
theorem Uv (x:Sm):(bh x)[2]? = some (.slice .shared 1 (x.labels.map encStr)):=by simp only[ep];rfl
theorem Uw (x:Sm):(bh x)[3]? = some (.str x.name):=by simp only[ep];rfl
theorem Ux (x:Sm):(bh x)[4]? = some (.str x.proc):=by simp only[ep];rfl
theorem Uy (x:Sm):(bh x)[5]? = some (.int .i64 x.x.op):=by simp only[ep];rfl
theorem Uz (x:Sm):(bh x)[6]? = some (.int .i64 x.x.n):=by simp only[ep];rfl
theorem UA (x:Sm):(bh x)[7]? = some (.str x.x.name):=by simp only[ep];rfl
theorem UB (x:Sm):(bh x)[8]? = some (.slice .shared 4 (x.x.kids.map cj)):=by simp only[ep];rfl
theorem UC (x:Sm):(bh x)[9]? = some (.bool x.has):=by simp only[ep];rfl
theorem Ro (x:Sm):(bh x)[10]? = some (.slice .shared 6 (x.args.map eB)):=by simp only[ep];rfl
theorem Rp (x:Sm):(bh x)[11]? = some (.slice .shared 13 (x.a8.map bh)):=by simp only[ep];rfl
theorem Rq (x:Sm):(bh x)[12]? = some (.slice .shared 13 (x.aR.map bh)):=by simp only[ep];rfl
theorem UD (x:Sm):List.take 4 (List.drop 5 (bh x))=cj x.x:=by simp only[ep,je];rfl
theorem ajL (id_:Int) (En:Int) (LL:List aG) (oP:aG) (WT:aG) (x_:Ex) (abD:Bool) (WU:List Ar) (abE:List Sm) (abF:List Sm):bh ⟨id_,En,LL,oP,WT,x_,abD,WU,abE,abF⟩ = [.int .i64 id_, .int .i64 En, .slice .shared 1 (LL.map encStr), .str oP, .str WT, .int .i64 x_.op, .int .i64 x_.n, .str x_.name, .slice .shared 4 (x_.kids.map cj), .bool abD, .slice .shared 6 (WU.map eB), .slice .shared 13 (abE.map bh), .slice .shared 13 (abF.map bh)]:=by simp only[ep]
theorem afx (x:Pm):(iJ x).length=2:=nd rfl
theorem abG (x:Pm):List.take 2 (iJ x)=iJ x:=nd rfl
theorem abH (x:Pm):List.drop 2 (iJ x) = []:=nd rfl
theorem UE (x:Pm):(iJ x)[0]? = some (.str x.name):=nd rfl
theorem UF (x:Pm):(iJ x)[1]? = some (.bool x.ref):=nd rfl
theorem ajM (oP:aG) (Ji:Bool):iJ ⟨oP,Ji⟩ = [.str oP, .bool Ji]:=by simp only[iJ]
theorem afy (x:Pc):(cu x).length=5:=nd rfl
theorem abI (x:Pc):List.take 5 (cu x)=cu x:=nd rfl
theorem abJ (x:Pc):List.drop 5 (cu x) = []:=nd rfl
theorem UG (x:Pc):(cu x)[0]? = some (.str x.name):=nd rfl
theorem UH (x:Pc):(cu x)[1]? = some (.slice .shared 2 (x.params.map iJ)):=nd rfl
theorem UI (x:Pc):(cu x)[2]? = some (.slice .shared 1 (x.vars.map encStr)):=nd rfl
theorem UJ (x:Pc):(cu x)[3]? = some (.slice .shared 13 (x.body.map bh)):=nd rfl
theorem UK (x:Pc):(cu x)[4]? = some (.slice .shared 1 (x.fin.map encStr)):=nd rfl
theorem ajN (oP:aG) (LM:List Pm) (WV:List aG) (WW:List Sm) (abK:List aG):cu ⟨oP,LM,WV,WW,abK⟩ = [.str oP, .slice .shared 2 (LM.map iJ), .slice .shared 1 (WV.map encStr), .slice .shared 13 (WW.map bh), .slice .shared 1 (abK.map encStr)]:=by simp only[cu]
theorem afz (x:Pg):(cz x).length=2:=nd rfl
theorem abL (x:Pg):List.take 2 (cz x)=cz x:=nd rfl
theorem abM (x:Pg):List.drop 2 (cz x) = []:=nd rfl
theorem UL (x:Pg):(cz x)[0]? = some (.slice .shared 1 (x.globals.map encStr)):=nd rfl
theorem UM (x:Pg):(cz x)[1]? = some (.slice .shared 5 (x.procs.map cu)):=nd rfl
theorem ajO (Jj:List aG) (Rr:List Pc):cz ⟨Jj,Rr⟩ = [.slice .shared 1 (Jj.map encStr), .slice .shared 5 (Rr.map cu)]:=by simp only[cz]
attribute [go_sem] abu YZ Y0 Rj Rk Rm Rn afv WR abx aby Uh Ui Uj Uk ajJ afw abz abA Ul Um Un Uo Uq Ur Us ajK H0 abB abC Ut Uu Uv Uw Ux Uy Uz UA UB UC Ro Rp Rq UD ajL afx abG abH UE UF ajM afy abI abJ UG UH UI UJ UK ajN afz abL abM UL UM ajO
theorem Eo (s:aG):D.bK 0 0 (encStr s)=true:=rfl
theorem WX (t:p7):D.bK 0 0 (jU t)=true:=rfl
mutual
theorem lU : ∀ x,D.bK 0 0 (cj x)=true
 |⟨op,n,name,kids⟩=>by simp[cj,D.bK,D.ok,Tag.ok,WY kids]
theorem WY : ∀ l,D.gS 0 0 (vq l)=true
 | []=>rfl
 |x::l=>by simp[vq,D.gS,lU x,WY l]
end
theorem OM (a:Ar):D.bK 0 0 (eB a)=true:=by simp[eB,D.bK,D.ok,Tag.ok,gT lU]
mutual
theorem q8 : ∀ x,D.bK 0 0 (bh x)=true
 |⟨id,kind,labels,name,proc,x,has,args,a8,aR⟩=>by simp[bh,D.bK,D.ok,Tag.ok,ON a8,ON aR,gT Eo,gT lU,gT OM]
theorem ON : ∀ l,D.gS 0 0 (tn l)=true
 | []=>rfl
 |x::l=>by simp[tn,D.gS,q8 x,ON l]
end
theorem OO (p:Pm):D.bK 0 0 (iJ p)=true:=rfl
theorem xm (p:Pc):D.bK 0 0 (cu p)=true:=by simp[cu,D.bK,D.ok,Tag.ok,gT OO,gT Eo,gT q8]
theorem jw (p:Pg):D.bK 0 0 (cz p)=true:=by simp[cz,D.bK,D.ok,Tag.ok,gT Eo,gT xm]
theorem abN (n m:Nat) (x:p7):D.gx n m (jU x)=jU x:=ie n m _ (WX x)
theorem afA (n m:Nat) (x:Ex):D.gx n m (cj x)=cj x:=ie n m _ (lU x)
theorem afB (n m:Nat) (x:Ar):D.gx n m (eB x)=eB x:=ie n m _ (OM x)
theorem afC (n m:Nat) (x:Sm):D.gx n m (bh x)=bh x:=ie n m _ (q8 x)
theorem afD (n m:Nat) (x:Pm):D.gx n m (iJ x)=iJ x:=ie n m _ (OO x)
theorem afE (n m:Nat) (x:Pc):D.gx n m (cu x)=cu x:=ie n m _ (xm x)
theorem afF (n m:Nat) (x:Pg):D.gx n m (cz x)=cz x:=ie n m _ (jw x)
attribute [go_sem] abN afA afB afC afD afE afF
theorem fa (l:List aG):D.gS 0 0 (l.map encStr)=true:=gT Eo l
theorem WZ (l:List Ex):D.gS 0 0 (l.map cj)=true:=gT lU l
theorem H2 (l:List Ar):D.gS 0 0 (l.map eB)=true:=gT OM l
theorem pD (l:List Sm):D.gS 0 0 (l.map bh)=true:=gT q8 l
theorem afG (l:List Pm):D.gS 0 0 (l.map iJ)=true:=gT OO l
theorem wA (l:List Pc):D.gS 0 0 (l.map cu)=true:=gT xm l
theorem Rs (n m:Nat) (l:List aG):D.kx n m (l.map encStr)=l.map encStr:=lY Eo n m l
theorem abO (n m:Nat) (l:List p7):D.kx n m (l.map jU)=l.map jU:=lY WX n m l
theorem afH (n m:Nat) (l:List Ex):D.kx n m (l.map cj)=l.map cj:=lY lU n m l
theorem afI (n m:Nat) (l:List Ar):D.kx n m (l.map eB)=l.map eB:=lY OM n m l
theorem afJ (n m:Nat) (l:List Sm):D.kx n m (l.map bh)=l.map bh:=lY q8 n m l
theorem afK (n m:Nat) (l:List Pm):D.kx n m (l.map iJ)=l.map iJ:=lY OO n m l
theorem W0 (n m:Nat) (l:List Pc):D.kx n m (l.map cu)=l.map cu:=lY xm n m l
theorem abP (x:Ex) (r:List D):cj x++r = .int .i64 x.op:: .int .i64 x.n:: .str x.name:: .slice .shared 4 (x.kids.map cj)::r:=by rw[je];rfl
theorem Y1 (d:D) (x:Ex):d::cj x = [d, .int .i64 x.op, .int .i64 x.n, .str x.name, .slice .shared 4 (x.kids.map cj)]:=by rw[je]
attribute [go_sem] abP Y1
theorem afL:((0:Nat):Int)=0:=nd rfl
theorem afM:((1:Nat):Int)=1:=nd rfl
theorem afN:((2:Nat):Int)=2:=nd rfl
attribute [go_sem] afL afM afN LK List.length_append List.map_append encStr q7 ar0 Jh pg0 Rs abO afH afI afJ afK W0
theorem mx (a b:Nat):(if(b:Int) > (a:Int)then(b:Int)else(a:Int))=((max a b:Nat):Int):=by split<;>omega
theorem ei {x:Int} (h1 : -9223372036854775808≤x) (h2:x<9223372036854775808):IntKind.wrap .i64 x=x:=by
 rw[IntKind.wrap_i64];omega
@[go_sem] theorem aI {n:Nat} (h:n<4611686018427387904):IntKind.wrap .i64 ((n:Int)+1)=((n+1:Nat):Int):=by
 rw[ei]<;>omega
def inc (n:Nat):Option Nat:=if n<4611686018427387904 then some (n+1)else none
def ajP (n:Int):Option Int:=if -4611686018427387904<n∧n<4611686018427387904 then some (n+1)else none
@[go_sem] theorem aiv {n:Nat} (h:n+1<4611686018427387904):IntKind.wrap .i64 ((n:Int)+1)=((n+1:Nat):Int):=by
 rw[ei]<;>omega
@[go_sem] theorem aiw {n:Nat} (h:n<4611686018427387904):IntKind.wrap .i64 ((n:Int)+2)=((n+2:Nat):Int):=by
 rw[ei]<;>omega
def abQ {α:Type} (l:List α) (i:Nat):Option α:=if i<4611686018427387904 then l[i]? else none
def push {α:Type} (k:Nat) (l:List α) (x:α):Option (List α):=if(l.length+1)*k≤bC then some (l++ [x])else none
end Go.Abs
namespace Go.Abs
def C1 (os ts:List Nat) (tm:Tm):Tm→Prop
 | []=>True
 |(k,d)::r=>tm.get k=d.cU os ts∧d.ok os.length ts.length=true∧C1 os ts tm r
theorem C1.get {os ts:List Nat} {tm:Tm} : ∀ {bx:Tm},C1 os ts tm bx→∀ k,bx.get k = .junk∨(tm.get k=(bx.get k).cU os ts∧(bx.get k).ok os.length ts.length=true)
 | [],_,k=> .inl rfl
 |(q,d)::r,⟨h1,h2,h3⟩,k=>by
  simp only[Tm.get]
  split
  ·rename_i e;subst e;exact .inr ⟨h1,h2⟩
  ·exact h3.get k
section
variable {P:Program} {B:fX} {nt:Nat}
theorem Holds.sel {tm:Tm} {s:St} {act:Act} {w:World} (os:List Nat) (gu:List (List D)) (bx:Tm) (uy:os.Nodup) (iZ : ∀ o∈os,o<s.ah.length) (hn:B.s.ah.length≤os.length)
 (hold : ∀ i,i<B.s.ah.length→os[i]? = some i) (dh : ∀ (i o:Nat),os[i]? = some o→B.s.ah.length≤i→B.s.ah.length≤o) (ho:gu.length=os.length)
 (xh : ∀ (i o:Nat) (ds:List D),os[i]? = some o→gu[i]? = some ds→s.ah[o]? = some (D.e7 os (List.range s.aw.length) ds)∧D.bK os.length s.aw.length ds=true)
 (Rt:C1 os (List.range s.aw.length) tm bx) (h:Holds B nt tm s act w):Holds B nt bx ⟨gu,s.aw⟩ act w:=by
 obtain⟨M,e,r,hr,h1,h2⟩:=h
 have uw:(List.range s.aw.length).length=s.aw.length:=List.length_range
 have rg : ∀ (i t:Nat),(List.range s.aw.length)[i]? = some t→i=t:=fun i t h=>by
  rw[List.getElem?_eq_some_iff]at h
  obtain⟨h3,h4⟩:=h
  simpa using h4
 have r0:Rel (gK M os (List.range s.aw.length)) ⟨gu,s.aw⟩ w:=r.sub uy List.nodup_range iZ ho (fun i o ds e1 e2=>by rw[uw];exact xh i o ds e1 e2) uw.symm (fun i t h=>by rw[rg i t h])
 have loc : ∀ (i:Nat) o,os[i]? = some o→(gK M os (List.range s.aw.length)).loc i=M.loc o:=fun i o h=>by simp only[gK,uZ h]
 have be : ∀ t,t<s.aw.length→(gK M os (List.range s.aw.length)).be t=M.be t:=fun t h=>by
  have:(List.range s.aw.length)[t]? = some t:=List.getElem?_range h
  simp only[gK,uZ this]
 refine⟨gK M os (List.range s.aw.length),⟨⟨e.le.G,by rw[ho];exact hn,fun o h=>?_,e.le.t,fun t n' h e'=>?_⟩,e.kept,fun o h3 h4=>?_,fun t b c z hl hb=>?_,e.sb,e.size,e.os,e.tape,e.output⟩,r0,fun k=>?_,h1,h2⟩
 ·rw[loc o o (hold o h)];exact e.le.loc o h
 ·obtain⟨n,g1,g2,g3⟩:=e.le.tk t n' h e'
  exact⟨n,g1,g2,fun eq=>by rw[be t (Nat.lt_of_lt_of_le h e.le.t)];exact g3 eq⟩
 ·simp only at h4
  rw[ho]at h4
  obtain⟨q,hq⟩ : ∃ q,os[o]? = some q:=⟨_,List.getElem?_eq_getElem h4⟩
  have mY:(gK M os (List.range s.aw.length)).mu o=M.mu q:=congrArg Prod.fst (loc o q hq)
  rw[mY]at h3 ⊢
  refine e.tH q ?_ (iZ q (List.mem_of_getElem? hq))
  by_cases h5:B.s.ah.length≤o
  ·exact .inl (dh o q hq h5)
  ·have:=hold o (by omega)
   rw[hq]at this
   cases this
   rcases h3 with h3|h3
   ·exact(h5 h3).elim
   ·exact .inr h3
 ·obtain⟨n,qS⟩:=hl
  have hD:=(List.getElem?_eq_some_iff.1 qS).1
  rw[be t hD]at hb
  exact e.qo t b c z ⟨n,qS⟩ hb
 ·rcases Rt.get k with h3 | ⟨h3,h4⟩
  ·rw[h3];exact .junk _
  ·exact RD.B9 (M:=M) (M0:=gK M os (List.range s.aw.length)) (s:=s) (s0:=⟨gu,s.aw⟩) rfl loc ho (fun i t h=>by
    have:=rg i t h;subst this;exact be i (by have:=(List.getElem?_eq_some_iff.1 h).1;rwa [uw]at this)) (fun i t h=>by rw[rg i t h]) uw.symm (h3 ▸ hr k) _ rfl h4
theorem bp.sel {a:AC} {Q:Exit→Tm→St→Prop} {tm:Tm} {s:St} (os:List Nat) (gu:List (List D)) (bx:Tm) (uy:os.Nodup) (iZ : ∀ o∈os,o<s.ah.length) (hn:B.s.ah.length≤os.length)
 (hold : ∀ i,i<B.s.ah.length→os[i]? = some i) (dh : ∀ (i o:Nat),os[i]? = some o→B.s.ah.length≤i→B.s.ah.length≤o) (ho:gu.length=os.length)
 (xh : ∀ (i o:Nat) (ds:List D),os[i]? = some o→gu[i]? = some ds→s.ah[o]? = some (D.e7 os (List.range s.aw.length) ds)∧D.bK os.length s.aw.length ds=true)
 (Rt:C1 os (List.range s.aw.length) tm bx) (h:bp P B nt a Q bx ⟨gu,s.aw⟩):bp P B nt a Q tm s:=
 fun c hc act w hh=>h c hc act w (hh.sel os gu bx uy iZ hn hold dh ho xh Rt)
mutual
def D.fK (o g:Nat) (rows:List (List D)):D→D
 | .eA z o' g' len=>if o'=o∧g'=g∧len=rows.length then .slice .shared z rows else .eA z o' g' len
 | .dz row off=> .dz (D.jx o g rows row) off
 | .slice t z rs=> .slice t z (D.q9 o g rows rs)
 | .agg cs=> .agg (D.jx o g rows cs)
 | .tuple ds=> .tuple (D.jx o g rows ds)
 | .gi f cs=> .gi f (D.jx o g rows cs)
 | .ptr o off=> .ptr o off
 | .junk=> .junk
 | .int k x=> .int k x
 | .bool b=> .bool b
 | .str l=> .str l
 | .dS=> .dS
 | .val v=> .val v
 | .fv T o=> .fv T o
 | .fS o=> .fS o
 | .fw o g off=> .fw o g off
 | .ek z=> .ek z
def D.jx (o g:Nat) (rows:List (List D)):List D→List D
 | []=> []
 |d::r=>D.fK o g rows d::D.jx o g rows r
def D.q9 (o g:Nat) (rows:List (List D)):List (List D)→List (List D)
 | []=> []
 |d::r=>D.jx o g rows d::D.q9 o g rows r
end
theorem ox (o g:Nat) (rows:List (List D)) : ∀ l,D.jx o g rows l=l.map (D.fK o g rows)
 | []=>by simp[D.jx]
 |d::r=>by simp[D.jx,ox o g rows r]
theorem LN (o g:Nat) (rows:List (List D)) : ∀ l,D.q9 o g rows l=l.map (D.jx o g rows)
 | []=>by simp[D.q9]
 |d::r=>by simp[D.q9,LN o g rows r]
theorem RD.fK {M:Map} {s:St} {o g:Nat} {rows:List (List D)} {b cap z:Nat} {A:Nat→Option (Nat×Nat)} (hm:M.ob o = .arr z A) (ha:A g=some (b,cap))
 (hs : ∀ row∈rows,row.length=z) (h1 : ∀ (i:Nat) (row:List D) (j:Nat) (d:D),rows[i]? = some row→row[j]? = some d→∃ u,M.G b (0+(i*z+j))=some u)
 (h2 : ∀ (i:Nat) (row:List D) (j:Nat) (d:D) (u:Value),rows[i]? = some row→row[j]? = some d→M.G b (0+(i*z+j))=some u→RD M s d u)
 {d:D} {v:Value} (h:RD M s d v):RD M s (d.fK o g rows) v:=by
 induction h with
 | eA z' o' g' len b' qs A' ho Ad wm hl=>
  simp only[D.fK]
  split
  ·rename_i hc
   obtain⟨rfl,rfl,rfl⟩:=hc
   rw[hm]at Ad
   cases Ad
   rw[ha]at wm
   cases wm
   exact .slice .shared z rows b 0 cap hl hs h1 h2 trivial
  ·exact .eA z' o' g' len b' qs A' ho Ad wm hl
 |fw z' o' g' off b' qs A' ho Ad wm=>simp only[D.fK];exact .fw z' o' g' off b' qs A' ho Ad wm
 |ek z a=>simp only[D.fK];exact .ek z a
 |junk v=>simp only[D.fK];exact .junk v
 |int k x=>simp only[D.fK];exact .int k x
 |bool b=>simp only[D.fK];exact .bool b
 |str l=>simp only[D.fK];exact .str l
 |dS=>simp only[D.fK];exact .dS
 |val v hv=>simp only[D.fK];exact .val v hv
 |fv T o v h ht hv=>simp only[D.fK];exact .fv T o v h ht hv
 |fS o h hm=>simp only[D.fK];exact .fS o h hm
 |ptr o off h hm=>simp only[D.fK];exact .ptr o off h hm
 |gi f ds vs hl _ ih=>
  simp only[D.fK,ox]
  refine .gi f _ vs (by simpa using hl) (fun i d v e1 e2=>?_)
  simp only[List.getElem?_map,Option.map_eq_some_iff]at e1
  obtain⟨d',e1,rfl⟩:=e1
  exact ih i d' v e1 e2
 | dz row off b k h1 h2 ih=>
  simp only[D.fK,ox]
  refine .dz _ off b k (fun i d e=>?_) (fun i d u e eu=>?_)
  ·simp only [List.getElem?_map,Option.map_eq_some_iff]at e
   obtain⟨d',e,rfl⟩:=e
   exact h1 i d' e
  ·simp only [List.getElem?_map,Option.map_eq_some_iff]at e
   obtain⟨d',e,rfl⟩:=e
   exact ih i d' u e eu
 |iA t z cap hc ht=>simp only[D.fK,D.q9];exact .iA _ z cap hc ht
 |lB z a cap=>simp only[D.fK,D.q9];exact .lB z a cap
 | slice t z rs b k cap hl hs h1 h2 ht ih=>
  simp only[D.fK,LN]
  have hlen:(rs.map (D.jx o g rows)).length=rs.length:=by simp
  have key:=RD.slice (M:=M) (s:=s) t z (rs.map (D.jx o g rows)) b k cap (by rw[hlen];exact hl) (fun row hr=>by
   obtain⟨kp,h',rfl⟩:=List.mem_map.1 hr
   rw[ox,List.length_map];exact hs kp h')
   (fun i row j d e1 e2=>by
    simp only[List.getElem?_map,Option.map_eq_some_iff]at e1
    obtain⟨kp,e1,rfl⟩:=e1
    rw[ox]at e2
    simp only[List.getElem?_map,Option.map_eq_some_iff]at e2
    obtain⟨d',e2,rfl⟩:=e2
    exact h1 i kp j d' e1 e2)
   (fun i row j d u e1 e2 eu=>by
    simp only[List.getElem?_map,Option.map_eq_some_iff]at e1
    obtain⟨kp,e1,rfl⟩:=e1
    rw[ox]at e2
    simp only[List.getElem?_map,Option.map_eq_some_iff]at e2
    obtain⟨d',e2,rfl⟩:=e2
    exact ih i kp j d' u e1 e2 eu)
   (by rw[hlen];exact ht)
  rw[hlen]at key
  exact key
 |agg cells vs hl h1 _ ih=>
  simp only[D.fK,ox]
  refine .agg _ vs (by simpa using hl) h1 (fun i d v e1 e2=>?_)
  simp only[List.getElem?_map,Option.map_eq_some_iff]at e1
  obtain⟨d',e1,rfl⟩:=e1
  exact ih i d' v e1 e2
 |tuple ds vs hl _ ih=>
  simp only[D.fK,ox]
  refine .tuple _ vs (by simpa using hl) (fun i d v e1 e2=>?_)
  simp only[List.getElem?_map,Option.map_eq_some_iff]at e1
  obtain⟨d',e1,rfl⟩:=e1
  exact ih i d' v e1 e2
def fzR (o g:Nat) (rows:List (List D)) (n m:Nat) (ds:List D):List D:=D.gx n m (D.jx o g rows ds)
def W1 (o g:Nat) (rows:List (List D)) (m:Nat) (tm:Tm):Tm→Prop
 | []=>True
 |(k,d)::r=>Wk (((tm.get k).fK o g rows).fg o m) d∧W1 o g rows m tm r
end
end Go.Abs
namespace Go.Abs
mutual
def D.flat:D→Bool
 | .int _ _=>true
 | .bool _=>true
 | .str _=>true
 | .tuple ds=>D.Ep ds
 |_=>false
def D.Ep:List D→Bool
 | []=>true
 |d::r=>d.flat && D.Ep r
end
theorem GM : ∀ {l:List D},D.Ep l=true→∀ {i:Nat} {d:D},l[i]? = some d→d.flat=true
 | [],_,i,d,e=>by simp at e
 |a::l,h,i,d,e=>by
  simp only[D.Ep,Bool.and_eq_true]at h
  cases i with
  |zero=>simp at e;subst e;exact h.1
  |succ i=>exact GM h.2 (by simpa using e)
theorem RD.flat {M M':Map} {s s':St} {d:D} {v:Value} (h:RD M s d v):d.flat=true→RD M' s' d v:=by
 induction h with
 |int k n=>exact fun _=> .int k n
 |bool b=>exact fun _=> .bool b
 |str l=>exact fun _=> .str l
 |tuple ds vs hl _ ih=>exact fun hf=> .tuple ds vs hl fun i d v e1 e2=>ih i d v e1 e2 (GM (by simpa only[D.flat]using hf) e1)
 |_=>intro hf;simp only[D.flat,Bool.false_eq_true]at hf
theorem LO {n m:Nat} : ∀ {l:List D},D.bK n m l=true→∀ {i:Nat} {d:D},l[i]? = some d→d.ok n m=true
 | [],_,i,d,e=>by simp at e
 |a::l,h,i,d,e=>by
  simp only[D.bK,Bool.and_eq_true]at h
  cases i with
  |zero=>simp at e;subst e;exact h.1
  |succ i=>exact LO h.2 (by simpa using e)
theorem Rel.CS {M:Map} {s:St} {w w':World} (r:Rel M s w) (CS : ∀ k,k<w.heap.size→w'.heap[k]? = w.heap[k]?) (hs:w.heap.size≤w'.heap.size) (h1:w'.os=w.os) (h2:w'.tape=w.tape) (h3:w'.output=w.output) :
 Rel M s w'∧Ext M s w M s w':=by
 refine⟨⟨fun p o v e=>?_,fun o ds e=>?_,r.jL,r.inj,fun t n e=>?_,r.fh,r.fU⟩,⟨Le.refl M s,fun k hk _ _=>CS k hk,fun o h h'=>by rcases h with h|h;omega;exact(h rfl).elim,fun t b c z h e=> .inl ⟨h,c,z,e⟩,fun _ _ h=>(h rfl).elim,hs,h1,h2,h3⟩⟩
 ·obtain⟨h1,h2⟩:=r.comm p o v e
  refine⟨?_,h2⟩
  rw[← h1]
  simp only[World.cell?,CS _ (r.AY e)]
 ·obtain⟨vs,T,h1,h2⟩:=r.obj o ds e
  exact⟨vs,T,h1.keep (CS _ h1.lt),h2⟩
 ·rcases r.tok t n e with h | ⟨p,cap,z,vs,T,h1,h2,h3⟩
  ·exact .inl h
  ·exact .inr ⟨p,cap,z,vs,T,h1,by rw[CS _ (kg h2)];exact h2,h3⟩
theorem aF.ajQ {P:Program} {f:FuncId} {args:List D} {d:D} {s:St} {o g z:Nat} {rows:List (List D)} {k:Nat} (hk:args[k]? = some (.eA z o g rows.length)) {more:List D}
 (dZ:s.ah[o]? = some (.int .i64 (g:Int)::(rows.flatten++more))) (hs : ∀ row∈rows,row.length=z) (h:aF P f (D.jx o g rows args) S0 d S0) (ha:D.bK 0 0 (D.jx o g rows args)=true)
 (hd:d.flat=true):aF P f args s d s:=by
 intro M w fJ r hl dO za
 have hD:=(List.getElem?_eq_some_iff.1 hk).1
 obtain⟨b0,abS,A,_,_,hm,_⟩:=(za k _ _ hk (Array.getElem?_eq_getElem (by omega))).xT
 have ic:nQ s o g=some (rows.flatten++more):=by unfold nQ;rw[dZ];simp
 obtain⟨us,T,cap,hh,xW,CN,avV,hle,gZ,jv⟩:=r.IB hm ic
 have FH:o<s.ah.length:=(List.getElem?_eq_some_iff.1 dZ).1
 have hGo : ∀ q,M.G (M.mu o) q=none:=r.jL o FH
 let M':Map:= {M with G:=fun b q=>if b=M.mu o then us[q]? else M.G b q}
 have pZ : ∀ b,b≠M.mu o→∀ q,M'.G b q=M.G b q:=fun b hb q=>if_neg hb
 have le:Le M s M' s:=⟨fun b q v hq=>by
  by_cases hb:b=M.mu o
  ·subst hb;rw[hGo]at hq;cases hq
  ·rw[pZ b hb];exact hq,Nat.le_refl _,fun _ _=> .refl _,Nat.le_refl _,fun t n' _ e=>⟨n',e,Nat.le_refl _,fun _=>rfl⟩⟩
 have gW : ∀ (i:Nat) (row:List D) (j:Nat) (d:D),rows[i]? = some row→row[j]? = some d→(rows.flatten++more)[i*z+j]? = some d:=by
  have gen : ∀ (rows:List (List D)),(∀ row∈rows,row.length=z)→∀ (i:Nat) (row:List D) (j:Nat) (d:D),rows[i]? = some row→row[j]? = some d→rows.flatten[i*z+j]? = some d:=by
   intro rows
   induction rows with
   |nil=>intro _ i row j d e1;simp at e1
   | cons a rows ih=>
    intro hs i row j d e1 e2
    have ye:=hs a (List.mem_cons_self ..)
    rw[List.flatten_cons]
    cases i with
    |zero=>
     simp at e1;subst e1
     rw[Nat.zero_mul,Nat.zero_add,List.getElem?_append_left (List.getElem?_eq_some_iff.1 e2).1];exact e2
    |succ i=>
     rw[List.getElem?_append_right (by rw[Nat.add_mul];omega),ye,show(i+1)*z+j - z=i*z+j by rw[Nat.add_mul];omega]
     exact ih (fun q hq=>hs q (List.mem_cons_of_mem _ hq)) i row j d (by simpa using e1) e2
  intro i row j d e1 e2
  have:=gen rows hs i row j d e1 e2
  rw[List.getElem?_append_left (List.getElem?_eq_some_iff.1 this).1];exact this
 have g1 : ∀ (i:Nat) (row:List D) (j:Nat) (d:D),rows[i]? = some row→row[j]? = some d→∃ u,M'.G (M.mu o) (0+(i*z+j))=some u:=fun i row j d e1 e2=>by
  have hD:=(List.getElem?_eq_some_iff.1 (gW i row j d e1 e2)).1
  refine⟨us[i*z+j]'(by omega), ?_⟩
  show(if M.mu o=M.mu o then us[0+(i*z+j)]? else _)=_
  rw[if_pos rfl,Nat.zero_add]
  exact Array.getElem?_eq_getElem _
 have g2 : ∀ (i:Nat) (row:List D) (j:Nat) (d:D) (u:Value),rows[i]? = some row→row[j]? = some d→M'.G (M.mu o) (0+(i*z+j))=some u→RD M' s d u:=fun i row j d u e1 e2 eu=>by
  have Er:(if M.mu o=M.mu o then us[0+(i*z+j)]? else M.G (M.mu o) (0+(i*z+j)))=some u:=eu
  rw[if_pos rfl,Nat.zero_add]at Er
  exact(jv _ d u (gW i row j d e1 e2) Er).mono le
 have r0:Rel M' S0 w:=⟨fun b q v hq=>by
  have mM:(if b=M.mu o then us[q]? else M.G b q)=some v:=hq
  by_cases hb:b=M.mu o
  ·rw [if_pos hb]at mM
   rw[hb,jj hh]
   exact⟨mM,gZ v (Array.mem_of_getElem? mM)⟩
  ·rw [if_neg hb]at mM
   exact r.comm b q v mM,fun o ds e=>by simp[S0]at e,fun o h=>by simp[S0]at h,fun o _ h=>by simp[S0]at h,fun t n e=>by simp[S0]at e,
  fun t b c z o hl _ ho=>by simp[S0]at ho,fun t t' b c z c' z' hl=>by obtain⟨n,hn⟩:=hl;simp[S0]at hn⟩
 have l0:Laid M' S0 w:=fun q cs hq=>⟨(hl q cs hq).1,fun o ho=>by simp[S0]at ho,fun t c z ht=>by obtain⟨n,hn⟩:=ht;simp[S0]at hn⟩
 have a0 : ∀ (i:Nat) (d:D) (v:Value),(D.jx o g rows args)[i]? = some d→fJ[i]? = some v→RD M' S0 d v:=fun i d0 v e1 e2=>by
  have pK:=LO ha e1
  rw[ox,List.getElem?_map,Option.map_eq_some_iff]at e1
  obtain⟨d1,e1,rfl⟩:=e1
  have wB:=((za i d1 v e1 e2).mono le).fK (M:=M') hm xW hs g1 g2
  exact RD.B9 (M:=M') (M0:=M') (s:=s) (s0:=S0) (os:= []) (ts:= []) rfl (by simp) rfl (by simp) (by simp) rfl wB _ (qu _ _ _ pK) pK
 refine(h M' w fJ r0 l0 (by rw[dO,ox,List.length_map]) a0).mono fun e w' ⟨M2,d2,v,s2,h1,⟨h2,h3⟩,hx,_,h4⟩=>?_
 subst h2 h3
 have CS : ∀ k,k<w.heap.size→w'.heap[k]? = w.heap[k]? :=fun k hk=>hx.kept k hk (fun o ho=>by simp[S0]at ho) (fun t c z ht=>by obtain⟨n,hn⟩:=ht;simp[S0]at hn)
 obtain⟨r',e'⟩:=r.CS CS hx.size hx.os hx.tape hx.output
 exact⟨M,d2,v,s,h1,⟨rfl,rfl⟩,e',r',h4.flat hd⟩
section
variable {P:Program} {B:fX} {nt:Nat}
theorem bM.uC {f:FuncId} {res:List (Nat×Option (Bool×Nat))} {body:AC} {args:List D} {s:St} {R:D→St→Prop} (h0:Has P f nt res body) (hl:Nat.ble args.length nt=true)
 (h : ∀ (B:fX) (Q:Exit→Tm→St→Prop),B.s=s→TB res R=Q→ke P B nt body Q (mT 0 args) s):bM P f args s R:=by
 obtain⟨fn,hf,hc⟩:=h0
 refine bM.HZ (bM.QB (Q:=R) hf hc (Nat.le_of_ble_eq_true hl) fun B hB=>iI (h B _ hB rfl)) fun d s1 h=>⟨d,s1,Wk.refl _,gC.refl _,rfl,h⟩
theorem gM {res:List (Nat×Option (Bool×Nat))} {R:D→St→Prop} {tm:Tm} {s:St} {e:Exit} {Q:Exit→Tm→St→Prop} (hQ:TB res R=Q) (h : ∃ l,aS res tm s=some l∧R (aV l) s) (he:e = .ret∨e = .normal:=by first|exact .inl rfl|exact .inr rfl):Q e tm s:=by
 subst hQ
 rcases he with rfl|rfl<;>exact h
def upD (R:D→St→Prop) (d:D) (s:St):Prop:=∃ d' s',Wk d d'∧gC s.ah s'.ah∧s.aw=s'.aw∧R d' s'
theorem bM.up {f:FuncId} {args:List D} {s:St} {R:D→St→Prop} (h:bM P f args s (upD R)):bM P f args s R:=
 bM.HZ h fun d s1 ⟨d',s',h1,h2,h3,h4⟩=>⟨d',s',h1,h2,h3,h4⟩
def vr (tm:Tm):Tm→Prop
 | []=>True
 |(k,d)::r=>Wk (tm.get k) d∧vr tm r
theorem vr.get {tm:Tm} : ∀ {bx:Tm},vr tm bx→∀ t,Wk (tm.get t) (bx.get t)
 | [],_,t=>Wk.junk _
 |(k,d)::r,h,t=>by
  simp only[Tm.get]
  split
  ·rename_i hk;subst hk;exact h.1
  ·exact vr.get h.2 t
theorem abU (tm:Tm):vr tm [] = True:=nd rfl
theorem abV (tm:Tm) (k:Nat) (d:D) (r:Tm):vr tm ((k,d)::r)=(Wk (tm.get k) d∧vr tm r):=nd rfl
attribute [go_sem] abU abV
theorem Holds.pM {tm bx:Tm} {s:St} {act:Act} {w:World} (ht:vr tm bx) (h:Holds B nt tm s act w):Holds B nt bx s act w:=by
 obtain⟨M,e,r,hr,h1,h2⟩:=h
 exact⟨M,e,r,fun k=>ht.get k _ _ _ (hr k),h1,h2⟩
theorem bp.pM {a:AC} {Q:Exit→Tm→St→Prop} {tm bx:Tm} {s:St} (ht:vr tm bx) (h:bp P B nt a Q bx s):bp P B nt a Q tm s:=fun c hc act w hh=>h c hc act w (hh.pM ht)
theorem lH.pM {a r:AC} {Q:Exit→Tm→St→Prop} {tm bx:Tm} {s:St} (ht:vr tm bx) (h:lH P B nt a r Q bx s):lH P B nt a r Q tm s:=fun c rest hc hr act w hh=>h c rest hc hr act w (hh.pM ht)
theorem Sem.pM {a:AC} {Q:Exit→Tm→St→Prop} {tm bx:Tm} {s:St} (ht:vr tm bx) (h:Sem P B nt a Q bx s):Sem P B nt a Q tm s:=fun c hc act w hh=>h c hc act w (hh.pM ht)
end
theorem fY {s:St} {o:Nat} {r:List D} (h:s.ah[o]? = some r):o<s.ah.length:=(List.getElem?_eq_some_iff.1 h).1
theorem LP {s:St} {a b:Nat} {r r':List D} (h:s.ah[a]? = some r) (h':s.ah[b]? = some r') (hn:r≠r'):a≠b:=fun e=>by subst e;rw[h]at h';cases h';exact hn rfl
end Go.Abs
namespace Go.Abs
theorem aF.AN {P:Program} {f:Nat} {args:List D} {s0 s:St} {o off n m:Nat} {row:List D} (h:aF P f args s0 (.ptr o off) s) (ho:s.ah[o]? = some row) (hn:s0.ah.length≤n) (Am:n≤o) (hm:s0.aw.length≤m) :
 aF P f args s0 (.dz (D.gx n m row) off) (s.cut n m):=by
 intro M0 w0 fJ r0 ky ajR ha
 refine(h M0 w0 fJ r0 ky ajR ha).mono ?_
 rintro en w ⟨M,d,v0,s',rfl,⟨rfl,rfl⟩,e,r,hv⟩
 have xR:=hv.AZ
 have o4:v0 = .pointer (some ⟨M.mu o,off,none⟩):=hv.sg.1
 have FH:o<s'.ah.length:=(List.getElem?_eq_some_iff.1 ho).1
 obtain⟨vs,T,hh,dO,⟨gZ,_⟩,jv⟩:=r.obj o row ho
 replace hh:w.heap[M.mu o]? = some (.cells vs T (0,0)):=hh.cells xR
 let M':Map:= {M with G:=fun b q=>if b=M.mu o then vs[q]? else M.G b q}
 have hGo : ∀ q,M.G (M.mu o) q=none:=r.jL o FH
 have le:Le M s' M' s':=⟨fun b q v hq=>by
  show(if b=M.mu o then vs[q]? else M.G b q)=some v
  by_cases hb:b=M.mu o
  ·subst hb;rw[hGo]at hq;cases hq
  ·rw[if_neg hb];exact hq,Nat.le_refl _,fun _ _=> .refl _,Nat.le_refl _,fun t n' _ e=>⟨n',e,Nat.le_refl _,fun _=>rfl⟩⟩
 have hD : ∀ q,q<(s'.cut n m).ah.length→q<s'.ah.length∧q≠o:=fun q h=>by rw[nU]at h;omega
 have wC:w0.heap.size≤M.mu o:=e.tH o (.inl (by omega)) FH
 have ec:=e.cut hn hm
 have lec:Le M (s'.cut n m) M' (s'.cut n m):=⟨le.G,Nat.le_refl _,fun _ _=> .refl _,Nat.le_refl _,fun t n' _ e=>⟨n',e,Nat.le_refl _,fun _=>rfl⟩⟩
 have rc:=r.cut n m
 have pZ : ∀ b,b≠M.mu o→∀ q,M'.G b q=M.G b q:=fun b hb q=>if_neg hb
 refine⟨M',_,v0,_,rfl,⟨rfl,rfl⟩,⟨ec.le.trans lec,ec.kept,ec.tH,ec.qo,fun b q eK=>?_,ec.size,ec.os,ec.tape,ec.output⟩,⟨fun b q v hq=>?_,fun q ds hq=>?_,fun q hq xd=>?_,rc.inj,fun t n' Eh=>?_,rc.fh,rc.fU⟩, ?_⟩
 ·by_cases hb:b=M.mu o
  ·subst hb;exact .inl wC
  ·rw[pZ b hb]at eK;exact ec.sb b q eK
 ·have mM:(if b=M.mu o then vs[q]? else M.G b q)=some v:=hq
  by_cases hb:b=M.mu o
  ·rw [if_pos hb]at mM
   rw[hb,jj hh]
   exact⟨mM,gZ v (Array.mem_of_getElem? mM)⟩
  ·rw [if_neg hb]at mM
   exact r.comm b q v mM
 ·obtain⟨fD,T',h3,h4,h5,h6⟩:=rc.obj q ds hq
  exact⟨fD,T',h3,h4,h5,fun i d v e1 e2=>(h6 i d v e1 e2).mono lec⟩
 ·obtain⟨h3,h4⟩:=hD q hq
  show M'.G (M.mu q) xd=none
  rw[pZ _ (fun e=>h4 (r.inj q o h3 FH e))]
  exact r.jL q h3 xd
 ·rcases rc.tok t n' Eh with h3 | ⟨b,cap,z,fD,T',h3,h4,h5,h6,h7⟩
  ·exact .inl h3
  ·refine .inr ⟨b,cap,z,fD,T',h3,h4,h5,h6,fun xd Dn=> ?_,h7.2⟩
   rw[pZ _ (fun e=>r.fh t b cap z o (vk ⟨n',Eh⟩) h3 FH e.symm)]
   exact h7.1 xd Dn
 ·rw [o4]
  have:=RD.dz (M:=M') (s:=s'.cut n m) (D.gx n m row) off (M.mu o) 0 (fun i d e1=>?_) (fun i d u e1 eu=>?_)
  ·simpa using this
  ·rw [ng,List.getElem?_map,Option.map_eq_some_iff]at e1
   obtain⟨d0,e1,rfl⟩:=e1
   have hi:=(List.getElem?_eq_some_iff.1 e1).1
   refine⟨vs[i]'(by omega), ?_⟩
   show(if M.mu o=M.mu o then vs[0+i]? else _)=_
   rw[if_pos rfl,Nat.zero_add]
   exact Array.getElem?_eq_getElem _
  ·rw [ng,List.getElem?_map,Option.map_eq_some_iff]at e1
   obtain⟨d0,e1,rfl⟩:=e1
   have Er:(if M.mu o=M.mu o then vs[0+i]? else M.G (M.mu o) (0+i))=some u:=eu
   rw[if_pos rfl,Nat.zero_add]at Er
   exact((jv i d0 u e1 Er).fg n m).mono lec
theorem aF.goK {P:Program} {f:FuncId} {res:List (Nat×Option (Bool×Nat))} {body:AC} {args:List D} {s:St} {d:D} {s':St} {nt:Nat} (n m:Nat) (hn:s.ah.length≤n) (hm:s.aw.length≤m) (h0:Has P f nt res body) (hl:Nat.ble args.length nt=true)
 (h : ∀ (B:fX) (Q:Exit→Tm→St→Prop),B.s=s→pR n m res d s'=Q→ke P B nt body Q (mT 0 args) s):aF P f args s d s':=by
 obtain⟨fn,hf,hc⟩:=h0
 refine bM.HZ (bM.intro (Q:=fun d1 s1=>Wk d1 d∧gC s1.ah s'.ah∧s1.aw=s'.aw) hf hc (Nat.le_of_ble_eq_true hl) fun B hB=>(iI (h B _ hB rfl)).mono fun e tm s1 hr=>?_) fun d1 s1 ⟨h1,h2,h3⟩=>⟨d,s',h1,h2,h3,rfl,rfl⟩
 subst hB
 cases e with
 |normal=>obtain⟨l,h1,h2,h3,h4⟩:=hr;exact⟨l,h1,_,_,hn,hm,h2,h3,h4⟩
 |ret=>obtain⟨l,h1,h2,h3,h4⟩:=hr;exact⟨l,h1,_,_,hn,hm,h2,h3,h4⟩
 |exit id=>exact hr.elim
 |goto l=>exact hr.elim
 |panic ch=>exact hr.elim
 |outgrown=>exact hr.elim
section
variable (s:St) (o g off len k z size bytes:Nat) (kk:IntKind)
theorem afO:nQ s o g=match s.ah[o]? with|some (.int .i64 n::cells)=>if n=(g:Int)then some cells else none|_=>none:=nd rfl
theorem abX (agg:Bool):yM (.fw o g off) agg size s=match nQ s o g with|some cells=>(match part cells off agg size with|some d=>some (d,s)|none=>none)|none=>none:=nd rfl
theorem Y2 (r:List D):AV (.fw o g off) (some r) size s=match nQ s o g with
 |some cells=>if r.length=size∧off+size≤cells.length then some (.tuple [],⟨s.ah.set o (.int .i64 g::iy cells off r),s.aw⟩)else none
 |none=>none:=nd rfl
theorem afP:MA (.fw o g off)=some (.fw o g off):=nd rfl
theorem Y3:D3 (.fw o g k) off=some (.fw o g (k+off)):=nd rfl
theorem Y4:xP (.eA z o g len) (.int kk (k:Int)) size=if k<len then(if z=size then some (.fw o g (k*z))else none)else none:=by
 simp only[xP]
 by_cases h1:k<len<;>by_cases h2:z=size<;>simp[h1,h2]
theorem afQ:Fq (.eA z o g len)=some (.int .i64 len):=nd rfl
theorem abY:Fq (.ek z)=some (.int .i64 0):=nd rfl
theorem Jl {z bytes:Nat} (t:Tag) (r:List D) (s:St) (hm:bytes+1≤bC):AW z bytes (.ek z) (.slice t z [r]) s=some (.eA z s.ah.length 0 1,⟨s.ah++ [.int .i64 ((0:Nat):Int)::r],s.aw⟩):=by
 simp[AW,hm]
theorem afR (n m:Nat):D.fg n m (.eA z o g len)=if o<n then .eA z o g len else .junk:=nd (by simp only[D.fg])
theorem afS (n m:Nat):D.fg n m (.fw o g off)=if o<n then .fw o g off else .junk:=nd (by simp only[D.fg])
theorem afT (n m:Nat):D.fg n m (.ek z) = .ek z:=nd (by simp only[D.fg])
theorem abZ:(D.eA z o g len).row=some [.eA z o g len]:=nd rfl
theorem ab0:(D.fw o g off).row=some [.fw o g off]:=nd rfl
theorem ab1:(D.ek z).row=some [.ek z]:=nd rfl
end
attribute [go_sem] afO abX Y2 afP Y3 Y4 afQ abY afR afS afT abZ ab0 ab1
theorem Wk.ek (z z':Nat):Wk (.slice .full z []) (.ek z'):=fun M s v h=>by
 cases h with
 |iA _ _ cap hc ht=>subst hc;exact .ek z' none
 |slice _ _ _ b k cap hl hs h1 h2 ht=>
  have:cap=0:=ht
  subst this
  exact .ek z' _
instance (z z':Nat):Ok (Wk (.slice .full z []) (.ek z')):=⟨Wk.ek z z'⟩
instance {a a' b b':List D} [Ok (jr a a')] [Ok (jr b b')] : Ok (jr (a++b) (a'++b')):=⟨jr.append Ok.out Ok.out⟩
theorem afU (n m:Nat) (a b:List D):D.gx n m (a++b)=D.gx n m a++D.gx n m b:=nd (by simp only[ng,List.map_append])
attribute [go_sem] afU
def Bk (os:List Nat) (m:Nat) (ah:List (List D)):List Nat→List (List D)→Prop
 | [],[]=>True
 |o::l,ds::r=>ah[o]? = some (D.e7 os (List.range m) ds)∧D.bK os.length m ds=true∧Bk os m ah l r
 |_,_=>False
theorem Bk.get {os:List Nat} {m:Nat} {ah:List (List D)} : ∀ {l:List Nat} {r:List (List D)},Bk os m ah l r→r.length=l.length∧∀ (i o:Nat) (ds:List D),l[i]? = some o→r[i]? = some ds→ah[o]? = some (D.e7 os (List.range m) ds)∧D.bK os.length m ds=true
 | [],[],_=>⟨rfl,fun i o ds h=>by simp at h⟩
 |o::l,ds::r,⟨h1,h2,h3⟩=>by
  obtain⟨g1,g2⟩:=h3.get
  refine⟨by simp[g1],fun i o' nJ e1 e2=>?_⟩
  cases i with
  |zero=>simp at e1 e2;subst e1 e2;exact⟨h1,h2⟩
  |succ i=>exact g2 i o' nJ (by simpa using e1) (by simpa using e2)
 | [],_::_,h=>h.elim
 |_::_,[],h=>h.elim
section
variable {P:Program} {B:fX} {nt:Nat} {a:AC} {Q:Exit→Tm→St→Prop} {tm:Tm} {s:St}
theorem bp.ajS (hB:B.s = ⟨[],[]⟩) (os:List Nat) (gu:List (List D)) (bx:Tm) (uy:os.Nodup) (iZ : ∀ o∈os,o<s.ah.length) (xh:Bk os s.aw.length s.ah os gu) (Rt:C1 os (List.range s.aw.length) tm bx)
 (h:bp P B nt a Q bx ⟨gu,s.aw⟩):bp P B nt a Q tm s:=
 bp.sel os gu bx uy iZ (by rw[hB];exact Nat.zero_le _) (fun i h=>by rw[hB]at h;exact absurd h (Nat.not_lt_zero _)) (fun i o _ _=>by rw[hB];exact Nat.zero_le _) xh.get.1 xh.get.2 Rt h
end
section
variable (os ts:List Nat) (n m:Nat)
theorem afV (o off:Nat):D.cU os ts (.ptr o off)=match os[o]? with|some o'=> .ptr o' off|none=> .junk:=nd (by simp only[D.cU]<;>rfl)
theorem afW (z o g len:Nat):D.cU os ts (.eA z o g len)=match os[o]? with|some o'=> .eA z o' g len|none=> .junk:=nd (by simp only[D.cU]<;>rfl)
theorem Y5 (g:Tag) (z:Nat) (rows:List (List D)):D.cU os ts (.slice g z rows) = .slice (g.cU ts) z (D.nV os ts rows):=nd (by simp only[D.cU])
theorem afX (l:List D):D.cU os ts (.agg l) = .agg (D.e7 os ts l):=nd (by simp only[D.cU])
theorem ab2:D.cU os ts .junk = .junk:=nd (by simp only[D.cU])
theorem afY (k:IntKind) (x:Int):D.cU os ts (.int k x) = .int k x:=nd (by simp only[D.cU])
theorem ab3 (b:Bool):D.cU os ts (.bool b) = .bool b:=nd (by simp only[D.cU])
theorem afZ (l:List UInt8):D.cU os ts (.str l) = .str l:=nd (by simp only[D.cU])
theorem ab4:D.cU os ts .dS = .dS:=nd (by simp only[D.cU])
theorem ab5 (z:Nat):D.cU os ts (.ek z) = .ek z:=nd (by simp only[D.cU])
theorem Y6:D.e7 os ts [] = []:=nd (by simp only[D.e7])
theorem Y7 (d:D) (l:List D):D.e7 os ts (d::l)=D.cU os ts d::D.e7 os ts l:=nd (by simp only[D.e7])
theorem UN:Tag.cU ts .shared = .shared:=nd rfl
theorem ab6:Tag.cU ts .full = .full:=nd rfl
theorem Y8 (o off:Nat):D.ok n m (.ptr o off)=decide (o<n):=nd (by simp only[D.ok])
theorem Y9 (z o g len:Nat):D.ok n m (.eA z o g len)=decide (o<n):=nd (by simp only[D.ok])
theorem Ru (g:Tag) (z:Nat) (rows:List (List D)):D.ok n m (.slice g z rows)=(g.ok m && D.gS n m rows):=nd (by simp only[D.ok])
theorem Za (l:List D):D.ok n m (.agg l)=D.bK n m l:=nd (by simp only[D.ok])
theorem UO:D.ok n m .junk=true:=nd (by simp only[D.ok])
theorem Zb (k:IntKind) (x:Int):D.ok n m (.int k x)=true:=nd (by simp only[D.ok])
theorem UP (b:Bool):D.ok n m (.bool b)=true:=nd (by simp only[D.ok])
theorem Zc (l:List UInt8):D.ok n m (.str l)=true:=nd (by simp only[D.ok])
theorem UQ:D.ok n m .dS=true:=nd (by simp only[D.ok])
theorem UR (z:Nat):D.ok n m (.ek z)=true:=nd (by simp only[D.ok])
theorem ab7:D.bK n m [] = true:=nd (by simp only[D.bK])
theorem ab8 (d:D) (l:List D):D.bK n m (d::l)=(D.ok n m d && D.bK n m l):=nd (by simp only[D.bK])
theorem OP:Tag.ok m .shared=true:=nd rfl
theorem US:Tag.ok m .full=true:=nd rfl
theorem Zd (os:List Nat) (m:Nat) (ah:List (List D)):Bk os m ah [] [] = True:=nd rfl
theorem Ze (os:List Nat) (m:Nat) (ah:List (List D)) (o:Nat) (l:List Nat) (ds:List D) (r:List (List D)):Bk os m ah (o::l) (ds::r)=(ah[o]? = some (D.e7 os (List.range m) ds)∧D.bK os.length m ds=true∧Bk os m ah l r):=nd rfl
theorem ab9 (tm:Tm):C1 os ts tm [] = True:=nd rfl
theorem aca (tm:Tm) (k:Nat) (d:D) (r:Tm):C1 os ts tm ((k,d)::r)=(tm.get k=d.cU os ts∧d.ok os.length ts.length=true∧C1 os ts tm r):=nd rfl
theorem Jm (rows:List (List D)) (h:D.gS 0 0 rows=true):D.nV os ts rows=rows:=jm os ts rows h
theorem Es (row:List D) (h:D.bK 0 0 row=true):D.e7 os ts row=row:=fB os ts row h
theorem OQ (rows:List (List D)) (h:D.gS 0 0 rows=true):D.gS n m rows=true:=mE (Nat.zero_le n) (Nat.zero_le m) rows h
theorem H3 (row:List D) (h:D.bK 0 0 row=true):D.bK n m row=true:=iC (Nat.zero_le n) (Nat.zero_le m) row h
theorem LQ (p:Pg):D.e7 os ts (cz p)=cz p:=Es _ _ _ (jw p)
theorem Zf (p:Sm):D.e7 os ts (bh p)=bh p:=Es _ _ _ (q8 p)
theorem UT (l:List Pc):D.nV os ts (l.map cu)=l.map cu:=Jm _ _ _ (wA l)
theorem UU (l:List Sm):D.nV os ts (l.map bh)=l.map bh:=Jm _ _ _ (pD l)
theorem Rv (l:List aG):D.nV os ts (l.map encStr)=l.map encStr:=Jm _ _ _ (fa l)
theorem Zg (p:Pc):D.e7 os ts (cu p)=cu p:=Es _ _ _ (xm p)
theorem acb (p:Pc):D.bK n m (cu p)=true:=H3 _ _ _ (xm p)
theorem Rw (p:Pg):D.bK n m (cz p)=true:=H3 _ _ _ (jw p)
theorem acd (p:Sm):D.bK n m (bh p)=true:=H3 _ _ _ (q8 p)
theorem Zh (l:List Pc):D.gS n m (l.map cu)=true:=OQ _ _ _ (wA l)
theorem Zi (l:List Sm):D.gS n m (l.map bh)=true:=OQ _ _ _ (pD l)
theorem UW (l:List aG):D.gS n m (l.map encStr)=true:=OQ _ _ _ (fa l)
theorem OR : ∀ l:List Pc,D.bK 0 0 ((l.map cu).flatten)=true:=fun l=>by
 have h:=wA l
 rw[Eg,List.all_eq_true]at h
 rw[x9,List.all_eq_true]
 intro d hd
 obtain⟨r,hr,hd⟩:=List.mem_flatten.1 hd
 have:=h r hr
 rw[x9,List.all_eq_true]at this
 exact this d hd
theorem UX (l:List Pc):D.e7 os ts ((l.map cu).flatten)=(l.map cu).flatten:=Es _ _ _ (OR l)
theorem Zj (l:List Pc):D.bK n m ((l.map cu).flatten)=true:=H3 _ _ _ (OR l)
theorem Zk (l:List Pc):D.gx n m ((l.map cu).flatten)=(l.map cu).flatten:=ie _ _ _ (OR l)
end
attribute [go_sem] Zg acb afV afW Y5 afX ab2 afY ab3 afZ ab4 ab5 Y6 Y7 UN ab6 Y8 Y9 Ru Za UO Zb UP Zc UQ UR ab7 ab8 OP US Zd Ze ab9 aca LQ Zf UT UU Rv Rw acd Zh Zi UW UX Zj Zk
mutual
theorem Jn (o g:Nat) (rows:List (List D)) : ∀ d,D.ok 0 0 d=true→D.fK o g rows d=d
 | .junk,_=>by simp[D.fK]
 | .int k n,_=>by simp[D.fK]
 | .bool b,_=>by simp[D.fK]
 | .str l,_=>by simp[D.fK]
 | .dS,_=>by simp[D.fK]
 | .val v,_=>by simp[D.fK]
 | .ek z,_=>by simp[D.fK]
 | .fv T o,h=>by simp[D.ok]at h
 | .fS o,h=>by simp[D.ok]at h
 | .eA z o g len,h=>by simp[D.ok]at h
 | .fw o g off,h=>by simp[D.ok]at h
 | .ptr o f,h=>by simp[D.ok]at h
 | .gi f cs,h=>by
  simp only[D.ok]at h
  simp only[D.fK,sm o g rows cs h]
 | .dz r f,h=>by
  simp only[D.ok]at h
  simp only[D.fK,sm o g rows r h]
 | .slice t z rs,h=>by
  simp only[D.ok,Bool.and_eq_true]at h
  simp only[D.fK,yf o g rows rs h.2]
 | .agg cs,h=>by
  simp only[D.ok]at h
  simp only[D.fK,sm o g rows cs h]
 | .tuple cs,h=>by
  simp only[D.ok]at h
  simp only[D.fK,sm o g rows cs h]
theorem sm (o g:Nat) (rows:List (List D)) : ∀ l,D.bK 0 0 l=true→D.jx o g rows l=l
 | [],_=>by simp[D.jx]
 |d::r,h=>by
  simp only[D.bK,Bool.and_eq_true]at h
  simp only[D.jx,Jn o g rows d h.1,sm o g rows r h.2]
theorem yf (o g:Nat) (rows:List (List D)) : ∀ l,D.gS 0 0 l=true→D.q9 o g rows l=l
 | [],_=>by simp[D.q9]
 |d::r,h=>by
  simp only[D.gS,Bool.and_eq_true]at h
  simp only[D.q9,sm o g rows d h.1,yf o g rows r h.2]
end
section
variable (o g:Nat) (rows:List (List D)) (n m:Nat)
theorem af0 (q off:Nat):D.fK o g rows (.ptr q off) = .ptr q off:=nd (by simp only[D.fK])
theorem ace (q h off:Nat):D.fK o g rows (.fw q h off) = .fw q h off:=nd (by simp only[D.fK])
theorem af1 (z o' g' len:Nat):D.fK o g rows (.eA z o' g' len)=if o'=o∧g'=g∧len=rows.length then .slice .shared z rows else .eA z o' g' len:=nd (by simp only[D.fK])
theorem Zl (t:Tag) (z:Nat) (rs:List (List D)):D.fK o g rows (.slice t z rs) = .slice t z (D.q9 o g rows rs):=nd (by simp only[D.fK])
theorem af2 (l:List D):D.fK o g rows (.agg l) = .agg (D.jx o g rows l):=nd (by simp only[D.fK])
theorem acf:D.fK o g rows .junk = .junk:=nd (by simp only[D.fK])
theorem af3 (k:IntKind) (x:Int):D.fK o g rows (.int k x) = .int k x:=nd (by simp only[D.fK])
theorem acg (b:Bool):D.fK o g rows (.bool b) = .bool b:=nd (by simp only[D.fK])
theorem af4 (l:List UInt8):D.fK o g rows (.str l) = .str l:=nd (by simp only[D.fK])
theorem Zm:D.jx o g rows [] = []:=nd (by simp only[D.jx])
theorem Zn (d:D) (l:List D):D.jx o g rows (d::l)=D.fK o g rows d::D.jx o g rows l:=nd (by simp only[D.jx])
theorem ajT (p:Pg):D.jx o g rows (cz p)=cz p:=sm _ _ _ _ (jw p)
theorem af5 (l:List Pc):D.q9 o g rows (l.map cu)=l.map cu:=yf _ _ _ _ (wA l)
theorem af6 (l:List Sm):D.q9 o g rows (l.map bh)=l.map bh:=yf _ _ _ _ (pD l)
theorem ach (l:List aG):D.q9 o g rows (l.map encStr)=l.map encStr:=yf _ _ _ _ (fa l)
theorem af7 (ds:List D):fzR o g rows n m ds=D.gx n m (D.jx o g rows ds):=nd rfl
theorem aci (tm:Tm):W1 o g rows m tm [] = True:=nd rfl
theorem acj (tm:Tm) (k:Nat) (d:D) (r:Tm):W1 o g rows m tm ((k,d)::r)=(Wk (((tm.get k).fK o g rows).fg o m) d∧W1 o g rows m tm r):=nd rfl
end
attribute [go_sem] af0 ace af1 Zl af2 acf af3 acg af4 Zm Zn ajT af5 af6 ach af7 aci acj
end Go.Abs
namespace Go.Abs
mutual
def Ex.size:Ex→Nat
 |⟨_,_,_,kids⟩=>1+Ex.a7 kids
def Ex.a7:List Ex→Nat
 | []=>0
 |x::l=>1+x.size+Ex.a7 l
end
mutual
def Ex.depth:Ex→Nat
 |⟨_,_,_,kids⟩=>Ex.p8 kids+1
def Ex.p8:List Ex→Nat
 | []=>0
 |x::l=>max x.depth (Ex.p8 l)
end
def ack (x:Ex):Option Int:=if x.size<4611686018427387904 then some (x.depth:Int)else none
theorem Ex.dk {x:Ex} : ∀ {l:List Ex},x∈l→x.size<Ex.a7 l
 |y::l,h=>by
  simp only[Ex.a7]
  rcases List.mem_cons.1 h with rfl|h
  ·omega
  ·have:=Ex.dk h;omega
theorem Ex.eH : ∀ (l:List Ex),l.length≤Ex.a7 l
 | []=>Nat.le_refl _
 |x::l=>by simp only[Ex.a7,List.length_cons];have:=Ex.eH l;omega
def OS (t:p7):Int×Int:=
 if t.kind != 4 then(0,0)
 else if t.text == [124,124]then(17,1)
 else if t.text == [38,38]then(16,2)
 else if t.text == [61,61]then(14,3)
 else if t.text == [33,61]then(15,3)
 else if t.text == [60]then(10,4)
 else if t.text == [60,61]then(11,4)
 else if t.text == [62]then(12,4)
 else if t.text == [62,61]then(13,4)
 else if t.text == [43]then(8,5)
 else if t.text == [45]then(9,5)
 else if t.text == [42]then(5,6)
 else if t.text == [47]then(6,6)
 else if t.text == [37]then(7,6)
 else(0,0)
structure Rd where
 l:List p7
 i:Nat
 code:Int
 Jo:Int
 n:Nat
abbrev Rd.good (r:Rd):Bool:=r.code==0
def Rd.vt (r:Rd):Option p7:=(abQ r.l r.i).bind fun t=>if decide (0≤t.kind) && decide (t.kind≤4)then some t else none
def Rd.bad (c:Int) (r:Rd):Option Rd:=if r.good then r.vt.bind fun t=>some {r with code:=c,Jo:=t.pos}else some r
def Rd.is (text:aG) (r:Rd):Option Bool:=r.vt.bind fun t=>some ((t.kind==3 ||t.kind==4) && t.text==text)
def Rd.take (text:aG) (r:Rd):Option (Bool×Rd):=
 if !r.good then some (false,r)else(r.is text).bind fun b=>if !b then some (false,r)else some (true,{r with i:=r.i+1})
def Rd.want (text:aG) (r:Rd):Option Rd:=(r.take text).bind fun p=>if !p.1 then p.2.bad 3 else some p.2
def Rd.name (room:Bool) (r:Rd):Option (aG×Rd):=
 r.vt.bind fun t=>if !r.good ||t.kind != 1 then(r.bad 3).bind fun r=>some ([],r)else if !room then(r.bad 4).bind fun r=>some ([],r)else some (t.text,{r with i:=r.i+1})
def Rd.on (r:Rd):Rd:= {r with i:=r.i+1}
mutual
def Rd.one:Nat→Rd→Option (Ex×Rd)
 | 0,_=>none
 | n+1,r=>r.vt.bind fun t=>
  if !r.good then some (q7,r)
  else if t.kind==2 then some (⟨1,t.n,[],[]⟩,{r with i:=r.i+1})
  else if t.kind==1 then some (⟨2,0,t.text,[]⟩,{r with i:=r.i+1})
  else(r.take [40]).bind fun p=>
   if p.1 then(Rd.two n 1 p.2).bind fun x=>(x.2.want [41]).bind fun r=>some (x.1,r)
   else(p.2.take [45]).bind fun p=>
    if p.1 then(Rd.one n p.2).bind fun x=>some (⟨3,0,[],[x.1]⟩,x.2)
    else(p.2.take [33]).bind fun p=>
     if p.1 then(Rd.one n p.2).bind fun x=>some (⟨4,0,[],[x.1]⟩,x.2)
     else(p.2.bad 3).bind fun r=>some (q7,r)
def Rd.two:Nat→Int→Rd→Option (Ex×Rd)
 | 0,_,_=>none
 |n+1,least,r=>(Rd.one n r).bind fun x=>Rd.acm n least x.1 x.2
def Rd.acm:Nat→Int→Ex→Rd→Option (Ex×Rd)
 | 0,_,_,_=>none
 | n+1,least,x,r=>
  if r.good then r.vt.bind fun t=>
   if decide ((OS t).2<least) ||(OS t).1==0 then some (x,r)
   else(Rd.two n ((OS t).2+1) {r with i:=r.i+1}).bind fun y=>Rd.acm n least ⟨(OS t).1,0,[],[x,y.1]⟩ y.2
  else some (x,r)
end
def Rd.whole (n:Nat) (r:Rd):Option (Ex×Rd):=
 r.vt.bind fun t=>(Rd.two n 1 r).bind fun x=>
  if x.2.good then(ack x.1).bind fun d=>if decide (d > 20)then some (x.1,{x.2 with code:=4,Jo:=t.pos})else some (x.1,x.2)
  else some (x.1,x.2)
def Rd.names:Nat→List aG→Int→Rd→Option (List aG×Rd)
 | 0,_,_,_=>none
 | n+1,l,acn,r=>
  if r.good then(r.name (decide ((l.length:Int)<acn))).bind fun p=>(push 17 l p.1).bind fun l=>(p.2.take [44]).bind fun q=>
   if !q.1 then(q.2.want [59]).bind fun r=>some (l,r)else Rd.names n l acn q.2
  else some (l,r)
def Rd.ahead (sign:aG) (r:Rd):Option Bool:=
 if r.good then r.vt.bind fun t=>if t.kind==1 then(abQ r.l (r.i+1)).bind fun u=>some (u.kind==4 && u.text==sign)else some false
 else some false
def Rd.labels:Nat→List aG→Rd→Option (List aG×Rd)
 | 0,_,_=>none
 |n+1,l,r=>(r.ahead [58]).bind fun b=>if b then r.vt.bind fun t=>(push 17 l t.text).bind fun l=>Rd.labels n l {r with i:=r.i+2}else some (l,r)
def Rd.aco (r:Rd):Option Bool:=
 r.vt.bind fun t=>some (if t.kind==1 then true else if t.kind != 3 then false
  else t.text == [105,102] ||t.text == [119,104,105,108,101] ||t.text == [98,114,101,97,107] ||t.text == [99,111,110,116,105,110,117,101] ||t.text == [114,101,116,117,114,110] ||t.text == [103,111,116,111] ||t.text == [114,101,97,100] ||t.text == [112,114,105,110,116])
def Rd.OT (m:Nat):Nat→List Ar→Rd→Option (List Ar×Rd)
 | 0,_,_=>none
 | n+1,l,r=>
  if r.good then(r.take [114,101,102]).bind fun p=>
   if p.1 then(p.2.name true).bind fun x=>(push 81 l ⟨true,x.1,q7⟩).bind fun l=>(x.2.take [44]).bind fun c=>if !c.1 then some (l,c.2)else Rd.OT m n l c.2
   else(Rd.whole m p.2).bind fun x=>(push 81 l ⟨false,[],x.1⟩).bind fun l=>(x.2.take [44]).bind fun c=>if !c.1 then some (l,c.2)else Rd.OT m n l c.2
  else some (l,r)
def Rd.other (sign:aG) (r:Rd):Option Bool:=if r.good then(r.is sign).bind fun b=>some !b else some false
def Rd.call (m:Nat) (name proc:aG) (r:Rd):Option (Sm×Rd):=
 (r.want [40]).bind fun r=>(r.other [41]).bind fun b=>
  if b then(Rd.OT m m [] r).bind fun q=>(q.2.want [41]).bind fun r=>(r.want [59]).bind fun r=>some (⟨0,4,[],name,proc,q7,false,q.1,[],[]⟩,r)
  else(r.want [41]).bind fun r=>(r.want [59]).bind fun r=>some (⟨0,4,[],name,proc,q7,false,[],[],[]⟩,r)
def Rd.named (m:Nat) (r:Rd):Option (Sm×Rd):=
 (r.name true).bind fun x=>(x.2.is [40]).bind fun b=>
  if b then Rd.call m [] x.1 x.2
  else(x.2.want [61]).bind fun r=>(r.ahead [40]).bind fun b=>
   if b then(r.name true).bind fun y=>Rd.call m x.1 y.1 y.2
   else(Rd.whole m r).bind fun y=>(y.2.want [59]).bind fun r=>some (⟨0,1,[],x.1,[],y.1,false,[],[],[]⟩,r)
def Rd.plain (m:Nat) (word:aG) (r:Rd):Option (Sm×Rd):=
 if word == [98,114,101,97,107]then some (⟨0,7,[],[],[],q7,false,[],[],[]⟩,r)
 else if word == [99,111,110,116,105,110,117,101]then some (⟨0,8,[],[],[],q7,false,[],[],[]⟩,r)
 else if word == [114,101,116,117,114,110]then(r.is [59]).bind fun b=>
  if !b then(Rd.whole m r).bind fun x=>some (⟨0,9,[],[],[],x.1,true,[],[],[]⟩,x.2)else some (⟨0,9,[],[],[],q7,false,[],[],[]⟩,r)
 else if word == [103,111,116,111]then(r.name true).bind fun x=>some (⟨0,10,[],x.1,[],q7,false,[],[],[]⟩,x.2)
 else if word == [114,101,97,100]then(r.name true).bind fun x=>some (⟨0,2,[],x.1,[],q7,false,[],[],[]⟩,x.2)
 else if word == [112,114,105,110,116]then(Rd.whole m r).bind fun x=>some (⟨0,3,[],[],[],x.1,false,[],[],[]⟩,x.2)
 else some (Jh,r)
def Rd.head (m:Nat) (r:Rd):Option (Ex×Rd):=(r.want [40]).bind fun r=>(Rd.whole m r).bind fun x=>(x.2.want [41]).bind fun r=>some (x.1,r)
mutual
def Rd.rows (m:Nat):Nat→Int→Bool→Rd→Option ((List Sm×List aG)×Rd)
 | 0,_,_,_=>none
 |n+1,nest,body,r=>Rd.W2 m n nest body [] r
def Rd.W2 (m:Nat):Nat→Int→Bool→List Sm→Rd→Option ((List Sm×List aG)×Rd)
 | 0,_,_,_,_=>none
 | n+1,nest,body,out,r=>
  if r.good then(Rd.labels m [] r).bind fun l=>(l.2.is [125]).bind fun b=>
   if b && (body ||(l.1.length:Int)==0)then some ((out,l.1),{l.2 with i:=l.2.i+1})
   else(Rd.stmt m n nest l.2).bind fun s=>(push 209 out {s.1 with labels:=l.1}).bind fun out=>Rd.W2 m n nest body out s.2
  else some (([],[]),r)
def Rd.stmt (m:Nat):Nat→Int→Rd→Option (Sm×Rd)
 | 0,_,_=>none
 | n+1,nest,r=>r.aco.bind fun b=>
  if !b then(r.bad 3).bind fun r=>some (Jh,r)
  else(inc r.n).bind fun k=>
   if decide ((k:Int) > 200) ||decide (nest > 12)then(({r with n:=k} : Rd).bad 4).bind fun r=>some (Jh,r)
   else({r with n:=k} : Rd).vt.bind fun t=>
    if t.kind==1 then Rd.named m {r with n:=k}
    else if t.text == [105,102]then Rd.choice m n nest {r with n:=k,i:=r.i+1}
    else if t.text == [119,104,105,108,101]then(Rd.head m {r with n:=k,i:=r.i+1}).bind fun x=>(Rd.block m n nest x.2).bind fun b=>some (⟨0,6,[],[],[],x.1,false,[],b.1,[]⟩,b.2)
    else(Rd.plain m t.text {r with n:=k,i:=r.i+1}).bind fun s=>(s.2.want [59]).bind fun r=>some (s.1,r)
def Rd.block (m:Nat):Nat→Int→Rd→Option (List Sm×Rd)
 | 0,_,_=>none
 |n+1,nest,r=>(r.want [123]).bind fun r=>(ajP nest).bind fun k=>(Rd.rows m n k false r).bind fun p=>some (p.1.1,p.2)
def Rd.choice (m:Nat):Nat→Int→Rd→Option (Sm×Rd)
 | 0,_,_=>none
 |n+1,nest,r=>(Rd.head m r).bind fun x=>(Rd.block m n nest x.2).bind fun t=>(t.2.take [101,108,115,101]).bind fun q=>
  if q.1 then(Rd.block m n nest q.2).bind fun e=>some (⟨0,5,[],[],[],x.1,false,[],t.1,e.1⟩,e.2)
  else some (⟨0,5,[],[],[],x.1,false,[],t.1,[]⟩,q.2)
end
def Rd.params:Nat→List Pm→Rd→Option (List Pm×Rd)
 | 0,_,_=>none
 | n+1,l,r=>
  if r.good then(r.take [114,101,102]).bind fun q=>(q.2.name (decide ((l.length:Int)<8))).bind fun x=>(push 25 l ⟨x.1,q.1⟩).bind fun l=>(x.2.take [44]).bind fun c=>
   if !c.1 then some (l,c.2)else Rd.params n l c.2
  else some (l,r)
def Rd.vars (m:Nat):Nat→List aG→Rd→Option (List aG×Rd)
 | 0,_,_=>none
 |n+1,l,r=>(r.take [118,97,114]).bind fun q=>if q.1 then(Rd.names m l 16 q.2).bind fun x=>Rd.vars m n x.1 x.2 else some (l,q.2)
def Rd.W3 (m:Nat) (name:aG) (ps:List Pm) (r:Rd):Option (Pc×Rd):=
 (Rd.vars m m [] r).bind fun v=>(Rd.rows m m 1 true v.2).bind fun b=>some (⟨name,ps,v.1,b.1.1,b.1.2⟩,b.2)
def Rd.proc (m:Nat) (r:Rd):Option (Pc×Rd):=
 (r.name true).bind fun x=>(x.2.want [40]).bind fun r=>(r.other [41]).bind fun b=>
  if b then(Rd.params m [] r).bind fun q=>(q.2.want [41]).bind fun r=>(r.want [123]).bind fun r=>Rd.W3 m x.1 q.1 r
  else(r.want [41]).bind fun r=>(r.want [123]).bind fun r=>Rd.W3 m x.1 [] r
def Rd.globals (m:Nat):Nat→List aG→Rd→Option (List aG×Rd)
 | 0,_,_=>none
 |n+1,l,r=>(r.take [103,108,111,98,97,108]).bind fun q=>if q.1 then(Rd.names m l 16 q.2).bind fun x=>Rd.globals m n x.1 x.2 else some (l,q.2)
def Rd.acp (r:Rd):Option Bool:=if r.good then r.is [112,114,111,99]else some false
def Rd.Rx (r:Rd):Option Bool:=if r.good then r.vt.bind fun t=>some (t.kind != 0)else some false
def Rd.procs (m:Nat):Nat→List Pc→Rd→Option (List Pc×Rd)
 | 0,_,_=>none
 | n+1,l,r=>r.acp.bind fun b=>
  if b then
   if(l.length:Int)==16 then(r.bad 4).bind fun r=>some (l,r)
   else(Rd.proc m {r with i:=r.i+1}).bind fun x=>(push 113 l x.1).bind fun l=>Rd.procs m n l x.2
  else r.Rx.bind fun b=>if b then(r.bad 3).bind fun r=>some (l,r)else some (l,r)
def Rd.program (m:Nat) (r:Rd):Option (Pg×Rd):=(Rd.globals m m [] r).bind fun g=>(Rd.procs m m [] g.2).bind fun q=>some (⟨g.1,q.1⟩,q.2)
mutual
def Ex.beq:Ex→Ex→Bool
 |⟨op,n,name,kids⟩,⟨op',n',OU,W4⟩=>if op != op' ||n != n' || !(name==OU) ||(kids.length:Int) != (W4.length:Int)then false else Ex.pS kids W4
def Ex.pS:List Ex→List Ex→Bool
 | [],_=>true
 |_::_,[]=>true
 |x::l,y::l'=>if !Ex.beq x y then false else Ex.pS l l'
end
def Ar.a7:List Ar→Nat
 | []=>0
 |a::l=>1+a.x.size+Ar.a7 l
mutual
def Sm.size:Sm→Nat
 |⟨_,_,labels,_,_,x,_,args,a8,aR⟩=>1+labels.length+x.size+Ar.a7 args+Sm.a7 a8+Sm.a7 aR
def Sm.a7:List Sm→Nat
 | []=>0
 |s::l=>1+s.size+Sm.a7 l
end
def Pc.size (f:Pc):Nat:=1+f.params.length+f.vars.length+f.fin.length+Sm.a7 f.body
def Pc.a7:List Pc→Nat
 | []=>0
 |f::l=>1+f.size+Pc.a7 l
def Pg.size (p:Pg):Nat:=1+p.globals.length+Pc.a7 p.procs
mutual
def Sm.num (b:Bool) (n:Nat):Sm→Sm×Nat
 |⟨id,kind,labels,name,proc,x,has,args,a8,aR⟩=>
  (⟨if b then((n+1:Nat):Int)else id,kind,labels,name,proc,x,has,args,(Sm.tT b (n+1) a8).1,(Sm.tT b (Sm.tT b (n+1) a8).2 aR).1⟩,(Sm.tT b (Sm.tT b (n+1) a8).2 aR).2)
def Sm.tT (b:Bool) (n:Nat):List Sm→List Sm×Nat
 | []=>([],n)
 |s::l=>((Sm.num b n s).1::(Sm.tT b (Sm.num b n s).2 l).1,(Sm.tT b (Sm.num b n s).2 l).2)
end
def Pc.tT (n:Nat):List Pc→List Pc
 | []=> []
 |f::l=> {f with body:=(Sm.tT true n f.body).1}::Pc.tT (Sm.tT true n f.body).2 l
def Pg.number (p:Pg):Pg:= {p with procs:=Pc.tT 0 p.procs}
def Pg.Zo (p:Pg):Option Pg:=if p.size<1073741824 then some p.number else none
theorem Sm.eH : ∀ (l:List Sm),l.length≤Sm.a7 l
 | []=>Nat.le_refl _
 |x::l=>by simp only[Sm.a7,List.length_cons];have:=Sm.eH l;omega
theorem Ar.eH : ∀ (l:List Ar),l.length≤Ar.a7 l
 | []=>Nat.le_refl _
 |x::l=>by simp only[Ar.a7,List.length_cons];have:=Ar.eH l;omega
theorem Pc.eH : ∀ (l:List Pc),l.length≤Pc.a7 l
 | []=>Nat.le_refl _
 |x::l=>by simp only[Pc.a7,List.length_cons];have:=Pc.eH l;omega
theorem Ar.dk {x:Ar} : ∀ {l:List Ar},x∈l→x.x.size<Ar.a7 l
 |y::l,h=>by
  simp only[Ar.a7]
  rcases List.mem_cons.1 h with rfl|h
  ·omega
  ·have:=Ar.dk h;omega
theorem Sm.dk {x:Sm} : ∀ {l:List Sm},x∈l→x.size<Sm.a7 l
 |y::l,h=>by
  simp only[Sm.a7]
  rcases List.mem_cons.1 h with rfl|h
  ·omega
  ·have:=Sm.dk h;omega
theorem Pc.dk {x:Pc} : ∀ {l:List Pc},x∈l→x.size<Pc.a7 l
 |y::l,h=>by
  simp only[Pc.a7]
  rcases List.mem_cons.1 h with rfl|h
  ·omega
  ·have:=Pc.dk h;omega
mutual
def Sm.jy:Sm→Nat
 |⟨_,_,_,_,_,_,_,_,a8,aR⟩=>1+Sm.jf a8+Sm.jf aR
def Sm.jf:List Sm→Nat
 | []=>0
 |s::l=>s.jy+Sm.jf l
end
structure Im where
 s:Sm
 proc:Int
 up:Int
 next:Int
 loop:Int
mutual
def Im.one (proc up next loop:Int) (out:List Im):Sm→List Im
 | ⟨id,kind,labels,name,pc,x,has,args,a8,aR⟩=>
  Im.rows proc ((out.length:Int)+1) (if kind==6 then(out.length:Int)+1 else next) (if kind==6 then(out.length:Int)+1 else loop)
   (Im.rows proc ((out.length:Int)+1) (if kind==6 then(out.length:Int)+1 else next) (if kind==6 then(out.length:Int)+1 else loop) (out++ [⟨⟨id,kind,labels,name,pc,x,has,args,a8,aR⟩,proc,up,next,loop⟩]) a8) aR
def Im.rows (proc up next loop:Int) (out:List Im):List Sm→List Im
 | []=>out
 |s::l=>Im.rows proc up next loop (Im.one proc up (if l.length=0 then next else(out.length:Int)+1+(s.jy:Int)) loop out s) l
end
theorem Im.acq (proc up next loop:Int) (out:List Im) (s:Sm):Im.one proc up next loop out s =
 Im.rows proc ((out.length:Int)+1) (if s.kind==6 then(out.length:Int)+1 else next) (if s.kind==6 then(out.length:Int)+1 else loop)
  (Im.rows proc ((out.length:Int)+1) (if s.kind==6 then(out.length:Int)+1 else next) (if s.kind==6 then(out.length:Int)+1 else loop) (out++ [⟨s,proc,up,next,loop⟩]) s.a8) s.aR:=by
 cases s;simp only[Im.one]
mutual
theorem Zp (proc up next loop:Int) (out:List Im) : ∀ s:Sm,(Im.one proc up next loop out s).length=out.length+s.jy
 |⟨id,kind,labels,name,pc,x,has,args,a8,aR⟩=>by
  simp only[Im.one,Sm.jy]
  rw[gE,gE]
  simp only[List.length_append,List.length_cons,List.length_nil];omega
theorem gE (proc up next loop:Int) (out:List Im) : ∀ l:List Sm,(Im.rows proc up next loop out l).length=out.length+Sm.jf l
 | []=>rfl
 |s::l=>by
  simp only[Im.rows,Sm.jf]
  rw[gE,Zp];omega
end
mutual
theorem Ds : ∀ s:Sm,s.jy≤s.size
 |⟨_,_,labels,_,_,x,_,args,a8,aR⟩=>by
  have:=nM a8;have:=nM aR
  simp only[Sm.jy,Sm.size];omega
theorem nM : ∀ l:List Sm,Sm.jf l≤Sm.a7 l
 | []=>Nat.le_refl _
 |s::l=>by
  have:=Ds s;have:=nM l
  simp only[Sm.jf,Sm.a7];omega
end
structure Sh where
 L:List Im
 lo:List Int
 hi:List Int
def Sh.go (i:Nat) (h:Sh):List Pc→Sh
 | []=>h
 |f::l=>Sh.go (i+1) ⟨Im.rows i 0 (-1) 0 h.L f.body,h.lo++ [(h.L.length:Int)+1],h.hi++ [((Im.rows i 0 (-1) 0 h.L f.body).length:Int)+1]⟩ l
def Pg.aX (p:Pg):Sh:=Sh.go 0 ⟨[],[],[]⟩ p.procs
def Zq:Nat:=3
def W5:Nat:=4
def W6:Nat:=5
def vu:Nat:=6
def W7:Nat:=7
def W8:Nat:=8
def Zr:Nat:=9
def W9:Nat:=10
def Xa:Nat:=11
def UY:Nat:=12
def Xb:Nat:=13
def UZ:Nat:=14
def xn:Nat:=15
def xo:Nat:=16
def sn:Nat:=17
def aeI:Nat:=18
def aap:Nat:=19
def sM:Nat:=20
def tU:Nat:=21
def tV:Nat:=22
def aaq:Nat:=23
def rh:Nat:=24
def tW:Nat:=25
def zc:Nat:=26
def aeJ:Nat:=27
def lz:Nat:=28
def nn:Nat:=29
def aeK:Nat:=30
def acr:Nat:=31
def aeL:Nat:=32
def ze:Nat:=33
def Zs:Nat:=34
def Xc:Nat:=35
def ri:Nat:=36
def aar:Nat:=37
def xp:Nat:=38
def xq:Nat:=39
def jI:Nat:=40
def gv:Nat:=41
def kK:Nat:=42
def kR:Nat:=43
def jn:Nat:=44
def iD:Nat:=45
def o7:Nat:=46
def oG:Nat:=47
def qv:Nat:=48
def oH:Nat:=49
def acs:Nat:=50
def LR:Nat:=51
def OV:Nat:=52
def xr:Nat:=53
def aeM:Nat:=54
def p9:Nat:=55
def U0:Nat:=56
def acu:Nat:=57
def U1:Nat:=58
def aeN:Nat:=59
def af8:Nat:=60
def aas:Nat:=61
def zf:Nat:=62
def Xd:Nat:=63
def np:Nat:=64
def nY:Nat:=65
def kr:Nat:=66
def aat:Nat:=67
def rj:Nat:=68
def ld:Nat:=69
def uO:Nat:=70
def j7:Nat:=71
def j8:Nat:=72
def vv:Nat:=73
def o8:Nat:=74
def gk:Nat:=75
def lN:Nat:=76
def iN:Nat:=77
def jV:Nat:=78
def ez:Nat:=79
def oQ:Nat:=80
def qa:Nat:=81
def kL:Nat:=82
def af9:Nat:=83
def acv:Nat:=84
def xu:Nat:=85
def aau:Nat:=86
def P0:Nat:=87
def LS:Nat:=88
def acw:Nat:=89
def aav:Nat:=90
def OW:Nat:=91
def OX:Nat:=92
def LU:Nat:=93
def Ry:Nat:=94
def lZ:Nat:=95
def qk:Nat:=96
def vw:Nat:=97
def tX:Nat:=98
def xv:Nat:=99
def Xe:Nat:=100
def aga:Nat:=101
def Xf:Nat:=102
def Zt:Nat:=103
def rk:Nat:=104
def Bl:Nat:=105
def zh:Nat:=106
def tY:Nat:=107
def mH:Nat:=108
def kA:Nat:=109
def sN:Nat:=110
def fZ:Nat:=111
def wD:Nat:=112
def nq:Nat:=113
def gN:Nat:=114
def ct:Nat:=115
def acx:Nat:=116
def acy:Nat:=117
def acz:Nat:=118
def Xg:Nat:=119
def mI:Nat:=120
def P2:Nat:=121
def Zu:Nat:=122
def acA:Nat:=123
def acB:Nat:=124
def agb:Nat:=125
def agc:Nat:=126
def OY:Nat:=127
def oi:Nat:=128
def ga:Nat:=129
def oR:Nat:=130
def ql:Nat:=131
def vx:Nat:=132
def rl:Nat:=133
def qb:Nat:=134
def vy:Nat:=135
def rm:Nat:=136
def sq:Nat:=137
def acC:Nat:=138
def agd:Nat:=139
def Xh:Nat:=140
def xw:Nat:=141
def o9:Nat:=142
def rn:Nat:=143
def tZ:Nat:=144
def lf:Nat:=145
def pb:Nat:=146
def age:Nat:=147
def acD:Nat:=148
def acE:Nat:=149
def acF:Nat:=150
def aaw:Nat:=151
def aeO:Nat:=152
def aeP:Nat:=153
def aiy:Nat:=154
def Xi:Nat:=155
def aax:Nat:=156
def aay:Nat:=157
def acG:Nat:=158
def aeQ:Nat:=159
def aaz:Nat:=160
def acH:Nat:=161
def agf:Nat:=162
def agh:Nat:=163
def Xj:Nat:=164
def Zv:Nat:=165
def acI:Nat:=166
def kS:Nat:=167
def rp:Nat:=168
def vz:Nat:=169
def vA:Nat:=170
def ub:Nat:=171
def xx:Nat:=172
def jz:Nat:=173
def jS:Nat:=174
def xy:Nat:=175
def zi:Nat:=176
def rr:Nat:=177
def zj:Nat:=178
def acJ:Nat:=179
def aeR:Nat:=180
def agi:Nat:=181
def acK:Nat:=182
def Zw:Nat:=183
def agj:Nat:=184
def aeS:Nat:=185
def agk:Nat:=186
def aeT:Nat:=187
def aeU:Nat:=188
def ry:Nat:=189
def gP:Nat:=190
def oT:Nat:=191
def uc:Nat:=192
def Et:Nat:=193
def Xk:Nat:=194
def jA:Nat:=195
def ud:Nat:=196
def sr:Nat:=197
def acL:Nat:=198
def acM:Nat:=199
def aeV:Nat:=200
def Zx:Nat:=201
def aeW:Nat:=202
def agl:Nat:=203
def Ll:Nat:=204
def aaA:Nat:=205
def aaB:Nat:=206
def iS:Nat:=207
def Bm:Nat:=208
def DX:Nat:=209
def Bn:Nat:=210
def Cz:Nat:=211
def Cd:Nat:=212
def xL:Nat:=213
def Ta:Nat:=214
def AH:Nat:=215
def Dt:Nat:=216
def Tb:Nat:=217
def Tc:Nat:=218
def acN:Nat:=219
def aeX:Nat:=220
def aeY:Nat:=221
def aaC:Nat:=222
def acO:Nat:=223
def DY:Nat:=224
def KK:Nat:=225
def Lm:Nat:=226
def AJ:Nat:=227
def Fo:Nat:=228
def Rz:Nat:=229
def Fp:Nat:=230
abbrev AI.o (t:Nat) (a:AO):AI:= .op (some t) none a
abbrev AI.g (t c:Nat) (b:Bool) (a:AO):AI:= .op (some t) (some (c,b)) a
abbrev AI.c (t f:Nat) (l:List X):AI:= .call (some t) none f l
abbrev AI.d (t c:Nat) (b:Bool) (f:Nat) (l:List X):AI:= .call (some t) (some (c,b)) f l
abbrev AI.m (t:Nat) (x:X):AI:= .op (some t) none (.mv x)
abbrev bt:X:= .s 0
abbrev bu:X:= .s 1
abbrev dw:X:= .s 2
abbrev cB:X:= .s 3
abbrev fi:X:= .s 4
abbrev cm:X:= .s 5
abbrev dD:X:= .s 6
abbrev cW:X:= .s 7
abbrev de:X:= .s 8
abbrev dq:X:= .s 9
abbrev cf:X:= .s 10
abbrev cH:X:= .s 11
abbrev cT:X:= .s 12
abbrev c6:X:= .s 13
abbrev cO:X:= .s 14
abbrev dC:X:= .s 15
abbrev dc:X:= .s 16
abbrev dE:X:= .s 17
abbrev dA:X:= .s 18
abbrev dV:X:= .s 19
abbrev ej:X:= .s 20
abbrev dW:X:= .s 21
abbrev ew:X:= .s 22
abbrev ey:X:= .s 23
abbrev eR:X:= .s 24
abbrev eU:X:= .s 25
abbrev fk:X:= .s 26
abbrev fl:X:= .s 27
abbrev fR:X:= .s 28
abbrev gb:X:= .s 29
abbrev gw:X:= .s 30
abbrev gf:X:= .s 31
abbrev gF:X:= .s 32
abbrev gG:X:= .s 33
abbrev iE:X:= .s 34
abbrev gR:X:= .s 35
abbrev iw:X:= .s 36
abbrev jg:X:= .s 37
abbrev jO:X:= .s 38
abbrev jB:X:= .s 39
abbrev j9:X:= .s 40
abbrev jP:X:= .s 41
abbrev kF:X:= .s 42
abbrev ku:X:= .s 43
abbrev kG:X:= .s 44
abbrev lJ:X:= .s 45
abbrev lK:X:= .s 46
abbrev lV:X:= .s 47
abbrev kT:X:= .s 48
abbrev kU:X:= .s 49
abbrev lL:X:= .s 50
abbrev kV:X:= .s 51
abbrev kW:X:= .s 52
abbrev lM:X:= .s 53
abbrev lW:X:= .s 54
abbrev lX:X:= .s 55
abbrev nZ:X:= .s 56
abbrev pd:X:= .s 57
abbrev oI:X:= .s 58
abbrev mJ:X:= .s 59
abbrev pT:X:= .s 60
abbrev rz:X:= .s 61
abbrev qw:X:= .s 62
abbrev rA:X:= .s 63
abbrev rB:X:= .s 64
abbrev vB:X:= .s 65
abbrev xA:X:= .s 66
abbrev xB:X:= .s 67
abbrev vC:X:= .s 68
abbrev zk:X:= .s 69
abbrev zl:X:= .s 70
abbrev Du:X:= .s 71
abbrev Bo:X:= .s 72
abbrev Bp:X:= .s 73
abbrev Dv:X:= .s 74
abbrev Dw:X:= .s 75
abbrev Bq:X:= .s 76
abbrev Dx:X:= .s 77
abbrev zm:X:= .s 78
abbrev FI:X:= .s 79
abbrev FJ:X:= .s 80
abbrev FK:X:= .s 81
abbrev Jp:X:= .s 82
abbrev Jq:X:= .s 83
abbrev Jr:X:= .s 84
abbrev Js:X:= .s 85
abbrev Jt:X:= .s 86
abbrev Ju:X:= .s 87
abbrev Jv:X:= .s 88
abbrev Dy:X:= .s 89
abbrev FL:X:= .s 90
abbrev Jw:X:= .s 91
abbrev OZ:X:= .s 92
abbrev U2:X:= .s 93
abbrev U3:X:= .s 94
abbrev U4:X:= .s 95
abbrev acP:X:= .s 96
abbrev acQ:X:= .s 97
abbrev acR:X:= .s 98
abbrev acS:X:= .s 99
abbrev Xl:X:= .s 100
abbrev Xm:X:= .s 101
abbrev Xn:X:= .s 102
abbrev Xo:X:= .s 103
abbrev Xp:X:= .s 104
abbrev Xq:X:= .s 105
abbrev Xr:X:= .s 106
abbrev Xs:X:= .s 107
abbrev Xt:X:= .s 108
abbrev agm:X:= .s 109
abbrev Xu:X:= .s 110
abbrev Xv:X:= .s 111
abbrev O0:X:= .s 112
abbrev Xw:X:= .s 113
abbrev Xx:X:= .s 114
abbrev Xy:X:= .s 115
abbrev Xz:X:= .s 116
abbrev XA:X:= .s 117
abbrev XB:X:= .s 118
abbrev XC:X:= .s 119
abbrev XD:X:= .s 120
abbrev XE:X:= .s 121
abbrev XF:X:= .s 122
abbrev XG:X:= .s 123
abbrev XH:X:= .s 124
abbrev XI:X:= .s 125
abbrev agn:X:= .s 126
abbrev XJ:X:= .s 127
abbrev Eu:X:= .s 128
abbrev XK:X:= .s 129
abbrev XL:X:= .s 130
abbrev ago:X:= .s 131
abbrev agp:X:= .s 132
abbrev agq:X:= .s 133
abbrev agr:X:= .s 134
abbrev ags:X:= .s 135
abbrev agt:X:= .s 136
abbrev agu:X:= .s 137
abbrev agv:X:= .s 138
abbrev agw:X:= .s 139
abbrev agx:X:= .s 140
abbrev agy:X:= .s 141
abbrev agz:X:= .s 142
abbrev agA:X:= .s 143
abbrev agB:X:= .s 144
abbrev agC:X:= .s 145
abbrev agD:X:= .s 146
abbrev agE:X:= .s 147
abbrev agF:X:= .s 148
abbrev agG:X:= .s 149
abbrev agH:X:= .s 150
abbrev agI:X:= .s 151
abbrev agJ:X:= .s 152
abbrev agK:X:= .s 153
abbrev agL:X:= .s 154
abbrev agM:X:= .s 155
abbrev agN:X:= .s 156
abbrev agO:X:= .s 157
abbrev agP:X:= .s 158
abbrev agQ:X:= .s 159
abbrev agR:X:= .s 160
abbrev agS:X:= .s 161
abbrev agT:X:= .s 162
abbrev agU:X:= .s 163
abbrev agV:X:= .s 164
abbrev agW:X:= .s 165
abbrev agX:X:= .s 166
abbrev agY:X:= .s 167
abbrev agZ:X:= .s 168
abbrev ag0:X:= .s 169
abbrev ag1:X:= .s 170
abbrev ag2:X:= .s 171
abbrev ag3:X:= .s 172
abbrev ag4:X:= .s 173
abbrev ag5:X:= .s 174
abbrev ag6:X:= .s 175
abbrev Q04:AC:= .cond c6 (.seq (.run [.o 8 (.mv (.k (.bool false)))]) .ret) .skip
abbrev Q09:AC:= .cond dc (.seq (.run [.o 8 (.mv (.k (.bool true)))]) .ret) .skip
abbrev Q0E:AC:= .cond fk (.seq (.run [.o 8 (.mv (.k (.bool true)))]) .ret) .skip
abbrev Q0I:AC:= .par [.o 39 (.load dq true 5), .o 40 (.load cH true 5), .c 41 tW [jB,j9], .m 42 jP, .g 43 42 true (.aq dq 4), .g 44 42 true (.load ku false 1), .g 45 42 true (.aq cH 4), .g 46 42 true (.load lJ false 1), .g 47 42 true (.mv cB), .d 48 42 true zc [lK,lV], .d 49 42 true rh [kG,kT], .o 50 (.pick kF kU (.k (.bool false))), .m 8 lL] [(0,0),(1,0),(2,0),(3,0),(6,0),(7,0),(8,0),(9,0),(4,0),(5,1),(10,0),(11,0),(12,0)]
abbrev Q0M:AC:= .seq (.seq (.run [.o 17 (.load fi true 2), .m 18 bu, .m 19 dw, .c 20 tU [dE,dA,dV], .o 21 (.un .not ej), .m 22 dW, .g 23 22 false (.mv cB), .g 24 22 false (.len ey), .g 25 22 false (.bin .gtr eR (.k (.int .i64 100))), .o 26 (.pick ew (.k (.bool true)) eU)]) Q0E) (.seq (.run [.o 28 (.load fi true 2), .m 29 bu, .m 30 dw, .m 31 cB, .c 32 sn [fR,gb,gw,gf], .m 27 gF, .o 33 (.ext fl 0), .o 34 (.ext fl 1), .o 9 (.alloc [(.int .i64 0),(.int .i64 0),(.int .i64 0),(.slice .full 0 []),(.slice .full 0 [])]), .op none none (.store dq gG 5), .m 10 iE]) (.seq (.run [.o 35 (.load fi true 2), .m 36 bu, .m 37 dw, .c 38 tV [gR,iw,jg], .o 11 (.alloc [(.int .i64 0),(.int .i64 0),(.int .i64 0),(.slice .full 0 []),(.slice .full 0 [])]), .op none none (.store cH jO 5)]) (.seq Q0I .ret)))
abbrev Q0P:AC:= .seq (.run [.o 4 (.box bt), .o 8 (.mv (.k (.bool false)))]) (.seq (.seq (.run [.c 12 xn [], .o 13 (.un .not cT)]) Q04) (.seq (.seq (.run [.o 14 (.load fi true 2), .c 15 xo [cO], .o 16 (.un .not dC)]) Q09) Q0M))
abbrev Q0S:AC:= .run [.m 9 dw, .o 10 (.bin .eql dq (.k (.int .i64 0))), .m 11 cf, .g 12 11 true (.aq bu 0), .g 13 11 true (.load cT false 1), .g 14 11 true (.bin .eql c6 (.k (.int .i64 1))), .o 15 (.pick cH cO (.k (.bool false))), .m 16 dC, .g 17 16 true (.aq bu 1), .g 18 16 true (.load dE false 1), .g 19 16 true (.bin .eql dA (.k (.int .i64 7))), .o 20 (.pick dc dV (.k (.bool false))), .m 21 ej, .g 22 21 true (.aq bu 3), .g 23 21 true (.load ew false 1),(.g 24 21 true (.dt [(.int .i64 0)] 1 2 [(0,(.k (.int .i64 5))),(1,(.k (.int .i64 5)))])), .d 25 21 true lz [ey,eR], .o 26 (.pick dW eU (.k (.bool false))), .m 27 fk, .g 28 27 true (.aq bu 4), .g 29 27 true (.load fR false 1), .g 30 27 true (.len gb), .g 31 27 true (.bin .eql gw (.k (.int .i64 2))), .o 32 (.pick fl gf (.k (.bool false))), .m 33 gF, .g 34 33 true (.aq bu 4), .g 35 33 true (.load iE false 1), .g 36 33 true (.cd gR (.k (.int .i64 0)) 2), .g 37 33 true (.aq iw 0), .g 38 33 true (.load jg false 1), .g 39 33 true (.bin .eql jO (.k (.int .i64 2))), .o 40 (.pick gG jB (.k (.bool false))), .m 41 j9, .g 42 41 true (.aq bu 4), .g 43 41 true (.load kF false 1), .g 44 41 true (.cd ku (.k (.int .i64 1)) 2), .g 45 41 true (.aq kG 1), .g 46 41 true (.load lJ false 1),(.g 47 41 true (.dt [(.int .i64 0)] 1 1 [(0,(.k (.int .i64 5)))])), .d 48 41 true lz [lK,lV], .o 49 (.pick jP kT (.k (.bool false))), .m 50 kU, .g 51 50 true (.load bu true 5), .d 52 50 true xp [kV], .g 53 50 true (.qK .real kW kW),(.g 54 50 true (.qK .eq lM (.k (.val (.float .f64 4619567317775286272))))), .o 55 (.pick lL lW (.k (.bool false))), .m 0 lX]
abbrev Q0U:AC:= .seq (.run [.c 4 xq [],(.o 5 (.dt [(.int .i64 0)] 1 2 [(0,(.k (.int .i64 5))),(1,(.k (.int .i64 2)))])),(.c 6 sn [fi,(.k (.slice .full 0 [])),(.k (.int .i64 50)),cm]), .m 3 dD, .o 7 (.ext cB 0), .o 8 (.ext cB 1), .o 1 (.alloc [(.int .i64 0),(.int .i64 0),(.int .i64 0),(.slice .full 0 []),(.slice .full 0 [])]), .op none none (.store bu cW 5), .m 2 de]) (.seq Q0S .ret)
abbrev Q0V:AC:= .seq (.run [.o 0 (.mv (.k (.bool false)))]) Q0U
abbrev Q13:AC:= .par [.o 26 (.aq cm 4), .o 27 (.load fk false 1), .o 28 (.aq cm 2), .o 29 (.load fR false 1), .o 30 (.aq cm 0), .o 31 (.load gw false 1), .m 32 cB, .c 33 gv [gf,gF], .c 34 jI [gb,gG], .c 35 jI [fl,iE], .m 3 gR] [(4,0),(5,0),(6,0),(7,0),(2,0),(3,1),(8,0),(0,0),(1,2),(9,0),(10,0)]
abbrev Q1C:AC:= .seq (.seq (.run [.m 36 dD, .o 37 (.aq cm 1), .o 38 (.load jg false 1), .o 39 (.len jO), .o 40 (.bin .lss iw jB), .m 41 j9, .g 42 41 true (.mv cB), .g 43 41 true (.bin .leq kF (.k (.int .i64 20000))), .o 44 (.pick jP ku (.k (.bool false)))]) (.cond kG .skip (.exit 2))) (.seq (.block 3 (.run [.o 47 (.aq cm 1), .o 48 (.load lV false 1), .m 49 dD, .o 50 (.cd kT kU 2), .o 51 (.aq lL 0), .o 52 (.load kV false 1), .m 53 cB, .c 54 gv [kW,lM], .m 3 lW])) (.run [.m 45 dD, .o 46 (.bin .add lJ (.k (.int .i64 1))), .m 6 lK]))
abbrev Q1H:AC:= .seq (.seq (.run [.o 6 (.mv (.k (.int .i64 0)))]) (.block 2 (.loop Q1C))) (.run [.o 55 (.aq cm 3), .o 56 (.load lX false 1), .m 57 cB, .c 58 kK [nZ,pd], .m 3 oI])
abbrev Q1M:AC:= .seq (.block 1 (.seq (.run [.o 21 (.aq bu 1), .o 22 (.load dW false 1), .m 23 fi, .o 24 (.cd ew ey 5), .o 25 (.load eR true 5), .o 5 (.alloc [(.str []),(.slice .full 0 []),(.slice .full 0 []),(.slice .full 0 []),(.slice .full 0 [])]), .op none none (.store cm eU 5)]) (.seq Q13 Q1H))) (.run [.m 19 fi, .o 20 (.bin .add dV (.k (.int .i64 1))), .m 4 ej])
abbrev Q1N:AC:= .seq (.seq (.run [.m 10 fi, .o 11 (.aq bu 1), .o 12 (.load cH false 1), .o 13 (.len cT), .o 14 (.bin .lss cf c6), .m 15 cO, .g 16 15 true (.mv cB), .g 17 15 true (.bin .leq dc (.k (.int .i64 20000))), .o 18 (.pick dC dE (.k (.bool false)))]) (.cond dA .skip (.exit 0))) Q1M
abbrev Q1T:AC:= .seq (.seq (.run [.o 4 (.mv (.k (.int .i64 0)))]) (.block 0 (.loop Q1N))) (.seq (.run [.m 59 cB, .o 60 (.bin .leq mJ (.k (.int .i64 20000))), .m 2 pT]) .ret)
abbrev Q1V:AC:= .seq (.run [.o 1 (.box bt), .o 2 (.mv (.k (.bool false)))]) (.seq (.run [.o 7 (.aq bu 0), .o 8 (.load cW false 1), .c 9 jI [de,(.k (.int .i64 0))], .m 3 dq]) Q1T)
abbrev Q20:AC:= .cond eR (.seq (.run [.o 25 (.build [(.int .i64 0),(.int .i64 0),(.int .i64 0),(.slice .full 0 []),(.slice .full 0 [])] []), .op none none (.store de eU 5), .o 9 (.mv (.k (.int .i64 1)))]) .ret) .skip
abbrev Q2A:AC:= .seq (.cond iw .skip (.exit 0)) (.seq (.block 1 (.run [.m 37 cf, .m 38 cf, .o 39 (.bT jO), .o 40 (.aq jB 1), .o 41 (.load j9 false 1), .o 42 (.alloc [(.int .i64 0)]), .o 43 (.dt [.dS] 1 1 [(0,kF)]), .o 44 (.app 1 8 jP ku), .o 45 (.bT jg), .o 46 (.aq lJ 1), .op none none (.store lK kG 1)])) (.run [.o 47 (.bin .add gR (.k (.int .i64 1))), .m 35 lV]))
abbrev Q2B:AC:= .seq (.run [.o 36 (.bin .lss gR iE)]) Q2A
abbrev Q2L:AC:= .cond nZ (.seq (.run [.o 12 (.mv (.k (.int .i64 0)))]) (.goto 0)) .skip
abbrev Q2M:AC:= .seq (.run [.m 55 c6,(.o 56 (.bin .eql lX (.k (.int .i64 (-1)))))]) Q2L
abbrev Q2Q:AC:= .cond rA (.seq (.run [.m 64 cf, .o 65 (.bT rB), .o 66 (.aq vB 6), .o 67 (.aq xA 0), .op none none (.store xB (.k (.int .i64 2)) 1)]) (.goto 2)) .skip
abbrev Q32:AC:= .seq (.run [.m 102 cf, .o 103 (.aq cH 0), .o 104 (.load Xo true 13), .c 105 oG [Xn,Xp], .m 12 Xq]) (.seq (.run [.m 106 cf, .o 107 (.bT Xr), .o 108 (.aq Xs 6), .o 109 (.aq Xt 0), .o 110 (.load agm false 1), .o 111 (.bin .eql Xu (.k (.int .i64 0)))]) (.cond Xv (.goto 0) .skip))
abbrev Q36:AC:= .cond U3 (.run [.m 96 cf, .o 97 (.aq cH 0), .o 98 (.load acQ true 13), .c 99 o7 [acP,acR], .m 13 acS]) (.seq (.run [.o 101 (.bin .eql FL (.k (.int .i64 9))), .m 100 Xm]) (.cond Xl Q32 (.run [.m 91 cf, .o 92 (.load cH true 17), .c 93 qv [Jw,OZ], .m 13 U2])))
abbrev Q38:AC:= .block 2 (.seq (.run [.o 95 (.bin .eql FL (.k (.int .i64 4))), .m 94 U4]) Q36)
abbrev Q3I:AC:= .seq (.run [.m 127 cf, .o 128 (.bT XJ), .o 129 (.aq Eu 6), .o 130 (.load XK true 5), .op none none (.store de XL 5), .o 9 (.mv (.k (.int .i64 0)))]) .ret
abbrev Q3K:AC:= .seq (.seq (.run [.m 121 cf, .o 122 (.bT XE), .o 123 (.aq XF 6), .o 124 (.aq XG 0), .o 125 (.load XH false 1), .o 126 (.bin .eql XI (.k (.int .i64 0)))]) (.cond agn (.goto 1) .skip)) (.seq (.label 2) Q3I)
abbrev Q3L:AC:= .seq (.run [.m 118 cf, .m 119 cT, .c 120 oH [XB,XC], .m 13 XD]) Q3K
abbrev Q3O:AC:= .seq (.seq (.run [.m 112 cf, .o 113 (.bT O0), .o 114 (.aq Xw 6), .o 115 (.aq Xx 0), .o 116 (.load Xy false 1), .o 117 (.bin .eql Xz (.k (.int .i64 0)))]) (.cond XA (.goto 1) .skip)) (.seq (.goto 2) (.seq (.label 0) Q3L))
abbrev Q3R:AC:= .seq (.run [.m 68 cf, .o 69 (.bT vC), .o 70 (.aq zk 6), .o 71 (.aq zl 1), .o 72 (.load Du false 1), .o 73 (.bin .add Bo (.k (.int .i64 1))), .o 74 (.bT vC), .o 75 (.aq Dv 6), .o 76 (.aq Dw 1), .op none none (.store Bq Bp 1)]) (.seq (.run [.m 77 cf, .o 78 (.bT Dx), .o 79 (.aq zm 0), .o 80 (.load FI false 1), .o 81 (.bT FJ), .o 82 (.aq FK 2), .o 83 (.load Jp false 1), .m 84 c6, .o 85 (.bin .sub Jr (.k (.int .i64 1))), .o 86 (.cd Jq Js 17), .o 87 (.load Jt true 17), .op none none (.store cH Ju 17)]) (.seq (.seq (.run [.o 88 (.aq cH 0), .o 89 (.aq Jv 1), .o 90 (.load Dy false 1)]) Q38) Q3O))
abbrev Q3T:AC:= .seq Q2M (.seq (.seq (.run [.m 57 cf, .o 58 (.bT pd), .o 59 (.aq oI 6), .o 60 (.aq mJ 1), .o 61 (.load pT false 1), .m 62 dw, .o 63 (.bin .eql rz qw)]) Q2Q) Q3R)
abbrev Q3W:AC:= .seq (.run [.o 12 (.mv (.k (.int .i64 0)))]) (.seq (.run [.m 48 cf, .m 49 cf, .o 50 (.bT kU), .o 51 (.aq lL 0), .o 52 (.load kV false 1),(.c 53 iD [kW,(.k (.str [109,97,105,110]))]),(.c 54 jn [kT,lM,(.k (.slice .full 0 [])),(.k (.int .i64 0))]), .m 13 lW]) (.seq (.label 1) Q3T))
abbrev Q3X:AC:= .seq (.run [.o 11 (.alloc [(.int .i64 0),(.int .i64 0),(.slice .full 0 []),(.str []),(.str []),(.int .i64 0),(.int .i64 0),(.str []),(.slice .full 0 []),(.bool false),(.slice .full 0 []),(.slice .full 0 []),(.slice .full 0 []),(.int .i64 0),(.int .i64 0),(.int .i64 0),(.int .i64 0)])]) Q3W
abbrev Q3Y:AC:= .seq (.seq (.run [.o 32 (.aq fi 0), .o 33 (.load gF false 1), .o 34 (.len gG), .o 35 (.mv (.k (.int .i64 0)))]) (.block 0 (.loop Q2B))) Q3X
abbrev Q40:AC:= .seq (.seq (.run [.m 14 dw, .o 15 (.bin .lss cO (.k (.int .i64 0))), .m 16 dC, .g 17 16 false (.mv dw), .g 18 16 false (.bin .gtr dE (.k (.int .i64 1000000))), .o 19 (.pick dc (.k (.bool true)) dA), .m 20 dV, .g 21 20 false (.load fi true 2), .d 22 20 false sM [dW], .g 23 20 false (.un .not ew), .o 24 (.pick ej (.k (.bool true)) ey)]) Q20) (.seq (.run [.o 26 (.load fi true 2), .c 27 kR [fk], .m 28 bu, .m 29 cB, .o 30 (.build [.dS,(.slice .full 0 []),(.slice .full 0 []),(.slice .full 0 []),(.slice .full 0 []),(.slice .full 0 []),(.int .i64 0),(.int .i64 0),(.int .i64 0),(.slice .full 0 []),(.slice .full 0 [])] [(0,(1,fl)),(2,(1,fR)),(3,(1,gb))]), .o 31 (.box gw), .m 10 gf]) Q3Y)
abbrev Q41:AC:= .scope Q40
abbrev Q42:AC:= .seq (.run [.o 4 (.box bt), .o 8 (.alloc [(.int .i64 0),(.int .i64 0),(.int .i64 0),(.slice .full 0 []),(.slice .full 0 [])]), .o 9 (.mv (.k (.int .i64 0)))]) Q41
abbrev Q46:AC:= .seq (.run [.o 1 (.box bt), .o 2 (.mv (.k (.bool false)))]) (.seq (.run [.o 3 (.load bu true 2), .c 4 xr [cB], .o 5 (.CJ fi 0 false 1), .o 6 (.bin .eql cm (.k (.int .i64 0))), .m 2 dD]) .ret)
abbrev Q4A:AC:= .seq (.run [.o 3 (.box bt), .o 6 (.mv (.k (.bool false)))]) (.seq (.run [.o 7 (.load cB true 2), .c 8 sM [cW], .m 9 de, .g 10 9 true (.mv dw), .g 11 9 true (.bin .geq cf (.k (.int .i64 0))), .o 12 (.pick dq cH (.k (.bool false))), .m 13 cT, .g 14 13 true (.mv dw), .g 15 13 true (.bin .leq cO (.k (.int .i64 400))), .o 16 (.pick c6 dC (.k (.bool false))), .m 17 dc, .g 18 17 true (.mv bu), .g 19 17 true (.len dA), .g 20 17 true (.bin .leq dV (.k (.int .i64 100))), .o 21 (.pick dE ej (.k (.bool false))), .m 6 dW]) .ret)
abbrev Q4C:AC:= .par [.o 10 (.load cB true 2), .m 11 bu, .m 12 dw, .o 13 (.load cB true 2), .c 14 ze [c6,(.k (.int .i64 0))], .c 15 sn [cf,cH,cT,cO], .m 9 dC, .o 16 (.ext dq 0), .o 17 (.ext dq 1), .o 7 (.alloc [(.int .i64 0),(.int .i64 0),(.int .i64 0),(.slice .full 0 []),(.slice .full 0 [])]), .op none none (.store cW dc 5), .m 8 dE] [(3,0),(4,0),(0,1),(1,0),(2,0),(5,0),(9,0),(6,0),(7,0),(10,0),(8,0),(11,0)]
abbrev Q4G:AC:= .seq (.run [.o 3 (.box bt), .o 6 (.alloc [(.int .i64 0),(.int .i64 0),(.int .i64 0),(.slice .full 0 []),(.slice .full 0 [])])]) (.seq Q4C (.seq (.run [.o 18 (.load cW true 5), .op none none (.store dD dA 5)]) .ret))
abbrev Q4L:AC:= .cond cf (.seq (.run [.o 4 (.mv (.k (.bool false)))]) .ret) .skip
abbrev Q4R:AC:= .par [.m 16 bt, .m 17 cm, .o 18 (.cd dc dE 2), .o 19 (.aq dA 0), .o 20 (.load dV false 1), .m 21 bu, .m 22 cm, .o 23 (.cd dW ew 2), .o 24 (.aq ey 0), .o 25 (.load eR false 1), .o 26 (.bin .neq ej eU), .m 27 fk, .g 28 27 false (.mv bt), .g 29 27 false (.mv cm), .g 30 27 false (.cd fR gb 2), .g 31 27 false (.aq gw 1), .g 32 27 false (.load gf false 1), .g 33 27 false (.mv bu), .g 34 27 false (.mv cm), .g 35 27 false (.cd gG iE 2), .g 36 27 false (.aq gR 1), .g 37 27 false (.load iw false 1), .d 38 27 false lz [gF,jg], .g 39 27 false (.un .not jO), .o 40 (.pick fl (.k (.bool true)) jB)] [(0,0),(1,0),(2,0),(3,0),(4,0),(5,0),(6,0),(7,0),(8,0),(9,0),(10,0),(11,0),(12,0),(13,0),(14,0),(15,0),(16,0),(17,0),(18,0),(19,0),(20,0),(21,0),(22,0),(23,0),(24,0)]
abbrev Q4U:AC:= .cond j9 (.seq (.run [.o 4 (.mv (.k (.bool false)))]) .ret) .skip
abbrev Q50:AC:= .seq (.cond cO .skip (.exit 0)) (.seq (.block 1 (.seq (.run [.m 15 c6, .m 5 dC]) (.seq Q4R Q4U))) (.run [.o 41 (.bin .add c6 (.k (.int .i64 1))), .m 13 jP]))
abbrev Q54:AC:= .seq (.run [.m 11 bt, .o 12 (.len cH), .o 13 (.mv (.k (.int .i64 0)))]) (.block 0 (.loop (.seq (.run [.o 14 (.bin .lss c6 cT)]) Q50)))
abbrev Q57:AC:= .seq Q54 (.seq (.run [.o 4 (.mv (.k (.bool true)))]) .ret)
abbrev Q59:AC:= .seq (.run [.o 4 (.mv (.k (.bool false)))]) (.seq (.seq (.run [.m 6 bt, .o 7 (.len dD), .m 8 bu, .o 9 (.len de), .o 10 (.bin .neq cW dq)]) Q4L) Q57)
abbrev Q5B:AC:= .run [.o 5 (.aq dw 0), .o 6 (.load cm false 1), .o 7 (.aq cB 0), .o 8 (.load cW false 1), .o 9 (.bin .eql dD de), .m 10 dq, .g 11 10 true (.aq dw 1), .g 12 10 true (.load cH false 1), .g 13 10 true (.aq cB 1), .g 14 10 true (.load c6 false 1), .g 15 10 true (.bin .eql cT cO), .o 16 (.pick cf dC (.k (.bool false))), .m 17 dc, .g 18 17 true (.aq dw 2), .g 19 17 true (.load dA false 1), .g 20 17 true (.aq cB 2), .g 21 17 true (.load ej false 1), .g 22 17 true (.bin .eql dV dW), .o 23 (.pick dE ew (.k (.bool false))), .m 24 ey, .g 25 24 true (.aq dw 3), .g 26 24 true (.load eU false 1), .g 27 24 true (.aq cB 3), .g 28 24 true (.load fl false 1), .d 29 24 true lz [fk,fR], .o 30 (.pick eR gb (.k (.bool false))), .m 4 gw]
abbrev Q5D:AC:= .seq (.run [.o 2 (.box bt), .o 3 (.box bu), .o 4 (.mv (.k (.bool false)))]) (.seq Q5B .ret)
abbrev Q5S:AC:= .seq (.run [.o 22 (.aq cW 0), .o 23 (.load ew false 1), .m 24 dq, .o 25 (.bin .eql ey eR)]) (.cond eU (.seq (.run [.m 26 cm, .o 27 (.load cW true 2), .o 28 (.dt [(.int .i64 0),(.slice .full 0 [])] 2 1 [(0,fl)]), .o 29 (.app 2 32 fk fR), .m 5 gb]) (.exit 2)) .skip)
abbrev Q5X:AC:= .seq (.cond dV .skip (.exit 2)) (.seq (.block 3 (.seq (.run [.o 20 (.cd dc dA 1), .o 21 (.load ej false 1), .m 9 dW]) Q5S)) (.run [.o 30 (.bin .add dA (.k (.int .i64 1))), .m 18 gw]))
abbrev Q61:AC:= .seq (.run [.m 16 bu, .o 17 (.len dc), .o 18 (.mv (.k (.int .i64 0)))]) (.block 2 (.loop (.seq (.run [.o 19 (.bin .lss dA dE)]) Q5X)))
abbrev Q65:AC:= .seq (.block 1 (.seq (.run [.o 14 (.cd cf cT 2), .o 15 (.load cO true 2), .o 7 (.alloc [(.int .i64 0),(.slice .full 0 [])]), .op none none (.store cW dC 2)]) Q61)) (.run [.o 31 (.bin .add cT (.k (.int .i64 1))), .m 12 gf])
abbrev Q69:AC:= .block 0 (.loop (.seq (.run [.o 13 (.bin .lss cT cH)]) (.seq (.cond c6 .skip (.exit 0)) Q65)))
abbrev Q6D:AC:= .seq (.seq (.run [.m 10 bt, .o 11 (.len cf), .o 12 (.mv (.k (.int .i64 0)))]) Q69) (.seq (.run [.m 32 cm, .m 4 gF]) .ret)
abbrev Q6F:AC:= .seq (.run [.o 4 (.mv (.k (.slice .full 0 [])))]) (.seq (.run [.o 5 (.mv (.k (.slice .full 0 [])))]) Q6D)
abbrev Q6K:AC:= .cond cf (.seq (.run [.o 4 (.mv (.k (.bool false)))]) .ret) .skip
abbrev Q6Q:AC:= .par [.m 16 bt, .m 17 cm, .o 18 (.cd dc dE 1), .o 19 (.load dA false 1), .m 20 bu, .m 21 cm, .o 22 (.cd ej dW 1), .o 23 (.load ew false 1), .o 24 (.bin .neq dV ey)] [(0,0),(1,0),(2,0),(3,0),(4,0),(5,0),(6,0),(7,0),(8,0)]
abbrev Q6T:AC:= .cond eR (.seq (.run [.o 4 (.mv (.k (.bool false)))]) .ret) .skip
abbrev Q6Z:AC:= .seq (.cond cO .skip (.exit 0)) (.seq (.block 1 (.seq (.run [.m 15 c6, .m 5 dC]) (.seq Q6Q Q6T))) (.run [.o 25 (.bin .add c6 (.k (.int .i64 1))), .m 13 eU]))
abbrev Q73:AC:= .seq (.run [.m 11 bt, .o 12 (.len cH), .o 13 (.mv (.k (.int .i64 0)))]) (.block 0 (.loop (.seq (.run [.o 14 (.bin .lss c6 cT)]) Q6Z)))
abbrev Q76:AC:= .seq Q73 (.seq (.run [.o 4 (.mv (.k (.bool true)))]) .ret)
abbrev Q78:AC:= .seq (.run [.o 4 (.mv (.k (.bool false)))]) (.seq (.seq (.run [.m 6 bt, .o 7 (.len dD), .m 8 bu, .o 9 (.len de), .o 10 (.bin .neq cW dq)]) Q6K) Q76)
abbrev Q7C:AC:= .seq (.run [.o 1 (.box bt), .o 2 (.mv (.k (.bool false)))]) (.seq (.run [.o 3 (.load bu true 4), .c 4 p9 [cB,(.k (.int .i64 20))], .m 2 fi]) .ret)
abbrev Q7N:AC:= .seq (.run [.o 13 (.cd dq cH 16), .o 14 (.load c6 true 16), .o 7 (.alloc [(.int .i64 0),(.int .i64 0),(.slice .full 0 []),(.str []),(.str []),(.int .i64 0),(.int .i64 0),(.str []),(.slice .full 0 []),(.bool false),(.slice .full 0 []),(.slice .full 0 []),(.slice .full 0 []),(.int .i64 0),(.int .i64 0),(.bool false)]), .op none none (.store cW cO 16)]) (.seq (.run [.m 15 bu, .o 16 (.bin .eql dC (.k (.int .i64 0))), .m 17 dc, .g 18 17 false (.aq cW 0), .g 19 17 false (.aq dA 1), .g 20 17 false (.load dV false 1), .g 21 17 false (.mv bu), .g 22 17 false (.bin .eql ej dW), .o 23 (.pick dE (.k (.bool true)) ew)]) (.cond ey (.run [.m 24 cm, .o 25 (.aq cW 0), .o 26 (.aq eU 0), .o 27 (.load fk false 1), .o 28 (.dt [(.int .i64 0)] 1 1 [(0,fl)]), .o 29 (.app 1 8 eR fR), .m 5 gb]) .skip))
abbrev Q7R:AC:= .seq (.cond cT .skip (.exit 0)) (.seq (.block 1 Q7N) (.run [.o 30 (.bin .add cH (.k (.int .i64 1))), .m 11 gw]))
abbrev Q7V:AC:= .seq (.run [.o 8 (.load dw true 2), .c 9 zf [de], .o 10 (.len dq), .o 11 (.mv (.k (.int .i64 0)))]) (.block 0 (.loop (.seq (.run [.o 12 (.bin .lss cH cf)]) Q7R)))
abbrev Q80:AC:= .seq (.run [.o 2 (.box bt), .o 4 (.mv (.k (.slice .full 0 [])))]) (.seq (.run [.o 5 (.mv (.k (.slice .full 0 [])))]) (.seq Q7V (.seq (.run [.m 31 cm, .m 4 gf]) .ret)))
abbrev Q85:AC:= .cond ey (.seq (.run [.o 2 (.mv (.k (.bool false)))]) .ret) .skip
abbrev Q8C:AC:= .run [.o 33 (.aq cm 1), .o 34 (.load gG false 1), .o 35 (.len iE), .o 36 (.bin .gtr gR (.k (.int .i64 8))), .m 37 iw, .g 38 37 false (.aq cm 2), .g 39 37 false (.load jO false 1), .g 40 37 false (.len jB), .g 41 37 false (.bin .gtr j9 (.k (.int .i64 16))), .o 42 (.pick jg (.k (.bool true)) jP), .m 43 kF, .g 44 43 false (.aq cm 0), .g 45 43 false (.load kG false 1), .d 46 43 false nY [lJ], .g 47 43 false (.un .not lK), .o 48 (.pick ku (.k (.bool true)) lV), .m 49 kT, .g 50 49 false (.aq cm 2), .g 51 49 false (.load lL false 1), .d 52 49 false np [kV], .g 53 49 false (.un .not kW), .o 54 (.pick kU (.k (.bool true)) lM), .m 55 lW, .g 56 55 false (.aq cm 4), .g 57 55 false (.load nZ false 1), .d 58 55 false np [pd], .g 59 55 false (.un .not oI), .o 60 (.pick lX (.k (.bool true)) mJ)]
abbrev Q8F:AC:= .cond pT (.seq (.run [.o 2 (.mv (.k (.bool false)))]) .ret) .skip
abbrev Q8O:AC:= .cond Du (.seq (.run [.o 2 (.mv (.k (.bool false)))]) .ret) .skip
abbrev Q8T:AC:= .seq (.block 3 (.seq (.run [.o 66 (.cd qw rB 2), .o 67 (.load xA true 2), .o 7 (.alloc [(.str []),(.bool false)]), .op none none (.store cW xB 2)]) (.seq (.run [.o 68 (.aq cW 0), .o 69 (.load vC false 1), .c 70 nY [zk], .o 71 (.un .not zl)]) Q8O))) (.run [.o 72 (.bin .add rB (.k (.int .i64 1))), .m 64 Bo])
abbrev Q8X:AC:= .block 2 (.loop (.seq (.run [.o 65 (.bin .lss rB rA)]) (.seq (.cond vB .skip (.exit 2)) Q8T)))
abbrev Q92:AC:= .cond Dx (.seq (.run [.o 2 (.mv (.k (.bool false)))]) .ret) .skip
abbrev Q94:AC:= .seq (.seq (.run [.o 61 (.aq cm 1), .o 62 (.load rz false 1), .o 63 (.len qw), .o 64 (.mv (.k (.int .i64 0)))]) Q8X) (.seq (.run [.m 73 cB, .o 74 (.aq cm 3), .o 75 (.load Dv false 1), .c 76 kr [Bp,Dw,(.k (.int .i64 1))], .o 77 (.un .not Bq)]) Q92)
abbrev Q99:AC:= .seq (.block 1 (.seq (.run [.o 31 (.cd fl gb 5), .o 32 (.load gf true 5), .o 5 (.alloc [(.str []),(.slice .full 0 []),(.slice .full 0 []),(.slice .full 0 []),(.slice .full 0 [])]), .op none none (.store cm gF 5)]) (.seq (.seq Q8C Q8F) Q94))) (.run [.o 78 (.bin .add gb (.k (.int .i64 1))), .m 29 zm])
abbrev Q9D:AC:= .block 0 (.loop (.seq (.run [.o 30 (.bin .lss gb fR)]) (.seq (.cond gw .skip (.exit 0)) Q99)))
abbrev Q9H:AC:= .seq (.seq (.run [.o 26 (.aq bu 1), .o 27 (.load fk false 1), .o 28 (.len fl), .o 29 (.mv (.k (.int .i64 0)))]) Q9D) (.seq (.run [.o 2 (.mv (.k (.bool true)))]) .ret)
abbrev Q9J:AC:= .seq (.seq (.run [.o 8 (.aq bu 0), .o 9 (.load de false 1), .o 10 (.len dq), .o 11 (.bin .gtr cf (.k (.int .i64 16))), .m 12 cH, .g 13 12 false (.aq bu 1), .g 14 12 false (.load c6 false 1), .g 15 12 false (.len cO), .g 16 12 false (.bin .gtr dC (.k (.int .i64 16))), .o 17 (.pick cT (.k (.bool true)) dc), .m 18 dE, .g 19 18 false (.aq bu 0), .g 20 18 false (.load dV false 1), .d 21 18 false np [ej], .g 22 18 false (.un .not dW), .o 23 (.pick dA (.k (.bool true)) ew)]) Q85) (.seq (.run [.o 24 (.build [(.int .i64 0)] []), .o 25 (.box eR), .m 3 eU]) Q9H)
abbrev Q9K:AC:= .seq (.run [.o 1 (.box bt), .o 2 (.mv (.k (.bool false)))]) Q9J
open Go.Proofs
theorem mw:Has Tryz.prog vu 51 [(8,none)] Q0P:=⟨Tryz.f6,by kernel_rfl,by kernel_rfl⟩
set_option maxRecDepth 20000 in
theorem HC : Has Tryz.prog xn 56 [(0, none)] Q0V := ⟨Tryz.f15, by kernel_rfl, by kernel_rfl⟩
theorem HD:Has Tryz.prog xo 61 [(2,none)] Q1V:=⟨Tryz.f16,by kernel_rfl,by kernel_rfl⟩
theorem uP:Has Tryz.prog sn 131 [(8,(some (true,5))),(9,none)] Q42:=⟨Tryz.f17,by kernel_rfl,by kernel_rfl⟩
theorem HE:Has Tryz.prog sM 7 [(2,none)] Q46:=⟨Tryz.f20,by kernel_rfl,by kernel_rfl⟩
theorem Ev:Has Tryz.prog tU 22 [(6,none)] Q4A:=⟨Tryz.f21,by kernel_rfl,by kernel_rfl⟩
theorem Ew:Has Tryz.prog tV 19 [(6,(some (true,5)))] Q4G:=⟨Tryz.f22,by kernel_rfl,by kernel_rfl⟩
theorem uD:Has Tryz.prog rh 42 [(4,none)] Q59:=⟨Tryz.f24,by kernel_rfl,by kernel_rfl⟩
theorem Ey:Has Tryz.prog tW 31 [(4,none)] Q5D:=⟨Tryz.f25,by kernel_rfl,by kernel_rfl⟩
theorem Jx:Has Tryz.prog zc 33 [(4,none)] Q6F:=⟨Tryz.f26,by kernel_rfl,by kernel_rfl⟩
theorem vD:Has Tryz.prog lz 26 [(4,none)] Q78:=⟨Tryz.f28,by kernel_rfl,by kernel_rfl⟩
theorem Dz:Has Tryz.prog nn 5 [(2,none)] Q7C:=⟨Tryz.f29,by kernel_rfl,by kernel_rfl⟩
theorem Jy:Has Tryz.prog ze 32 [(4,none)] Q80:=⟨Tryz.f33,by kernel_rfl,by kernel_rfl⟩
theorem Jz:Has Tryz.prog ri 79 [(2,none)] Q9K:=⟨Tryz.f36,by kernel_rfl,by kernel_rfl⟩
end Go.Abs
