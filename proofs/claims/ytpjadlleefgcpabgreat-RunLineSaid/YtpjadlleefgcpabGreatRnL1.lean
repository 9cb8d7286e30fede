/-
  What is proved here: part 1 of the road to the claim (Frame, Frame2, Walk, Par, Par1, Par2, Par3, Step, Wp, Types, Mir, MirLex, MirTree, MirMay, Swap0, Nums, Codes0, Have0).
  No conditions.
-/
import Derived.Test.YtpjadlleefgcpabGreatRnL0
import Derived.Attr
import Derived.Test.YtpjadlleefgcpabGreatProg
import Derived.KernelRfl

set_option linter.unusedSimpArgs false
set_option linter.unusedVariables false
namespace Go.Abs
def Tag.ok (m:Nat):Tag→Bool
 | .tok t _=>decide (t<m)
 |_=>true
def Tag.cJ (ts:List Nat):Tag→Tag
 | .tok t y=>match ts[t]? with|some t'=> .tok t' y|none=> .shared
 |g=>g
mutual
def D.ok (n m:Nat):D→Bool
 | .ptr o _=>decide (o<n)
 | .dN row _=>D.bK n m row
 | .slice g _ rows=>g.ok m && D.jd n m rows
 | .agg cs=>D.bK n m cs
 | .tuple ds=>D.bK n m ds
 | .fS _ o=>decide (o<n)
 | .ie _ cs=>D.bK n m cs
 | .gR o=>decide (o<n)
 | .dD _ o _ _=>decide (o<n)
 | .fU o _ _=>decide (o<n)
 |_=>true
def D.bK (n m:Nat):List D→Bool
 | []=>true
 |d::r=>D.ok n m d && D.bK n m r
def D.jd (n m:Nat):List (List D)→Bool
 | []=>true
 |d::r=>D.bK n m d && D.jd n m r
end
mutual
def D.cJ (os ts:List Nat):D→D
 | .ptr o off=>match os[o]? with|some o'=> .ptr o' off|none=> .junk
 | .dN row off=> .dN (D.eQ os ts row) off
 | .slice g z rows=> .slice (g.cJ ts) z (D.o3 os ts rows)
 | .agg cs=> .agg (D.eQ os ts cs)
 | .tuple ds=> .tuple (D.eQ os ts ds)
 | .junk=> .junk
 | .int k x=> .int k x
 | .bool b=> .bool b
 | .str l=> .str l
 | .eI=> .eI
 | .val v=> .val v
 | .fS T o=>match os[o]? with|some o'=> .fS T o'|none=> .junk
 | .ie f cs=> .ie f (D.eQ os ts cs)
 | .gR o=>match os[o]? with|some o'=> .gR o'|none=> .junk
 | .dD z o g len=>match os[o]? with|some o'=> .dD z o' g len|none=> .junk
 | .fU o g off=>match os[o]? with|some o'=> .fU o' g off|none=> .junk
 | .eW z=> .eW z
def D.eQ (os ts:List Nat):List D→List D
 | []=> []
 |d::r=>D.cJ os ts d::D.eQ os ts r
def D.o3 (os ts:List Nat):List (List D)→List (List D)
 | []=> []
 |d::r=>D.eQ os ts d::D.o3 os ts r
end
theorem gK (os ts:List Nat) : ∀ l,D.eQ os ts l=l.map (D.cJ os ts)
 | []=>by simp[D.eQ]
 |d::r=>by simp[D.eQ,gK os ts r]
theorem Ec (os ts:List Nat) : ∀ l,D.o3 os ts l=l.map (D.eQ os ts)
 | []=>by simp[D.o3]
 |d::r=>by simp[D.o3,Ec os ts r]
theorem Al (n m:Nat) : ∀ l,D.bK n m l=l.all (D.ok n m)
 | []=>by simp[D.bK]
 |d::r=>by simp[D.bK,Al n m r]
theorem GN (n m:Nat) : ∀ l,D.jd n m l=l.all (D.bK n m)
 | []=>by simp[D.jd]
 |d::r=>by simp[D.jd,GN n m r]
theorem xn {n m:Nat} {l:List D} (h:D.bK n m l=true) {i:Nat} {d:D} (e:l[i]? = some d):D.ok n m d=true:=by
 rw[Al]at h;exact List.all_eq_true.1 h d (List.mem_of_getElem? e)
theorem acv {n m:Nat} {l:List (List D)} (h:D.jd n m l=true) {i:Nat} {d:List D} (e:l[i]? = some d):D.bK n m d=true:=by
 rw[GN]at h;exact List.all_eq_true.1 h d (List.mem_of_getElem? e)
section
variable {M M0:Map} {s s0:St} {os ts:List Nat}
theorem jB.Bm (lL : ∀ (i:Nat) t,ts[i]? = some t→M0.be i=M.be t) (ht : ∀ (i t:Nat),ts[i]? = some t→s0.ay[i]? = s.ay[t]?) (hlen:s0.ay.length=ts.length) {g:Tag} {z len cap:Nat} {base:Option (Nat×Nat)} (pT:g.ok ts.length=true) (h:jB M s (g.cJ ts) z len base cap):jB M0 s0 g z len base cap:=by
 cases g with
 |full=>exact h
 |shared=>exact h
 |tok t y=>
  have hD:t<ts.length:=by simpa[Tag.ok]using pT
  have e:ts[t]? = some ts[t]:=List.getElem?_eq_getElem hD
  simp only[Tag.cJ,e]at h
  obtain⟨h1,h2⟩:=h
  refine⟨by omega,fun n hn=>?_⟩
  rw[ht t _ e]at hn
  rw[lL t _ e]
  exact h2 n hn
theorem RD.Bm (hG:M0.G=M.G) (jY : ∀ (i:Nat) o,os[i]? = some o→M0.loc i=M.loc o) (jS:s0.ah.length=os.length)
 (lL : ∀ (i:Nat) t,ts[i]? = some t→M0.be i=M.be t) (ht : ∀ (i t:Nat),ts[i]? = some t→s0.ay[i]? = s.ay[t]?) (hlen:s0.ay.length=ts.length) {d:D} {v:Value} (h:RD M s d v) :
 ∀ d0:D,d0.cJ os ts=d→d0.ok os.length ts.length=true→RD M0 s0 d0 v:=by
 have n9 : ∀ (i:Nat) o,os[i]? = some o→M0.mu i=M.mu o:=fun i o h=>congrArg Prod.fst (jY i o h)
 have tag:=fun {g z len cap base}=>@jB.Bm M M0 s s0 ts lL ht hlen g z len cap base
 induction h with
 | junk v=>
  intro d0 e ok
  cases d0<;>simp only[D.cJ]at e<;>try (cases e;done)
  ·exact .junk v
  ·rename_i o off
   have hD:o<os.length:=by simpa[D.ok]using ok
   rw[List.getElem?_eq_getElem hD]at e;cases e
  ·rename_i T o
   have hD:o<os.length:=by simpa[D.ok]using ok
   rw[List.getElem?_eq_getElem hD]at e;cases e
  ·rename_i o
   have hD:o<os.length:=by simpa[D.ok]using ok
   rw[List.getElem?_eq_getElem hD]at e;cases e
  ·rename_i z o g len
   have hD:o<os.length:=by simpa[D.ok]using ok
   rw[List.getElem?_eq_getElem hD]at e;cases e
  ·rename_i o g off
   have hD:o<os.length:=by simpa[D.ok]using ok
   rw[List.getElem?_eq_getElem hD]at e;cases e
 |eW z a=>intro d0 e ok;cases d0<;>simp only[D.cJ]at e<;>first|(cases e;exact .eW _ _)|(split at e<;>cases e)|cases e
 |dD z o g len b cap A ho hm ha hl=>
  intro d0 e ok
  cases d0<;>simp only[D.cJ]at e<;>first|(cases e;done)|skip
  all_goals try (split at e<;>cases e;done)
  rename_i z0 o0 g0 Rk
  have hD:o0<os.length:=by simpa[D.ok]using ok
  rw[List.getElem?_eq_getElem hD]at e
  cases e
  exact RD.dD (s:=s0) z o0 g len b cap A (by omega) ((congrArg Prod.snd (jY o0 _ (List.getElem?_eq_getElem hD))).trans hm) ha hl
 |fU z o g off b cap A ho hm ha=>
  intro d0 e ok
  cases d0<;>simp only[D.cJ]at e<;>first|(cases e;done)|skip
  all_goals try (split at e<;>cases e;done)
  rename_i o0 g0 XW
  have hD:o0<os.length:=by simpa[D.ok]using ok
  rw[List.getElem?_eq_getElem hD]at e
  cases e
  exact RD.fU (s:=s0) z o0 g off b cap A (by omega) ((congrArg Prod.snd (jY o0 _ (List.getElem?_eq_getElem hD))).trans hm) ha
 |val v hv=>intro d0 e ok;cases d0<;>simp only[D.cJ]at e<;>first|(cases e;exact .val _ hv)|(split at e<;>cases e)|cases e
 |fS T o v ho ht hv=>
  intro d0 e ok
  cases d0<;>simp only[D.cJ]at e<;>first|(split at e<;>cases e;done)|skip
  all_goals try (cases e;done)
  rename_i T0 o0
  have hD:o0<os.length:=by simpa[D.ok]using ok
  rw[List.getElem?_eq_getElem hD]at e
  cases e
  have hl:=jY o0 _ (List.getElem?_eq_getElem hD)
  exact .fS _ o0 v (by omega) ((congrArg (fun x=>x.2.ty?) hl).trans ht) (by rw[n9 o0 _ (List.getElem?_eq_getElem hD)];exact hv)
 |int k x=>intro d0 e ok;cases d0<;>simp only[D.cJ]at e<;>first|(cases e;exact .int _ _)|(split at e<;>cases e)|cases e
 |bool b=>intro d0 e ok;cases d0<;>simp only[D.cJ]at e<;>first|(cases e;exact .bool _)|(split at e<;>cases e)|cases e
 |str l=>intro d0 e ok;cases d0<;>simp only[D.cJ]at e<;>first|(cases e;exact .str _)|(split at e<;>cases e)|cases e
 |eI=>intro d0 e ok;cases d0<;>simp only[D.cJ]at e<;>first|(cases e;exact .eI)|(split at e<;>cases e)|cases e
 |gR o ho hm=>
  intro d0 e ok
  cases d0<;>simp only[D.cJ]at e<;>first|(cases e;done)|skip
  all_goals try (split at e<;>cases e;done)
  rename_i o0
  have hD:o0<os.length:=by simpa[D.ok]using ok
  rw[List.getElem?_eq_getElem hD]at e
  cases e
  rw[← n9 o0 _ (List.getElem?_eq_getElem hD)]
  exact RD.gR (s:=s0) o0 (by omega) ((congrArg Prod.snd (jY o0 _ (List.getElem?_eq_getElem hD))).trans hm)
 |ie f ds vs hl _ ih=>
  intro d0 e ok
  cases d0<;>simp only[D.cJ]at e<;>first|(split at e<;>cases e;done)|skip
  all_goals try (cases e;done)
  rename_i f0 UY
  simp only[D.ie.injEq]at e
  obtain⟨rfl,rfl⟩:=e
  simp only[D.ok]at ok
  rw[gK]at hl ih
  refine .ie _ UY vs (by simpa using hl) (fun i d v e1 e2=>ih i _ v (by rw[List.getElem?_map,e1];rfl) e2 d rfl (xn ok e1))
 |ptr o off ho hm=>
  intro d0 e ok
  cases d0<;>simp only[D.cJ]at e<;>first|(cases e;done)|skip
  all_goals try (split at e<;>cases e;done)
  rename_i o0 XW
  have hD:o0<os.length:=by simpa[D.ok]using ok
  rw[List.getElem?_eq_getElem hD]at e
  cases e
  rw[← n9 o0 _ (List.getElem?_eq_getElem hD)]
  exact RD.ptr (s:=s0) o0 _ (by omega) (by rw[show M0.ob o0=_ from congrArg Prod.snd (jY o0 _ (List.getElem?_eq_getElem hD))];exact hm)
 |dN row off b k h1 h2 ih=>
  intro d0 e ok
  cases d0<;>simp only[D.cJ]at e<;>first|(split at e<;>cases e;done)|skip
  all_goals try (cases e;done)
  rename_i anH XW
  simp only[D.dN.injEq]at e
  obtain⟨rfl,rfl⟩:=e
  simp only[D.ok]at ok
  rw[gK]at h1 ih
  refine .dN anH XW b k (fun i d e=>?_) (fun i d u e eu=>?_)
  ·rw[hG];exact h1 i _ (by rw[List.getElem?_map,e];rfl)
  ·rw[hG]at eu;exact ih i _ u (by rw[List.getElem?_map,e];rfl) eu d rfl (xn ok e)
 |jy g z cap hc qW=>
  intro d0 e ok
  cases d0<;>simp only[D.cJ]at e<;>first|(split at e<;>cases e;done)|skip
  all_goals try (cases e;done)
  rename_i g0 z0 lb
  simp only[D.slice.injEq]at e
  obtain⟨rfl,rfl,e⟩:=e
  have:lb = []:=by cases lb<;>simp[D.o3]at e;rfl
  subst this
  simp only[D.ok,Bool.and_eq_true]at ok
  exact .jy g0 z0 cap hc (tag ok.1 qW)
 | mD z a cap=>
  intro d0 e ok
  cases d0<;>simp only[D.cJ]at e<;>first|(split at e<;>cases e;done)|skip
  all_goals try (cases e;done)
  rename_i g0 z0 lb
  simp only[D.slice.injEq]at e
  obtain⟨hg,rfl,e⟩:=e
  have:lb = []:=by cases lb<;>simp[D.o3]at e;rfl
  subst this
  simp only[D.ok,Bool.and_eq_true]at ok
  have:g0 = .shared:=by
   cases g0 with
   |tok t y=>
    have ht:t<ts.length:=by simpa[Tag.ok]using ok.1
    simp[Tag.cJ,ht]at hg
   |shared=>rfl
   |_=>simp[Tag.cJ]at hg
  subst this
  exact .mD _ a cap
 | slice g z rows b k cap hl hs h1 h2 qW ih=>
  intro d0 e ok
  cases d0<;>simp only[D.cJ]at e<;>first|(split at e<;>cases e;done)|skip
  all_goals try (cases e;done)
  rename_i g0 z0 lb
  simp only[D.slice.injEq]at e
  obtain⟨rfl,rfl,rfl⟩:=e
  simp only[D.ok,Bool.and_eq_true]at ok
  rw[Ec]at hl hs h1 ih qW
  simp only[Ec,List.length_map]at hl qW ⊢
  have er : ∀ (i:Nat) (row:List D),lb[i]? = some row→(lb.map (D.eQ os ts))[i]? = some (D.eQ os ts row):=fun i row e=>by rw[List.getElem?_map,e];rfl
  have ix : ∀ (row:List D) (j:Nat) (d:D),row[j]? = some d→(D.eQ os ts row)[j]? = some (D.cJ os ts d):=fun row j d e=>by rw[gK,List.getElem?_map,e];rfl
  refine .slice g0 z0 lb b k cap hl (fun row hr=>?_) (fun i row j d e1 e2=>?_) (fun i row j d u e1 e2 eu=>?_) (tag ok.1 qW)
  ·have:=hs (D.eQ os ts row) (List.mem_map.2 ⟨row,hr,rfl⟩)
   rwa [gK,List.length_map]at this
  ·rw[hG];exact h1 i _ j _ (er i row e1) (ix row j d e2)
  ·rw[hG]at eu;exact ih i _ j _ u (er i row e1) (ix row j d e2) eu d rfl (xn (acv ok.2 e1) e2)
 |agg cells vs hl h1 _ ih=>
  intro d0 e ok
  cases d0<;>simp only[D.cJ]at e<;>first|(split at e<;>cases e;done)|skip
  all_goals try (cases e;done)
  rename_i UY
  simp only[D.agg.injEq]at e
  subst e
  simp only[D.ok]at ok
  rw[gK]at hl ih
  refine .agg UY vs (by simpa using hl) h1 (fun i d v e1 e2=>ih i _ v (by rw[List.getElem?_map,e1];rfl) e2 d rfl (xn ok e1))
 |tuple ds vs hl _ ih=>
  intro d0 e ok
  cases d0<;>simp only[D.cJ]at e<;>first|(split at e<;>cases e;done)|skip
  all_goals try (cases e;done)
  rename_i UY
  simp only[D.tuple.injEq]at e
  subst e
  simp only[D.ok]at ok
  rw[gK]at hl ih
  refine .tuple UY vs (by simpa using hl) (fun i d v e1 e2=>ih i _ v (by rw[List.getElem?_map,e1];rfl) e2 d rfl (xn ok e1))
theorem RD.cJ (hG:M0.G=M.G) (jY : ∀ i,i<s0.ah.length→∃ o,os[i]? = some o∧o<s.ah.length∧M.loc o=M0.loc i)
 (lL : ∀ i,i<s0.ay.length→∃ t,ts[i]? = some t∧t<s.ay.length∧s.ay[t]? = s0.ay[i]? ∧M.be t=M0.be i) {d:D} {v:Value} (h:RD M0 s0 d v):RD M s (d.cJ os ts) v:=by
 have tag : ∀ {g:Tag} {z len cap:Nat} {base:Option (Nat×Nat)},jB M0 s0 g z len base cap→jB M s (g.cJ ts) z len base cap:=by
  intro g z len cap base h
  cases g with
  |full=>exact h
  |shared=>exact h
  |tok t y=>
   obtain⟨h1,h2⟩:=h
   obtain⟨t',e,hD,L9,hb⟩:=lL t h1
   simp only[Tag.cJ,e]
   refine⟨hD,fun n hn=>?_⟩
   rw[hb]
   exact h2 n (L9 ▸ hn)
 induction h with
 |junk v=>simp only[D.cJ];exact .junk v
 |int k x=>simp only[D.cJ];exact .int k x
 |bool b=>simp only[D.cJ];exact .bool b
 |str l=>simp only[D.cJ];exact .str l
 |eI=>simp only[D.cJ];exact .eI
 |ptr o off ho hk=>
  obtain⟨o',e,hD,hm⟩:=jY o ho
  simp only[D.cJ,e]
  have hb:M.ob o'=M0.ob o:=congrArg Prod.snd hm
  have hm:M.mu o'=M0.mu o:=congrArg Prod.fst hm
  rw[← hm]
  exact .ptr o' off hD (by rw[hb];exact hk)
 |gR o ho hk=>
  obtain⟨o',e,hD,hm⟩:=jY o ho
  simp only[D.cJ,e]
  have hb:M.ob o'=M0.ob o:=congrArg Prod.snd hm
  have hm:M.mu o'=M0.mu o:=congrArg Prod.fst hm
  rw[← hm]
  exact .gR o' hD (by rw[hb];exact hk)
 |eW z a=>simp only[D.cJ];exact .eW z a
 |dD z o g len b cap A ho hk ha hl=>
  obtain⟨o',e,hD,hm⟩:=jY o ho
  simp only[D.cJ,e]
  exact .dD z o' g len b cap A hD ((congrArg Prod.snd hm).trans hk) ha hl
 |fU z o g off b cap A ho hk ha=>
  obtain⟨o',e,hD,hm⟩:=jY o ho
  simp only[D.cJ,e]
  exact .fU z o' g off b cap A hD ((congrArg Prod.snd hm).trans hk) ha
 |ie f ds vs hl _ ih=>
  simp only[D.cJ,gK]
  refine .ie f _ vs (by simpa using hl) (fun i d v e1 e2=>?_)
  simp only[List.getElem?_map,Option.map_eq_some_iff]at e1
  obtain⟨d',e1,rfl⟩:=e1
  exact ih i d' v e1 e2
 |val v hv=>simp only[D.cJ];exact .val v hv
 |fS T o v ho ht hv=>
  obtain⟨o',e,hD,hm⟩:=jY o ho
  simp only[D.cJ,e]
  have h1:M.mu o'=M0.mu o:=congrArg Prod.fst hm
  have h2:M.ty o'=M0.ty o:=congrArg (fun x=>x.2.ty?) hm
  exact .fS T o' v hD (by rw[h2];exact ht) (by rw[h1];exact hv)
 | dN row off b k h1 h2 ih=>
  simp only[D.cJ,gK]
  refine .dN _ off b k (fun i d e=>?_) (fun i d u e eu=>?_)
  ·simp only [List.getElem?_map,Option.map_eq_some_iff]at e
   obtain⟨d',e,rfl⟩:=e
   rw[← hG];exact h1 i d' e
  ·simp only [List.getElem?_map,Option.map_eq_some_iff]at e
   obtain⟨d',e,rfl⟩:=e
   rw[← hG]at eu;exact ih i d' u e eu
 |jy g z cap hc ht=>simp only[D.cJ,D.o3];exact .jy _ z cap hc (tag ht)
 |mD z a cap=>simp only[D.cJ,D.o3,Tag.cJ];exact .mD z a cap
 | slice g z rows b k cap hl hs h1 h2 ht ih=>
  simp only[D.cJ,Ec]
  have hlen:(rows.map (D.eQ os ts)).length=rows.length:=by simp
  have key:=RD.slice (M:=M) (s:=s) (g.cJ ts) z (rows.map (D.eQ os ts)) b k cap (by rw[hlen];exact hl) (fun row hr=>by
   obtain⟨lh,h',rfl⟩:=List.mem_map.1 hr
   rw[gK,List.length_map];exact hs lh h')
   (fun i row j d e1 e2=>by
    simp only[List.getElem?_map,Option.map_eq_some_iff]at e1
    obtain⟨lh,e1,rfl⟩:=e1
    rw[gK]at e2
    simp only[List.getElem?_map,Option.map_eq_some_iff]at e2
    obtain⟨d',e2,rfl⟩:=e2
    rw[← hG];exact h1 i lh j d' e1 e2)
   (fun i row j d u e1 e2 eu=>by
    simp only[List.getElem?_map,Option.map_eq_some_iff]at e1
    obtain⟨lh,e1,rfl⟩:=e1
    rw[gK]at e2
    simp only[List.getElem?_map,Option.map_eq_some_iff]at e2
    obtain⟨d',e2,rfl⟩:=e2
    rw[← hG]at eu;exact ih i lh j d' u e1 e2 eu)
   (by rw[hlen];exact tag ht)
  rw[hlen]at key
  exact key
 |agg cells vs hl h1 _ ih=>
  simp only[D.cJ,gK]
  refine .agg _ vs (by simpa using hl) h1 (fun i d v e1 e2=>?_)
  simp only[List.getElem?_map,Option.map_eq_some_iff]at e1
  obtain⟨d',e1,rfl⟩:=e1
  exact ih i d' v e1 e2
 |tuple ds vs hl _ ih=>
  simp only[D.cJ,gK]
  refine .tuple _ vs (by simpa using hl) (fun i d v e1 e2=>?_)
  simp only[List.getElem?_map,Option.map_eq_some_iff]at e1
  obtain⟨d',e1,rfl⟩:=e1
  exact ih i d' v e1 e2
def lk {α:Type} : List Nat→List α→List α→List α
 | [],new,l=>l++new
 |_::_,[],l=>l
 |o::os,x::xs,l=>lk os xs (l.set o x)
def kv (os:List Nat) (n k:Nat):List Nat:=os++(List.range k).map (n + ·)
theorem zf {α:Type} : ∀ (os:List Nat) (xs l:List α),os.length≤xs.length→(lk os xs l).length=l.length+(xs.length - os.length)
 | [],xs,l,_=>by simp[lk]
 |o::os,[],l,h=>by simp at h
 |o::os,x::xs,l,h=>by
  simp only[lk]
  rw[zf os xs _ (by simpa using h)]
  simp
theorem FD {α:Type} : ∀ (os:List Nat) (xs l:List α),os.length≤xs.length→os.Nodup→(∀ o∈os,o<l.length)→
 (∀ (i:Nat) (o:Nat),os[i]? = some o→(lk os xs l)[o]? = xs[i]?)∧(∀ o,o<l.length→o∉os→(lk os xs l)[o]? = l[o]?)∧
 (∀ k,(lk os xs l)[l.length+k]? = xs[os.length+k]?)
 | [],xs,l,_,_,_=>by
  refine⟨by simp,fun o ho _=>by simp only[lk];rw[List.getElem?_append_left ho],fun k=>by simp only[lk];rw[List.getElem?_append_right (by omega)];simp⟩
 |o::os,[],l,h,_,_=>by simp at h
 | o::os,x::xs,l,h,hn,hD=>by
  simp only[List.nodup_cons]at hn
  have B6 : ∀ q∈os,q<(l.set o x).length:=fun q hq=>by simpa using hD q (by simp[hq])
  obtain⟨h1,h2,h3⟩:=FD os xs (l.set o x) (by simpa using h) hn.2 B6
  have ho:o<l.length:=hD o (by simp)
  simp only[lk]
  refine⟨fun i q e=>?_,fun q hq Da=>?_,fun k=>?_⟩
  ·cases i with
   |zero=>
    simp only[List.getElem?_cons_zero,Option.some.injEq]at e
    subst e
    rw[h2 o (by simpa using ho) hn.1]
    simp[ho]
   |succ i=>simpa using h1 i q (by simpa using e)
  ·have vn:q≠o:=fun e=>Da (by simp [e])
   rw[h2 q (by simpa using hq) (fun h=>Da (by simp[h])),List.getElem?_set_ne (Ne.symm vn)]
  ·have:=h3 k
   simp only[List.length_set]at this
   rw[this]
   simp only[List.length_cons]
   rw[show os.length+1+k=(os.length+k)+1 by omega];simp
theorem E7 (os:List Nat) (n k i:Nat):(kv os n k)[i]? = if i<os.length then os[i]? else if i<os.length+k then some (n+(i - os.length))else none:=by
 unfold kv
 split
 ·rename_i h;rw[List.getElem?_append_left h]
 ·rename_i h
  rw[List.getElem?_append_right (by omega)]
  split
  ·rename_i h2
   rw[List.getElem?_map,List.getElem?_range (by omega)];rfl
  ·rename_i h2
   rw[List.getElem?_eq_none]
   simp;omega
def posOf:List Nat→Nat→Option Nat
 | [],_=>none
 |x::r,o=>if x=o then some 0 else(posOf r o).map (· + 1)
theorem jD : ∀ {l:List Nat} {o i:Nat},posOf l o=some i→l[i]? = some o
 | x::r,o,i,h=>by
  simp only[posOf]at h
  split at h
  ·rename_i e;cases h;simp[e]
  ·cases hp:posOf r o with
   |none=>rw[hp]at h;cases h
   |some j=>rw[hp]at h;cases h;simpa using jD hp
theorem ny : ∀ {l:List Nat} {o i:Nat},l.Nodup→l[i]? = some o→posOf l o=some i
 | x::r,o,i,hn,h=>by
  simp only[List.nodup_cons]at hn
  simp only[posOf]
  cases i with
  |zero=>simp at h;simp[h]
  |succ i=>
   simp at h
   have:x≠o:=fun e=>hn.1 (by rw[e];exact List.mem_of_getElem? h)
   rw[if_neg this,ny hn.2 h];rfl
end
end Go.Abs
namespace Go.Abs
theorem B7 {l:List Nat} {n k:Nat} (h:l.Nodup) (hl : ∀ o∈l,o<n):(kv l n k).Nodup:=by
 unfold kv
 rw[List.nodup_append]
 refine⟨h, ?_,fun a ha b hb=>?_⟩
 ·rw [List.nodup_iff_pairwise_ne,List.pairwise_map]
  exact List.Pairwise.imp (fun h=>by omega) (List.nodup_iff_pairwise_ne.1 List.nodup_range)
 ·obtain⟨c,hc,rfl⟩:=List.mem_map.1 hb
  have:=hl a ha
  omega
def gn (M:Map) (os ts:List Nat):Map:=⟨M.G,fun i=>M.loc (os.getD i 0),fun i=>M.be (ts.getD i 0)⟩
def Am (M M0:Map) (os ts:List Nat):Map:=
 ⟨M0.G,fun o=>match posOf os o with|some i=>M0.loc i|none=>M.loc o,fun t=>match posOf ts t with|some i=>M0.be i|none=>M.be t⟩
section
variable {P:Program} {M:Map} {s s0:St} {w:World} {os ts:List Nat}
theorem uq {l:List Nat} {i o:Nat} (h:l[i]? = some o):l.getD i 0=o:=by simp[List.getD,h]
theorem Rel.sub (r:Rel M s w) (tY:os.Nodup) (xo:ts.Nodup) (jS : ∀ o∈os,o<s.ah.length)
 (ho:s0.ah.length=os.length) (qj : ∀ (i o:Nat) (ds:List D),os[i]? = some o→s0.ah[i]? = some ds→s.ah[o]? = some (D.eQ os ts ds)∧D.bK os.length ts.length ds=true)
 (ht:s0.ay.length=ts.length) (vL : ∀ (i t:Nat),ts[i]? = some t→s0.ay[i]? = s.ay[t]?):Rel (gn M os ts) s0 w:=by
 have nth : ∀ i,i<s0.ah.length→∃ o,os[i]? = some o∧o<s.ah.length:=fun i hi=>⟨os[i],List.getElem?_eq_getElem (by omega),jS _ (List.getElem_mem _)⟩
 have loc : ∀ (i:Nat) o,os[i]? = some o→(gn M os ts).loc i=M.loc o:=fun i o h=>by simp only[gn,uq h]
 have mu : ∀ (i:Nat) o,os[i]? = some o→(gn M os ts).mu i=M.mu o:=fun i o h=>congrArg Prod.fst (loc i o h)
 have be : ∀ (i:Nat) t,ts[i]? = some t→(gn M os ts).be i=M.be t:=fun i t h=>by simp only[gn,uq h]
 have tth : ∀ t,s0.live t→∃ t',ts[t]? = some t'∧s.live t':=fun t ⟨n,hn⟩=>by
  have hD:=(List.getElem?_eq_some_iff.1 hn).1
  have e:ts[t]? = some ts[t]:=List.getElem?_eq_getElem (by omega)
  exact⟨_,e,n,by rw[← vL t _ e];exact hn⟩
 refine⟨r.comm,fun i ds e=>?_,fun i hi off=>?_,fun i i' hi iV e=>?_,fun t n e=>?_,fun t b c z i hl e hi=>?_,fun t t' b c z c' z' h h' e e'=>?_⟩
 ·obtain⟨o,h1,_⟩:=nth i (List.getElem?_eq_some_iff.1 e).1
  obtain⟨h2,h3⟩:=qj i o ds h1 e
  obtain⟨vs,T,g1,g2,g3,g4⟩:=r.obj o _ h2
  refine⟨vs,T,by rw[loc i o h1];exact g1,by rw[gK]at g2;simpa using g2,⟨g3.1,by rw[show(gn M os ts).ty i=M.ty o from congrArg (fun x=>x.2.ty?) (loc i o h1)];exact g3.2⟩,fun j d v e1 e2=>?_⟩
  exact RD.Bm (M:=M) (M0:=gn M os ts) (s:=s) rfl loc ho be vL ht (g4 j (d.cJ os ts) v (by rw[gK,List.getElem?_map,e1];rfl) e2) d rfl (xn h3 e1)
 ·obtain⟨o,h1,h2⟩:=nth i hi
  rw[mu i o h1];exact r.jX o h2 off
 ·obtain⟨o,h1,h2⟩:=nth i hi
  obtain⟨o',rC,wx⟩:=nth i' iV
  rw[mu i o h1,mu i' o' rC]at e
  have:=r.inj o o' h2 wx e
  subst this
  have a:=ny tY h1
  have b:=ny tY rC
  rw[a]at b;cases b;rfl
 ·obtain⟨t',h1,h2⟩:=tth t ⟨n,e⟩
  rw[be t t' h1]
  exact r.tok t' n (by rw[← vL t t' h1];exact e)
 ·obtain⟨t',h1,h2⟩:=tth t hl
  obtain⟨o,h3,h4⟩:=nth i hi
  rw[be t t' h1]at e
  rw[mu i o h3]
  exact r.fy t' b c z o h2 e h4
 ·obtain⟨q,h1,h2⟩:=tth t h
  obtain⟨q',rC,wx⟩:=tth t' h'
  rw[be t q h1]at e
  rw[be t' q' rC]at e'
  have:=r.gL q q' b c z c' z' h2 wx e e'
  subst this
  have a:=ny xo h1
  have b:=ny xo rC
  rw[a]at b;cases b;rfl
end
def St.back (s:St) (os ts:List Nat) (s':St):St:=
 ⟨lk os (s'.ah.map (D.eQ (kv os s.ah.length (s'.ah.length - os.length)) (kv ts s.ay.length (s'.ay.length - ts.length)))) s.ah,lk ts s'.ay s.ay⟩
def D.back (s:St) (os ts:List Nat) (s':St) (d:D):D:=
 d.cJ (kv os s.ah.length (s'.ah.length - os.length)) (kv ts s.ay.length (s'.ay.length - ts.length))
theorem bW.frame {P:Program} {f:FuncId} {Rm args:List D} {s s0:St} {Q0 Q:D→St→Prop} (os ts:List Nat) (h:bW P f Rm s0 Q0) (tY:os.Nodup) (xo:ts.Nodup) (jS : ∀ o∈os,o<s.ah.length) (Ac : ∀ t∈ts,t<s.ay.length)
 (ho:s0.ah.length=os.length) (qj : ∀ (i o:Nat) (ds:List D),os[i]? = some o→s0.ah[i]? = some ds→s.ah[o]? = some (D.eQ os ts ds)∧D.bK os.length ts.length ds=true)
 (ht:s0.ay.length=ts.length) (vL : ∀ (i t:Nat),ts[i]? = some t→s0.ay[i]? = s.ay[t]?)
 (Bn:args=D.eQ os ts Rm) (pT:D.bK os.length ts.length Rm=true) (k : ∀ d s',Q0 d s'→Q (d.back s os ts s') (s.back os ts s')):bW P f args s Q:=by
 intro M w gh r kD dO ha
 have r0:=r.sub tY xo jS ho qj ht vL
 have loc : ∀ (i:Nat) o,os[i]? = some o→(gn M os ts).loc i=M.loc o:=fun i o h=>by simp only[gn,uq h]
 have mu : ∀ (i:Nat) o,os[i]? = some o→(gn M os ts).mu i=M.mu o:=fun i o h=>congrArg Prod.fst (loc i o h)
 have be : ∀ (i:Nat) t,ts[i]? = some t→(gn M os ts).be i=M.be t:=fun i t h=>by simp only[gn,uq h]
 subst Bn
 have afn:Laid (gn M os ts) s0 w:=by
  intro g cs hg
  obtain⟨h1,h2,h3⟩:=kD g cs hg
  refine⟨h1,fun o hD=>?_,fun t c z hl hb=>?_⟩
  ·obtain⟨o',oO⟩ : ∃ o',os[o]? = some o':=⟨_,List.getElem?_eq_getElem (by omega)⟩
   rw[mu o o' oO]
   exact h2 o' (jS o' (List.mem_of_getElem? oO))
  ·obtain⟨n,hn⟩:=hl
   have hD:=(List.getElem?_eq_some_iff.1 hn).1
   obtain⟨t',Jr⟩ : ∃ t',ts[t]? = some t':=⟨_,List.getElem?_eq_getElem (by omega)⟩
   rw[be t t' Jr]at hb
   exact h3 t' c z ⟨n,by rw[← vL t t' Jr];exact hn⟩ hb
 have hc:=h (gn M os ts) w gh r0 afn (by rw[dO,gK,List.length_map]) (fun i d v e1 e2=>
  RD.Bm (M:=M) (M0:=gn M os ts) (s:=s) rfl loc ho be vL ht (ha i (d.cJ os ts) v (by rw[gK,List.getElem?_map,e1];rfl) e2) d rfl (xn pT e1))
 refine hc.mono ?_
 rintro en w' ⟨An,d,v,s',rfl,hq,e,r',hv⟩
 have Me:=e.le.n
 have CP:=e.le.t
 generalize Rn:kv os s.ah.length (s'.ah.length - os.length)=mU
 generalize Ro:kv ts s.ay.length (s'.ay.length - ts.length)=qk
 have nd:mU.Nodup:=by rw[← Rn];exact B7 tY jS
 have ndt:qk.Nodup:=by rw[← Ro];exact B7 xo Ac
 have Rp : ∀ i,mU[i]? = if i<os.length then os[i]? else if i<s'.ah.length then some (s.ah.length+(i - os.length))else none:=fun i=>by
  rw[← Rn,E7];split
  ·rfl
  ·rw[show os.length+(s'.ah.length - os.length)=s'.ah.length by omega]
 have Rq : ∀ i,qk[i]? = if i<ts.length then ts[i]? else if i<s'.ay.length then some (s.ay.length+(i - ts.length))else none:=fun i=>by
  rw[← Ro,E7];split
  ·rfl
  ·rw[show ts.length+(s'.ay.length - ts.length)=s'.ay.length by omega]
 have hsb:s.back os ts s' = ⟨lk os (s'.ah.map (D.eQ mU qk)) s.ah,lk ts s'.ay s.ay⟩:=by simp only[St.back,Rn,Ro]
 have hdb:d.back s os ts s'=d.cJ mU qk:=by simp only[D.back,Rn,Ro]
 have kW:=k d s' hq
 rw[hsb,hdb]at kW
 obtain⟨p1,p2,p3⟩:=FD os (s'.ah.map (D.eQ mU qk)) s.ah (by simp;omega) tY jS
 obtain⟨q1,q2,q3⟩:=FD ts s'.ay s.ay (by omega) xo Ac
 have Mk:=zf os (s'.ah.map (D.eQ mU qk)) s.ah (by simp;omega)
 have Ml:=zf ts s'.ay s.ay (by omega)
 simp only[List.length_map]at Mk
 generalize sQ:(⟨lk os (s'.ah.map (D.eQ mU qk)) s.ah,lk ts s'.ay s.ay⟩:St)=s2 at kW
 have so:s2.ah=lk os (s'.ah.map (D.eQ mU qk)) s.ah:=by rw[← sQ]
 have st:s2.ay=lk ts s'.ay s.ay:=by rw[← sQ]
 -- the framed objects
 have fo : ∀ (i o:Nat),mU[i]? = some o→o<s2.ah.length∧s2.ah[o]? = (s'.ah[i]?).map (D.eQ mU qk)∧i<s'.ah.length∧(i<os.length→o<s.ah.length∧os[i]? = some o)∧(os.length≤i→s.ah.length≤o):=by
  intro i o hi
  rw[Rp]at hi
  split at hi
  ·rename_i h1
   have hD:=jS o (List.mem_of_getElem? hi)
   refine⟨by rw[so,Mk];omega,by rw[so,p1 i o hi,List.getElem?_map],by omega,fun _=>⟨hD,hi⟩,fun h=>by omega⟩
  ·split at hi
   ·rename_i h1 h2
    cases hi
    refine⟨by rw[so,Mk];omega, ?_,h2,fun h=>by omega,fun _=>by omega⟩
    rw[so,p3,List.getElem?_map,show os.length+(i - os.length)=i by omega]
   ·cases hi
 have ft : ∀ (i t:Nat),qk[i]? = some t→t<s2.ay.length∧s2.ay[t]? = s'.ay[i]? ∧i<s'.ay.length∧(i<ts.length→t<s.ay.length∧ts[i]? = some t)∧(ts.length≤i→s.ay.length≤t):=by
  intro i t hi
  rw[Rq]at hi
  split at hi
  ·rename_i h1
   have hD:=Ac t (List.mem_of_getElem? hi)
   refine⟨by rw[st,Ml];omega,by rw[st,q1 i t hi],by omega,fun _=>⟨hD,hi⟩,fun h=>by omega⟩
  ·split at hi
   ·rename_i h1 h2
    cases hi
    refine⟨by rw[st,Ml];omega, ?_,h2,fun h=>by omega,fun _=>by omega⟩
    rw[st,q3,show ts.length+(i - ts.length)=i by omega]
   ·cases hi
 -- all others
 have uo : ∀ o,o<s2.ah.length→posOf mU o=none→o<s.ah.length∧o∉os∧s2.ah[o]? = s.ah[o]? :=by
  intro o hD hp
  have o4 : ∀ i,mU[i]? ≠some o:=fun i hi=>by rw[ny nd hi]at hp;cases hp
  have h1:o<s.ah.length:=by
   rcases Nat.lt_or_ge o s.ah.length with h|h
   ·exact h
   ·exfalso
    rw[so,Mk]at hD
    refine o4 (os.length+(o - s.ah.length)) ?_
    rw[Rp,if_neg (by omega),if_pos (by omega)]
    congr 1;omega
  have h2:o∉os:=fun hm=>by
   obtain⟨i,hi⟩:=List.mem_iff_getElem?.1 hm
   have sw:=(List.getElem?_eq_some_iff.1 hi).1
   exact o4 i (by rw[Rp,if_pos sw];exact hi)
  exact⟨h1,h2,by rw[so,p2 o h1 h2]⟩
 have ut : ∀ t,t<s2.ay.length→posOf qk t=none→t<s.ay.length∧t∉ts∧s2.ay[t]? = s.ay[t]? :=by
  intro t hD hp
  have o4 : ∀ i,qk[i]? ≠some t:=fun i hi=>by rw[ny ndt hi]at hp;cases hp
  have h1:t<s.ay.length:=by
   rcases Nat.lt_or_ge t s.ay.length with h|h
   ·exact h
   ·exfalso
    rw[st,Ml]at hD
    refine o4 (ts.length+(t - s.ay.length)) ?_
    rw[Rq,if_neg (by omega),if_pos (by omega)]
    congr 1;omega
  have h2:t∉ts:=fun hm=>by
   obtain⟨i,hi⟩:=List.mem_iff_getElem?.1 hm
   have sw:=(List.getElem?_eq_some_iff.1 hi).1
   exact o4 i (by rw[Rq,if_pos sw];exact hi)
  exact⟨h1,h2,by rw[st,q2 t h1 h2]⟩
 generalize U0:Am M An mU qk=M2
 have mG:An.G=M2.G:=by rw[← U0];rfl
 have lo : ∀ (i o:Nat),mU[i]? = some o→M2.loc o=An.loc i:=fun i o hi=>by rw[← U0];simp only[Am,ny nd hi]
 have lo0 : ∀ o,posOf mU o=none→M2.loc o=M.loc o:=fun o hp=>by rw[← U0];simp only[Am,hp]
 have mo : ∀ (i o:Nat),mU[i]? = some o→M2.mu o=An.mu i:=fun i o hi=>congrArg Prod.fst (lo i o hi)
 have Mm : ∀ o,posOf mU o=none→M2.mu o=M.mu o:=fun o hp=>congrArg Prod.fst (lo0 o hp)
 have mt : ∀ (i t:Nat),qk[i]? = some t→M2.be t=An.be i:=fun i t hi=>by rw[← U0];simp only[Am,ny ndt hi]
 have Mn : ∀ t,posOf qk t=none→M2.be t=M.be t:=fun t hp=>by rw[← U0];simp only[Am,hp]
 have le:Le M s M2 s2:=by
  refine⟨fun b o v hg=>by rw[← mG];exact e.le.G b o v hg,by rw[so,Mk];omega,fun o hD=>?_,by rw[st,Ml];omega,fun t n' hD sR=>?_⟩
  ·cases hp:posOf mU o with
   |none=>rw[lo0 o hp];exact .refl _
   | some i=>
    have hi:=jD hp
    rw[lo i o hi]
    obtain⟨_,_,_,h1,h2⟩:=fo i o hi
    have sw:i<os.length:=by
     rcases Nat.lt_or_ge i os.length with h|h
     ·exact h
     ·have:=h2 h;omega
    have h3:=e.le.loc i (by omega)
    rw[loc i o (h1 sw).2]at h3
    exact h3
  ·cases hp:posOf qk t with
   |none=>
    obtain⟨_,_,h3⟩:=ut t (by rw[st,Ml];omega) hp
    rw[h3]at sR
    exact⟨n',sR,Nat.le_refl _,fun _=>Mn t hp⟩
   | some i=>
    have hi:=jD hp
    obtain⟨_,g1,_,h1,h2⟩:=ft i t hi
    have sw:i<ts.length:=by
     rcases Nat.lt_or_ge i ts.length with h|h
     ·exact h
     ·have:=h2 h;omega
    rw[g1]at sR
    obtain⟨n,h3,h4,h5⟩:=e.le.tk i n' (by omega) sR
    refine⟨n,by rw[← vL i t (h1 sw).2];exact h3,h4,fun eq=>?_⟩
    rw[mt i t hi,h5 eq,be i t (h1 sw).2]
 have afo : ∀ {d:D} {v:Value},RD An s' d v→RD M2 s2 (d.cJ mU qk) v:=fun hd=>RD.cJ mG
  (fun i hi=>by
   obtain⟨o,ho⟩ : ∃ o,mU[i]? = some o:=by
    rw[Rp];split
    ·rename_i h1;exact⟨_,List.getElem?_eq_getElem h1⟩
    ·exact⟨_,rfl⟩
   exact⟨o,ho,(fo i o ho).1,lo i o ho⟩)
  (fun i hi=>by
   obtain⟨t,ht⟩ : ∃ t,qk[i]? = some t:=by
    rw[Rq];split
    ·rename_i h1;exact⟨_,List.getElem?_eq_getElem h1⟩
    ·exact⟨_,rfl⟩
   exact⟨t,ht,(ft i t ht).1,(ft i t ht).2.1,mt i t ht⟩) hd
 -- blocks that the callee did not know
 have K3 : ∀ i,s0.live i→∃ t,ts[i]? = some t∧s.live t:=fun i ⟨n,hn⟩=>by
  have hD:=(List.getElem?_eq_some_iff.1 hn).1
  have e1:ts[i]? = some ts[i]:=List.getElem?_eq_getElem (by omega)
  exact⟨_,e1,n,by rw[← vL i _ e1];exact hn⟩
 have Rr : ∀ b,b<w.heap.size→(∀ (i o:Nat),os[i]? = some o→M.mu o≠b)→(∀ (i t:Nat) c z,ts[i]? = some t→s.live t→M.be t≠some (b,c,z))→
  w'.heap[b]? = w.heap[b]? ∧∀ off,An.G b off=M.G b off:=by
  intro b hb h1 h2
  refine⟨e.kept b hb (fun i hi=>?_) (fun i c z hl=>?_),fun off=>?_⟩
  ·have e1:os[i]? = some os[i]:=List.getElem?_eq_getElem (by omega)
   rw[mu i _ e1];exact h1 i _ e1
  ·obtain⟨t,e1,hD⟩:=K3 i hl
   rw[be i t e1];exact h2 i t c z e1 hD
  ·apply Classical.byContradiction
   intro fm
   rcases e.rZ b off fm with h3|⟨i,c,z,hl,h3⟩
   ·omega
   ·obtain⟨t,e1,hD⟩:=K3 i hl
    rw[be i t e1]at h3
    exact h2 i t c z e1 hD h3
 have aaL : ∀ o,o<s.ah.length→o∉os→w'.heap[M.mu o]? = w.heap[M.mu o]? ∧∀ off,An.G (M.mu o) off=M.G (M.mu o) off:=fun o hD o4=>
  Rr _ (r.rM hD) (fun i o' h1 h2=>o4 (by rw[← r.inj o' o (jS o' (List.mem_of_getElem? h1)) hD h2];exact List.mem_of_getElem? h1))
   (fun i t c z _ hl h2=>r.fy t _ c z o hl h2 hD rfl)
 have ajB : ∀ t b c z,s.live t→t∉ts→M.be t=some (b,c,z)→w'.heap[b]? = w.heap[b]? ∧∀ off,An.G b off=M.G b off:=fun t b c z hl o4 hb=>
  Rr b (r.uO hl hb) (fun i o h1=>r.fy t b c z o hl hb (jS o (List.mem_of_getElem? h1)))
   (fun i t' c' z' h1 oc h2=>o4 (by rw[r.gL t t' b c z c' z' hl oc hb h2];exact List.mem_of_getElem? h1))
 have lv : ∀ t,s2.live t→(∃ i,qk[i]? = some t∧s'.live i)∨(posOf qk t=none∧s.live t∧t∉ts):=by
  rintro t ⟨n,hn⟩
  cases hp:posOf qk t with
  |none=>
   obtain⟨h1,h2,h3⟩:=ut t (List.getElem?_eq_some_iff.1 hn).1 hp
   exact .inr ⟨rfl,⟨n,by rw[← h3];exact hn⟩,h2⟩
  |some i=>
   have hi:=jD hp
   exact .inl ⟨i,hi,n,by rw[← (ft i t hi).2.1];exact hn⟩
 -- where a framed object lies
 have muc : ∀ (i o:Nat),mU[i]? = some o→(o<s.ah.length∧o∈os∧An.mu i=M.mu o)∨w.heap.size≤An.mu i:=by
  intro i o hi
  obtain⟨_,_,h1,h2,h3⟩:=fo i o hi
  rcases e.mo h1 with ⟨h4,h5⟩|h4
  ·have h:i<os.length:=by omega
   exact .inl ⟨(h2 h).1,List.mem_of_getElem? (h2 h).2,by rw[h5,mu i o (h2 h).2]⟩
  ·exact .inr h4
 have bec : ∀ (i t b c z:Nat),qk[i]? = some t→s'.live i→An.be i=some (b,c,z)→(s.live t∧t∈ts∧∃ c' z',M.be t=some (b,c',z'))∨w.heap.size≤b:=by
  intro i t b c z hi hl hb
  rcases e.qY i b c z hl hb with ⟨h1,c',z',h2⟩|h1
  ·obtain⟨t',e1,hD⟩:=K3 i h1
   have sw:=(List.getElem?_eq_some_iff.1 e1).1
   obtain⟨_,_,_,h3,_⟩:=ft i t hi
   have:=(h3 sw).2
   rw[e1]at this;cases this
   rw[be i _ e1]at h2
   exact .inl ⟨hD,List.mem_of_getElem? e1,c',z',h2⟩
  ·exact .inr h1
 refine⟨M2,d.cJ mU qk,v,s2,rfl,kW, ?_, ?_,afo hv⟩
 ·-- Ext
  refine⟨le,fun b hb h1 h2=>?_,fun o h1 h2=>?_,fun t b c z hl hb=>?_,fun b off fm=>?_,e.size,e.os,e.tape,e.output⟩
  ·exact(Rr b hb (fun i o h3=>h1 o (jS o (List.mem_of_getElem? h3))) (fun i t c z _ hl=>h2 t c z hl)).1
  ·cases hp:posOf mU o with
   |none=>
    have:=(uo o h2 hp).1
    rcases h1 with h1|h1
    ·omega
    ·exact(h1 (Mm o hp)).elim
   | some i=>
    have hi:=jD hp
    rw[mo i o hi]at h1 ⊢
    rcases muc i o hi with ⟨h3,_,h5⟩|h3
    ·rcases h1 with h1 | h1
     ·omega
     ·exact(h1 h5).elim
    ·exact h3
  ·rcases lv t hl with ⟨i,hi,oc⟩ | ⟨hp,oc,_⟩
   ·rw [mt i t hi]at hb
    rcases bec i t b c z hi oc hb with ⟨h1,_,h2⟩|h1
    ·exact .inl ⟨h1,h2⟩
    ·exact .inr h1
   ·rw [Mn t hp]at hb
    exact .inl ⟨oc,c,z,hb⟩
  ·rw [← mG]at fm
   rcases e.rZ b off fm with h1|⟨i,c,z,hl,hb⟩
   ·exact .inl h1
   ·obtain⟨t,e1,hD⟩:=K3 i hl
    rw[be i t e1]at hb
    exact .inr ⟨t,c,z,hD,hb⟩
 ·-- Rel
  refine⟨fun b o v hg=>r'.comm b o v (by rw[mG];exact hg),fun o ds C3=>?_,fun o hD off=>?_,fun o o' hD B6 heq=>?_,fun t n hn=>?_,fun t b c z o hl hb hD=>?_,fun t t' b c z c' z' hl oc hb tW=>?_⟩
  ·cases hp:posOf mU o with
   |some i=>
    have hi:=jD hp
    obtain⟨_,g1,_⟩:=fo i o hi
    rw[g1]at C3
    obtain⟨oN,h1,rfl⟩:=Option.map_eq_some_iff.1 C3
    obtain⟨vs,T,h2,h3,h4,h5⟩:=r'.obj i oN h1
    refine⟨vs,T,by rw[lo i o hi];exact h2,by rw[gK];simpa using h3,⟨h4.1,by rw[show M2.ty o=An.ty i from congrArg (fun x=>x.2.ty?) (lo i o hi)];exact h4.2⟩,fun j d v e1 e2=>?_⟩
    rw[gK]at e1
    simp only[List.getElem?_map,Option.map_eq_some_iff]at e1
    obtain⟨d',e1,rfl⟩:=e1
    exact afo (h5 j d' v e1 e2)
   |none=>
    obtain⟨h1,h2,h3⟩:=uo o (List.getElem?_eq_some_iff.1 C3).1 hp
    rw[h3]at C3
    obtain⟨vs,T,g1,g2,g3,g4⟩:=r.obj o ds C3
    exact⟨vs,T,by rw[lo0 o hp];exact g1.keep (aaL o h1 h2).1,g2,⟨g3.1,by rw[show M2.ty o=M.ty o from congrArg (fun x=>x.2.ty?) (lo0 o hp)];exact g3.2⟩,fun j d v e1 e2=>(g4 j d v e1 e2).mono le⟩
  ·cases hp:posOf mU o with
   |some i=>
    have hi:=jD hp
    rw[mo i o hi, ← mG];exact r'.jX i (fo i o hi).2.2.1 off
   |none=>
    obtain⟨h1,h2,h3⟩:=uo o hD hp
    rw[Mm o hp, ← mG,(aaL o h1 h2).2 off];exact r.jX o h1 off
  ·cases hp:posOf mU o with
   | some i=>
    have hi:=jD hp
    rw[mo i o hi]at heq
    cases n6:posOf mU o' with
    |some i'=>
     have iV:=jD n6
     rw[mo i' o' iV]at heq
     have:=r'.inj i i' (fo i o hi).2.2.1 (fo i' o' iV).2.2.1 heq
     subst this
     rw[hi]at iV;cases iV;rfl
    | none=>
     obtain⟨h1,h2,_⟩:=uo o' B6 n6
     rw[Mm o' n6]at heq
     rcases muc i o hi with ⟨h3,h4,h5⟩|h3
     ·rw [h5]at heq
      have:=r.inj o o' h3 h1 heq
      subst this;exact(h2 h4).elim
     ·have:=r.rM h1;omega
   | none=>
    obtain⟨h1,h2,_⟩:=uo o hD hp
    rw[Mm o hp]at heq
    cases n6:posOf mU o' with
    | some i'=>
     have iV:=jD n6
     rw[mo i' o' iV]at heq
     rcases muc i' o' iV with ⟨h3,h4,h5⟩|h3
     ·rw [h5]at heq
      have:=r.inj o o' h1 h3 heq
      subst this;exact(h2 h4).elim
     ·have:=r.rM h1;omega
    |none=>
     obtain⟨rC,_,_⟩:=uo o' B6 n6
     rw[Mm o' n6]at heq
     exact r.inj o o' h1 rC heq
  ·rcases lv t ⟨n,hn⟩with ⟨i,hi,hl⟩ | ⟨hp,hl,o4⟩
   ·rw [mt i t hi, ← mG]
    exact r'.tok i n (by rw[← (ft i t hi).2.1];exact hn)
   ·obtain⟨_,_,h3⟩:=ut t (List.getElem?_eq_some_iff.1 hn).1 hp
    rw[h3]at hn
    rw[Mn t hp]
    rcases r.tok t n hn with h4|⟨b,cap,size,vs,T,g1,g2,g3,g4,g5⟩
    ·exact .inl h4
    ·obtain⟨k1,k2⟩:=ajB t b cap size hl o4 g1
     exact .inr ⟨b,cap,size,vs,T,g1,by rw[k1];exact g2,g3,g4,fun off ho=>by rw[← mG,k2 off];exact g5.1 off ho,g5.2⟩
  ·rcases lv t hl with ⟨i,hi,oc⟩ | ⟨hp,oc,o4⟩
   ·rw [mt i t hi]at hb
    cases Mp:posOf mU o with
    |some j=>
     have hj:=jD Mp
     rw[mo j o hj]
     exact r'.fy i b c z j oc hb (fo j o hj).2.2.1
    |none=>
     obtain⟨h1,h2,_⟩:=uo o hD Mp
     rw[Mm o Mp]
     rcases bec i t b c z hi oc hb with ⟨h3,_,c',z',h4⟩|h3
     ·exact r.fy t b c' z' o h3 h4 h1
     ·have:=r.rM h1;omega
   ·rw [Mn t hp]at hb
    cases Mp:posOf mU o with
    |some j=>
     have hj:=jD Mp
     rw[mo j o hj]
     rcases muc j o hj with ⟨h3,_,h5⟩|h3
     ·rw[h5];exact r.fy t b c z o oc hb h3
     ·have:=r.uO oc hb;omega
    |none=>
     obtain⟨h1,_,_⟩:=uo o hD Mp
     rw[Mm o Mp];exact r.fy t b c z o oc hb h1
  ·rcases lv t hl with ⟨i,hi,B8⟩ | ⟨hp,hD,o4⟩
   ·rw [mt i t hi]at hb
    rcases lv t' oc with ⟨i',iV,XX⟩|⟨n6,B6,aaO⟩
    ·rw [mt i' t' iV]at tW
     have:=r'.gL i i' b c z c' z' B8 XX hb tW
     subst this
     rw[hi]at iV;cases iV;rfl
    ·rw [Mn t' n6]at tW
     rcases bec i t b c z hi B8 hb with ⟨h3,h4,c2,z2,h5⟩|h3
     ·have:=r.gL t t' b c2 z2 c' z' h3 B6 h5 tW
      subst this;exact(aaO h4).elim
     ·have:=r.uO B6 tW;omega
   ·rw [Mn t hp]at hb
    rcases lv t' oc with ⟨i',iV,XX⟩|⟨n6,B6,aaO⟩
    ·rw [mt i' t' iV]at tW
     rcases bec i' t' b c' z' iV XX tW with ⟨h3,h4,c2,z2,h5⟩|h3
     ·have:=r.gL t t' b c z c2 z2 hD h3 hb h5
      subst this;exact(o4 h4).elim
     ·have:=r.uO hD hb;omega
    ·rw [Mn t' n6]at tW
     exact r.gL t t' b c z c' z' hD B6 hb tW
end Go.Abs
namespace Go.Abs
def Wk (d d':D):Prop:=∀ (M:Map) (s:St) (v:Value),RD M s d v→RD M s d' v
inductive j9:List D→List D→Prop where
 |nil:j9 [] []
 |cons {d d':D} {l l':List D} (h:Wk d d') (t:j9 l l'):j9 (d::l) (d'::l')
inductive gY:List (List D)→List (List D)→Prop where
 |nil:gY [] []
 |cons {r r':List D} {l l':List (List D)} (h:j9 r r') (t:gY l l'):gY (r::l) (r'::l')
theorem Wk.refl (d:D):Wk d d:=fun _ _ _ h=>h
theorem Wk.trans {a b c:D} (h:Wk a b) (k:Wk b c):Wk a c:=fun M s v r=>k M s v (h M s v r)
theorem Wk.junk (d:D):Wk d .junk:=fun _ _ v _=> .junk v
theorem j9.refl : ∀ l,j9 l l
 | []=> .nil
 |d::l=> .cons (Wk.refl d) (j9.refl l)
theorem gY.refl : ∀ l,gY l l
 | []=> .nil
 |d::l=> .cons (j9.refl d) (gY.refl l)
theorem j9.len {l l':List D} (h:j9 l l'):l.length=l'.length:=by
 induction h with
 |nil=>rfl
 |cons _ _ ih=>simp[ih]
theorem gY.len {l l':List (List D)} (h:gY l l'):l.length=l'.length:=by
 induction h with
 |nil=>rfl
 |cons _ _ ih=>simp[ih]
theorem j9.get {l l':List D} (h:j9 l l') : ∀ {i:Nat} {d':D},l'[i]? = some d'→∃ d,l[i]? = some d∧Wk d d':=by
 induction h with
 |nil=>intro i d' e;simp at e
 |cons hd _ ih=>
  intro i d' e
  cases i with
  |zero=>simp at e;subst e;exact⟨_,rfl,hd⟩
  |succ i=>simp at e;simpa using ih e
theorem gY.get {l l':List (List D)} (h:gY l l') : ∀ {i:Nat} {d':List D},l'[i]? = some d'→∃ d,l[i]? = some d∧j9 d d':=by
 induction h with
 |nil=>intro i d' e;simp at e
 |cons hd _ ih=>
  intro i d' e
  cases i with
  |zero=>simp at e;subst e;exact⟨_,rfl,hd⟩
  |succ i=>simp at e;simpa using ih e
theorem j9.append {a a' b b':List D} (h:j9 a a') (k:j9 b b'):j9 (a++b) (a'++b'):=by
 induction h with
 |nil=>exact k
 |cons hd _ ih=>exact .cons hd ih
theorem gY.append {a a' b b':List (List D)} (h:gY a a') (k:gY b b'):gY (a++b) (a'++b'):=by
 induction h with
 |nil=>exact k
 |cons hd _ ih=>exact .cons hd ih
theorem Wk.agg {l l':List D} (h:j9 l l'):Wk (.agg l) (.agg l'):=by
 intro M s v r
 cases r with
 |agg _ vs hl h1 hr=>
  refine .agg _ vs (by rw[← hl,h.len]) h1 fun i d' u e e2=>?_
  obtain⟨d,e1,hw⟩:=h.get e
  exact hw M s u (hr i d u e1 e2)
theorem Wk.tuple {l l':List D} (h:j9 l l'):Wk (.tuple l) (.tuple l'):=by
 intro M s v r
 cases r with
 |tuple _ vs hl hr=>
  refine .tuple _ vs (by rw[← hl,h.len]) fun i d' u e e2=>?_
  obtain⟨d,e1,hw⟩:=h.get e
  exact hw M s u (hr i d u e1 e2)
theorem Wk.rows {g:Tag} {z:Nat} {l l':List (List D)} (h:gY l l'):Wk (.slice g z l) (.slice g z l'):=by
 intro M s v r
 cases r with
 |jy _ _ cap hc ht=>cases h;exact .jy _ _ _ hc ht
 |mD _ a cap=>cases h;exact .mD _ a cap
 | slice _ _ _ b k cap hl hs h1 h2 ht=>
  rw[h.len]
  refine .slice g z l' b k cap (by rw[← h.len];exact hl) (fun row hm=>?_) (fun i row j d e e2=>?_) (fun i row j d u e e2 eu=>?_) (by rw[← h.len];exact ht)
  ·obtain⟨i,hi,he⟩:=List.mem_iff_getElem.1 hm
   obtain⟨r0,g1,g2⟩:=h.get (i:=i) (by rw[List.getElem?_eq_getElem hi,he])
   rw[← g2.len];exact hs r0 (List.mem_of_getElem? g1)
  ·obtain⟨r0,g1,g2⟩:=h.get e
   obtain⟨d0,g3,_⟩:=g2.get e2
   exact h1 i r0 j d0 g1 g3
  ·obtain⟨r0,g1,g2⟩:=h.get e
   obtain⟨d0,g3,g4⟩:=g2.get e2
   exact g4 M s u (h2 i r0 j d0 u g1 g3 eu)
theorem Wk.shared (g:Tag) (z:Nat) (l:List (List D)):Wk (.slice g z l) (.slice .shared z l):=by
 intro M s v r
 cases r with
 |jy _ _ cap hc ht=>exact .jy _ _ _ hc trivial
 |mD _ a cap=>exact .mD _ a cap
 |slice _ _ _ b k cap hl hs h1 h2 ht=>exact .slice _ _ _ b k cap hl hs h1 h2 trivial
theorem Wk.slice {g:Tag} {z:Nat} {l l':List (List D)} (h:gY l l'):Wk (.slice g z l) (.slice .shared z l'):=(Wk.shared g z l).trans (Wk.rows h)
theorem Wk.nil (g:Tag) (z z':Nat):Wk (.slice g z []) (.slice .shared z' []):=by
 intro M s v r
 cases r with
 |jy _ _ cap hc ht=>exact .jy _ _ _ hc trivial
 |mD _ a cap=>exact .mD _ a cap
 |slice _ _ _ b k cap hl hs h1 h2 ht=>exact .slice _ _ [] b k cap hl (by simp) (by simp) (by simp) trivial
theorem Wk.anI (z z':Nat):Wk (.slice .full z []) (.slice .full z' []):=by
 intro M s v r
 cases r with
 |jy _ _ cap hc ht=>exact .jy _ _ _ hc ht
 |slice _ _ _ b k cap hl hs h1 h2 ht=>exact .slice _ _ [] b k cap hl (by simp) (by simp) (by simp) ht
theorem Rel.o5 {M:Map} {s:St} {w:World} {ah:List (List D)} (r:Rel M s w) (h:gY s.ah ah):Rel M ⟨ah,s.ay⟩ w∧Le M s M ⟨ah,s.ay⟩:=by
 have le:Le M s M ⟨ah,s.ay⟩:=⟨fun _ _ _ h=>h,Nat.le_of_eq h.len,fun _ _=> .refl _,Nat.le_refl _,fun t n' _ e=>⟨n',e,Nat.le_refl _,fun _=>rfl⟩⟩
 have hl:=h.len
 refine⟨⟨r.comm,fun o ds e=>?_,fun o ho=>r.jX o (by rw[hl];exact ho),fun o o' ho oO=>r.inj o o' (by rw[hl];exact ho) (by rw[hl];exact oO),r.tok,
  fun t b c z o hv e ho=>r.fy t b c z o hv e (by rw[hl];exact ho),r.gL⟩,le⟩
 obtain⟨Mq,g1,g2⟩:=h.get e
 obtain⟨vs,T,h1,h2,h3,h4⟩:=r.obj o Mq g1
 refine⟨vs,T,h1,by rw[h2,g2.len],h3,fun i d v e1 e2=>?_⟩
 obtain⟨d0,k1,k2⟩:=g2.get e1
 exact(k2 _ _ _ (h4 i d0 v k1 e2)).mono le
theorem Rel.blank {M:Map} {s:St} {w:World} (r:Rel M s w) :
 Rel (M.fB s.ay.length none) {s with ay:=s.ay++ [some 0]} w∧Le M s (M.fB s.ay.length none) {s with ay:=s.ay++ [some 0]}:=by
 have jr : ∀ t,St.live {s with ay:=s.ay++ [some 0]} t→s.live t∨t=s.ay.length:=by
  rintro t ⟨k,hk⟩
  rcases Nat.lt_or_ge t s.ay.length with h|h
  ·rw[List.getElem?_append_left h]at hk;exact .inl ⟨k,hk⟩
  ·have:=(List.getElem?_eq_some_iff.1 hk).1
   simp at this;exact .inr (by omega)
 have hD : ∀ t,s.live t→t<s.ay.length:=fun t ⟨k,hk⟩=>(List.getElem?_eq_some_iff.1 hk).1
 have hold : ∀ t,t<s.ay.length→(M.fB s.ay.length none).be t=M.be t:=fun t h=>by simp[Map.fB];omega
 have dC:(M.fB s.ay.length none).be s.ay.length=none:=by simp[Map.fB]
 have le:Le M s (M.fB s.ay.length none) {s with ay:=s.ay++ [some 0]}:=
  ⟨fun _ _ _ h=>h,Nat.le_refl _,fun _ _=> .refl _,by simp,fun t k h e=>by
   rw[List.getElem?_append_left h]at e
   exact⟨k,e,Nat.le_refl _,fun _=>hold t h⟩⟩
 refine⟨⟨r.comm,fun o ds e=>?_,r.jX,r.inj,fun t k e=>?_,fun t b' c z o hl e oO=>?_,fun t t' b' c z c' z' h h' e e'=>?_⟩,le⟩
 ·obtain⟨gb,T',h3,h4,h5,h6⟩:=r.obj o ds e
  exact⟨gb,T',h3,h4,h5,fun i d v e1 e2=>(h6 i d v e1 e2).mono le⟩
 ·rcases Nat.lt_or_ge t s.ay.length with h | h
  ·rw [List.getElem?_append_left h]at e
   rw[hold t h];exact r.tok t k e
  ·have:=(List.getElem?_eq_some_iff.1 e).1
   simp at this
   have:t=s.ay.length:=by omega
   subst this
   simp at e;subst e
   exact .inl ⟨dC,rfl⟩
 ·rcases jr t hl with h | h
  ·rw[hold t (hD t h)]at e;exact r.fy t b' c z o h e oO
  ·subst h;rw[dC]at e;cases e
 ·rcases jr t h with h | h <;> rcases jr t' h' with h' | h'
  ·rw[hold t (hD t h)]at e;rw[hold t' (hD t' h')]at e';exact r.gL t t' b' c z c' z' h h' e e'
  ·subst h';rw[dC]at e';cases e'
  ·subst h;rw[dC]at e;cases e
  ·omega
theorem RD.own {M:Map} {s:St} {z z':Nat} {v:Value} (h:RD M s (.slice .full z []) v):RD (M.fB s.ay.length none) {s with ay:=s.ay++ [some 0]} (.slice (.tok s.ay.length) z' []) v:=by
 have key : ∀ base:Option (Nat×Nat),jB (M.fB s.ay.length none) {s with ay:=s.ay++ [some 0]} (.tok s.ay.length) z' 0 base 0:=by
  intro base
  refine⟨by simp,fun n e=>?_⟩
  simp at e
  subst e
  exact⟨Nat.le_refl _,fun _=> .inl ⟨by simp[Map.fB],rfl,fun h=>by cases h⟩⟩
 cases h with
 |jy _ _ cap hc ht=>subst hc;exact .jy _ _ _ rfl (key none)
 |slice _ _ _ b k cap hl hs h1 h2 ht=>
  have:cap=0:=ht
  subst this
  exact .slice _ _ [] b k 0 (Nat.le_refl _) (by simp) (by simp) (by simp) (key _)
section
variable {P:Program} {B:gN} {nt:Nat} {Q:Exit→Tm→St→Prop} {tm:Tm} {s:St}
theorem Sem.wkO {ac:AC} (ah:List (List D)) (hw:gY s.ah ah) (h:Sem P B nt ac Q tm ⟨ah,s.ay⟩):Sem P B nt ac Q tm s:=by
 intro c hc act w ⟨M,e,r,ht,h1,h2⟩
 obtain⟨r',le⟩:=r.o5 hw
 refine h c hc act w ⟨M,e.trans ⟨le,fun _ _ _ _=>rfl,fun o h1 h2=>?_,fun t b c z hl e=> .inl ⟨hl,c,z,e⟩,fun _ _ h=>(h rfl).elim,Nat.le_refl _,rfl,rfl,rfl⟩,r',fun k=>(ht k).mono le,h1,h2⟩
 simp only[← hw.len]at h2
 exact h1.elim (fun h1=>absurd h2 (Nat.not_lt.2 h1)) fun h1=>(h1 rfl).elim
theorem Js {M0 M:Map} {s0 s:St} {w0 w:World} (e:Ext M0 s0 w0 M s w) (le:Le M s (M.fB s.ay.length none) {s with ay:=s.ay++ [some 0]}) :
 Ext M0 s0 w0 (M.fB s.ay.length none) {s with ay:=s.ay++ [some 0]} w:=by
 refine e.trans ⟨le,fun _ _ _ _=>rfl,fun o h1 h2=>h1.elim (fun h1=>absurd h2 (Nat.not_lt.2 h1)) (fun h1=>(h1 rfl).elim),fun t b c z hl eq=>?_,fun _ _ h=>(h rfl).elim,Nat.le_refl _,rfl,rfl,rfl⟩
 obtain⟨k,hk⟩:=hl
 rcases Nat.lt_or_ge t s.ay.length with h|h
 ·refine .inl ⟨⟨k,by rw [List.getElem?_append_left h]at hk;exact hk⟩,c,z, ?_⟩
  have:(M.fB s.ay.length none).be t=M.be t:=by simp[Map.fB];omega
  rw[← this];exact eq
 ·have:=(List.getElem?_eq_some_iff.1 hk).1
  simp at this
  have:t=s.ay.length:=by omega
  subst this
  simp[Map.fB]at eq
end
def aE (P:Program) (f:Nat) (args:List D) (s:St) (d:D) (s':St):Prop:=bW P f args s fun x y=>x=d∧y=s'
def rf (n m:Nat) (res:List (Nat×Option (Bool×Nat))) (d:D) (s':St):Exit→Tm→St→Prop
 | .normal,tm,s| .ret,tm,s=>∃ l,aT res tm s=some l∧Wk ((aV l).fg n m) d∧gY (s.cut n m).ah s'.ah∧(s.cut n m).ay=s'.ay
 |_,_,_=>False
theorem bW.o5 {P:Program} {f:FuncId} {args GO:List D} {s:St} {Q:D→St→Prop} (ha:j9 args GO) (h:bW P f GO s Q):bW P f args s Q:=
 fun M w gh r kD hl hr=>h M w gh r kD (by rw[hl,ha.len]) fun i d v e1 e2=>by
  obtain⟨d0,g1,g2⟩:=ha.get e1
  exact g2 _ _ _ (hr i d0 v g1 e2)
theorem bW.K4 {P:Program} {f:FuncId} {args:List D} {s:St} {Q Q':D→St→Prop} (h:bW P f args s Q) (hq : ∀ d s1,Q d s1→∃ d' s',Wk d d'∧gY s1.ah s'.ah∧s1.ay=s'.ay∧Q' d' s'):bW P f args s Q':=
 fun M w gh r kD hl ha=>(h M w gh r kD hl ha).mono fun _ _ ⟨M',d,v,s1,h1,h2,h3,h4,h5⟩=>by
  obtain⟨d',s',g1,g2,g3,g4⟩:=hq d s1 h2
  obtain⟨r',le⟩:=h4.o5 g2
  have hs:(⟨s'.ah,s1.ay⟩:St)=s':=by rw[g3]
  rw[hs]at r' le
  refine⟨M',d',v,s',h1,g4,h3.trans ⟨le,fun _ _ _ _=>rfl,fun o h1 h2=>?_,fun t b c z hl e=> .inl ⟨by obtain⟨n,hn⟩:=hl;exact⟨n,by rw[g3];exact hn⟩,c,z,e⟩,fun _ _ h=>(h rfl).elim,Nat.le_refl _,rfl,rfl,rfl⟩,r',(g1 _ _ _ h5).mono le⟩
  rw[← g2.len]at h2
  exact h1.elim (fun h1=>absurd h2 (Nat.not_lt.2 h1)) fun h1=>(h1 rfl).elim
theorem aE.intro {P:Program} {f:FuncId} {af:AF} {args:List D} {s:St} {d:D} {s':St} (h0 : ∃ fn,P.funcs[f]? = some fn∧cF P fn=some af) (hl:args.length≤af.ntmps)
 (h : ∀ B:gN,B.s=s→Sem P B af.ntmps af.body (rf s.ah.length s.ay.length af.results d s') (nV 0 args) s):aE P f args s d s':=by
 obtain⟨fn,hf,hc⟩:=h0
 refine bW.K4 (bW.intro (Q:=fun d1 s1=>Wk d1 d∧gY s1.ah s'.ah∧s1.ay=s'.ay) hf hc hl fun B hB=>(h B hB).mono fun e tm s1 hr=>?_) fun d1 s1 ⟨h1,h2,h3⟩=>⟨d,s',h1,h2,h3,rfl,rfl⟩
 subst hB
 cases e with
 |normal=>obtain⟨l,h1,h2,h3,h4⟩:=hr;exact⟨l,h1,_,_,Nat.le_refl _,Nat.le_refl _,h2,h3,h4⟩
 |ret=>obtain⟨l,h1,h2,h3,h4⟩:=hr;exact⟨l,h1,_,_,Nat.le_refl _,Nat.le_refl _,h2,h3,h4⟩
 |exit id=>exact hr.elim
 |goto l=>exact hr.elim
 |panic ch=>exact hr.elim
 |outgrown=>exact hr.elim
theorem aE.use {P:Program} {f:FuncId} {args:List D} {s:St} {d:D} {s':St} {Q:D→St→Prop} (h:aE P f args s d s') (hq:Q d s'):bW P f args s Q:=
 bW.mono h fun x y ⟨h1,h2⟩=>by subst h1;subst h2;exact hq
mutual
theorem sg (os ts:List Nat) : ∀ d,D.ok 0 0 d=true→D.cJ os ts d=d
 | .junk,_=>by simp[D.cJ]
 | .int k n,_=>by simp[D.cJ]
 | .bool b,_=>by simp[D.cJ]
 | .str l,_=>by simp[D.cJ]
 | .eI,_=>by simp[D.cJ]
 | .val v,_=>by simp[D.cJ]
 | .fS T o,h=>by simp[D.ok]at h
 | .gR o,h=>by simp[D.ok]at h
 | .dD z o g len,h=>by simp[D.ok]at h
 | .fU o g off,h=>by simp[D.ok]at h
 | .eW z,_=>by simp[D.cJ]
 | .ie f cs,h=>by
  simp only[D.ok]at h
  simp only[D.cJ,fL os ts cs h]
 | .ptr o f,h=>by simp[D.ok]at h
 | .dN r f,h=>by
  simp only[D.ok]at h
  simp only[D.cJ,fL os ts r h]
 | .slice g z rows,h=>by
  simp only[D.ok,Bool.and_eq_true]at h
  simp only[D.cJ,jT os ts rows h.2]
  cases g with
  |tok t y=>simp[Tag.ok]at h
  |full=>rfl
  |shared=>rfl
 | .agg cs,h=>by
  simp only[D.ok]at h
  simp only[D.cJ,fL os ts cs h]
 | .tuple cs,h=>by
  simp only[D.ok]at h
  simp only[D.cJ,fL os ts cs h]
theorem fL (os ts:List Nat) : ∀ l,D.bK 0 0 l=true→D.eQ os ts l=l
 | [],_=>by simp[D.eQ]
 |d::r,h=>by
  simp only[D.bK,Bool.and_eq_true]at h
  simp only[D.eQ,sg os ts d h.1,fL os ts r h.2]
theorem jT (os ts:List Nat) : ∀ l,D.jd 0 0 l=true→D.o3 os ts l=l
 | [],_=>by simp[D.o3]
 |d::r,h=>by
  simp only[D.jd,Bool.and_eq_true]at h
  simp only[D.o3,fL os ts d h.1,jT os ts r h.2]
end
mutual
theorem Iw {n m n' m':Nat} (hn:n≤n') (hm:m≤m') : ∀ d,D.ok n m d=true→D.ok n' m' d=true
 | .junk,_=>rfl
 | .int k n,_=>rfl
 | .bool b,_=>rfl
 | .str l,_=>rfl
 | .eI,_=>rfl
 | .val v,_=>rfl
 | .fS T o,h=>by simp[D.ok]at h ⊢;omega
 | .gR o,h=>by simp[D.ok]at h ⊢;omega
 | .dD z o g len,h=>by simp[D.ok]at h ⊢;omega
 | .fU o g off,h=>by simp[D.ok]at h ⊢;omega
 | .eW z,_=>rfl
 | .ie f cs,h=>by
  simp only[D.ok]at h ⊢
  exact jk hn hm cs h
 | .ptr o f,h=>by simp only[D.ok,decide_eq_true_eq]at h ⊢;omega
 | .dN r f,h=>by
  simp only[D.ok]at h ⊢
  exact jk hn hm r h
 | .slice g z rows,h=>by
  simp only[D.ok,Bool.and_eq_true]at h ⊢
  refine⟨?_,nL hn hm rows h.2⟩
  cases g with
  |tok t y=>simp only[Tag.ok,decide_eq_true_eq]at h ⊢;omega
  |full=>rfl
  |shared=>rfl
 | .agg cs,h=>by
  simp only[D.ok]at h ⊢
  exact jk hn hm cs h
 | .tuple cs,h=>by
  simp only[D.ok]at h ⊢
  exact jk hn hm cs h
theorem jk {n m n' m':Nat} (hn:n≤n') (hm:m≤m') : ∀ l,D.bK n m l=true→D.bK n' m' l=true
 | [],_=>rfl
 |d::r,h=>by
  simp only[D.bK,Bool.and_eq_true]at h ⊢
  exact⟨Iw hn hm d h.1,jk hn hm r h.2⟩
theorem nL {n m n' m':Nat} (hn:n≤n') (hm:m≤m') : ∀ l,D.jd n m l=true→D.jd n' m' l=true
 | [],_=>rfl
 |d::r,h=>by
  simp only[D.jd,Bool.and_eq_true]at h ⊢
  exact⟨jk hn hm d h.1,nL hn hm r h.2⟩
end
def S0:St:=⟨[],[]⟩
section
variable {P:Program} {f:Nat}
theorem aE.pure {args:List D} {d:D} (h:aE P f args S0 d S0) (ha:D.bK 0 0 args=true) (hd:D.ok 0 0 d=true) (s:St):aE P f args s d s:=by
 refine bW.frame [] [] h List.nodup_nil List.nodup_nil (by simp) (by simp) rfl (by simp) rfl (by simp) (by rw[fL _ _ _ ha]) ha ?_
 rintro _ _ ⟨rfl,rfl⟩
 refine⟨sg _ _ _ hd, ?_⟩
 simp[St.back,lk,S0]
theorem aE.XY {args row lh:List D} {d:D} (h:aE P f (.ptr 0 0::args) ⟨[row],[]⟩ d ⟨[lh],[]⟩) (ha:D.bK 0 0 args=true) (hr:D.bK 0 0 row=true) (UG:D.bK 0 0 lh=true) (hd:D.ok 0 0 d=true)
 {s:St} {o:Nat} (ho:s.ah[o]? = some row):aE P f (.ptr o 0::args) s d ⟨s.ah.set o lh,s.ay⟩:=by
 refine bW.frame [o] [] h (by simp) List.nodup_nil (by simpa using (List.getElem?_eq_some_iff.1 ho).1) (by simp) rfl (fun i o' ds e1 e2=>?_) rfl (by simp) (by simp[D.eQ,D.cJ,fL _ _ _ ha])
  (by simp[D.bK,D.ok,jk (Nat.zero_le 1) (Nat.le_refl 0) _ ha]) ?_
 ·cases i with
  |zero=>simp at e1 e2;subst e1;subst e2;exact⟨by rw[fL _ _ _ hr];exact ho,jk (Nat.zero_le 1) (Nat.le_refl 0) _ hr⟩
  |succ i=>simp at e1
 ·rintro _ _ ⟨rfl,rfl⟩
  refine⟨sg _ _ _ hd, ?_⟩
  simp[St.back,lk,fL _ _ _ UG]
end
end Go.Abs
namespace Go.Abs
theorem X.cz {x:X} {tm bH:Tm} (h : ∀ t∈x.reads,tm.get t=bH.get t):x.ev tm=x.ev bH:=by
 cases x with
 |s t=>exact h t (by simp[X.reads])
 |k d=>rfl
theorem sZ {t:Nat} {x:X} : ∀ {l:List X},x∈l→t∈x.reads→t∈pe l
 | [],h,_=>by cases h
 |y::r,h,ht=>by
  simp only[pe,List.mem_append]
  rcases List.mem_cons.1 h with rfl|h
  ·exact .inl ht
  ·exact .inr (sZ h ht)
theorem yo {x:Option X} {tm bH:Tm} (h : ∀ t∈CJ x,tm.get t=bH.get t):x.map (·.ev tm)=x.map (·.ev bH):=by
 cases x with
 |none=>rfl
 |some y=>simp only[Option.map_some];rw[X.cz h]
theorem E8 {o:AO} {tm bH:Tm} {s:St} (h : ∀ t∈o.reads,tm.get t=bH.get t):aR o tm s=aR o bH s:=by
 cases o with
 |mv x=>
  have hx:x.ev tm=x.ev bH:=X.cz fun t ht=>h t (by simp[AO.reads,ht])
  simp only[aR,hx]
 |pick c a b=>
  have hc:c.ev tm=c.ev bH:=X.cz fun t ht=>h t (by simp[AO.reads,ht])
  have ha:a.ev tm=a.ev bH:=X.cz fun t ht=>h t (by simp[AO.reads,ht])
  have hb:b.ev tm=b.ev bH:=X.cz fun t ht=>h t (by simp[AO.reads,ht])
  simp only[aR,hc,ha,hb]
 |alloc z=>
  rfl
 |ve z T=>rfl
 |CH x T=>
  have hx:x.ev tm=x.ev bH:=X.cz fun t ht=>h t (by simp[AO.reads,ht])
  simp only[aR,hx]
 |CI x y=>
  have hx:x.ev tm=x.ev bH:=X.cz fun t ht=>h t (by simp[AO.reads,ht])
  have hy:y.ev tm=y.ev bH:=X.cz fun t ht=>h t (by simp[AO.reads,ht])
  simp only[aR,hx,hy]
 |apps x y=>
  have hx:x.ev tm=x.ev bH:=X.cz fun t ht=>h t (by simp[AO.reads,ht])
  have hy:y.ev tm=y.ev bH:=X.cz fun t ht=>h t (by simp[AO.reads,ht])
  simp only[aR,hx,hy]
 |box x=>
  have hx:x.ev tm=x.ev bH:=X.cz fun t ht=>h t (by simp[AO.reads,ht])
  simp only[aR,hx]
 |CF x=>
  have hx:x.ev tm=x.ev bH:=X.cz fun t ht=>h t (by simp[AO.reads,ht])
  simp only[aR,hx]
 |load x g n=>
  have hx:x.ev tm=x.ev bH:=X.cz fun t ht=>h t (by simp[AO.reads,ht])
  simp only[aR,hx]
 |store p x n=>
  have hp:p.ev tm=p.ev bH:=X.cz fun t ht=>h t (by simp[AO.reads,ht])
  have hx:x.ev tm=x.ev bH:=X.cz fun t ht=>h t (by simp[AO.reads,ht])
  simp only[aR,hp,hx]
 |cu x=>
  have hx:x.ev tm=x.ev bH:=X.cz fun t ht=>h t (by simp[AO.reads,ht])
  simp only[aR,hx]
 |bin op x y=>
  have hx:x.ev tm=x.ev bH:=X.cz fun t ht=>h t (by simp[AO.reads,ht])
  have hy:y.ev tm=y.ev bH:=X.cz fun t ht=>h t (by simp[AO.reads,ht])
  simp only[aR,hx,hy]
 |Jg n x y=>
  have hx:x.ev tm=x.ev bH:=X.cz fun t ht=>h t (by simp[AO.reads,ht])
  have hy:y.ev tm=y.ev bH:=X.cz fun t ht=>h t (by simp[AO.reads,ht])
  simp only[aR,hx,hy]
 |eqs n ks x y=>
  have hx:x.ev tm=x.ev bH:=X.cz fun t ht=>h t (by simp[AO.reads,ht])
  have hy:y.ev tm=y.ev bH:=X.cz fun t ht=>h t (by simp[AO.reads,ht])
  simp only[aR,hx,hy]
 |Jh n x y=>
  have hx:x.ev tm=x.ev bH:=X.cz fun t ht=>h t (by simp[AO.reads,ht])
  have hy:y.ev tm=y.ev bH:=X.cz fun t ht=>h t (by simp[AO.reads,ht])
  simp only[aR,hx,hy]
 |un op x=>
  have hx:x.ev tm=x.ev bH:=X.cz fun t ht=>h t (by simp[AO.reads,ht])
  simp only[aR,hx]
 |conv k x=>
  have hx:x.ev tm=x.ev bH:=X.cz fun t ht=>h t (by simp[AO.reads,ht])
  simp only[aR,hx]
 |Gp x=>
  have hx:x.ev tm=x.ev bH:=X.cz fun t ht=>h t (by simp[AO.reads,ht])
  simp only[aR,hx]
 |z6 x=>
  have hx:x.ev tm=x.ev bH:=X.cz fun t ht=>h t (by simp[AO.reads,ht])
  simp only[aR,hx]
 |aq x n=>
  have hx:x.ev tm=x.ev bH:=X.cz fun t ht=>h t (by simp[AO.reads,ht])
  simp only[aR,hx]
 |EZ x n g m=>
  have hx:x.ev tm=x.ev bH:=X.cz fun t ht=>h t (by simp[AO.reads,ht])
  simp only[aR,hx]
 |cb x i n=>
  have hx:x.ev tm=x.ev bH:=X.cz fun t ht=>h t (by simp[AO.reads,ht])
  have hi:i.ev tm=i.ev bH:=X.cz fun t ht=>h t (by simp[AO.reads,ht])
  simp only[aR,hx,hi]
 |vJ x i=>
  have hx:x.ev tm=x.ev bH:=X.cz fun t ht=>h t (by simp[AO.reads,ht])
  have hi:i.ev tm=i.ev bH:=X.cz fun t ht=>h t (by simp[AO.reads,ht])
  simp only[aR,hx,hi]
 |ext x i=>
  have hx:x.ev tm=x.ev bH:=X.cz fun t ht=>h t (by simp[AO.reads,ht])
  simp only[aR,hx]
 |len x=>
  have hx:x.ev tm=x.ev bH:=X.cz fun t ht=>h t (by simp[AO.reads,ht])
  simp only[aR,hx]
 |qa x=>
  have hx:x.ev tm=x.ev bH:=X.cz fun t ht=>h t (by simp[AO.reads,ht])
  simp only[aR,hx]
 |app a b x y=>
  have hx:x.ev tm=x.ev bH:=X.cz fun t ht=>h t (by simp[AO.reads,ht])
  have hy:y.ev tm=y.ev bH:=X.cz fun t ht=>h t (by simp[AO.reads,ht])
  simp only[aR,hx,hy]
 |mm b x y=>
  have hx:x.ev tm=x.ev bH:=X.cz fun t ht=>h t (by simp[AO.reads,ht])
  have hy:y.ev tm=y.ev bH:=X.cz fun t ht=>h t (by simp[AO.reads,ht])
  simp only[aR,hx,hy]
 | build z ps=>
  have hp:(ps.map fun p=>(p.1,p.2.1,p.2.2.ev tm))=ps.map fun p=>(p.1,p.2.1,p.2.2.ev bH):=List.map_congr_left fun p hp=>by
   have:p.2.2.ev tm=p.2.2.ev bH:=X.cz fun t ht=>h t (by simp only[AO.reads];exact sZ (List.mem_map_of_mem hp) ht)
   rw[this]
  simp only[aR,hp]
 | dg z m n ps=>
  have hp:(ps.map fun p=>(p.1,p.2.ev tm))=ps.map fun p=>(p.1,p.2.ev bH):=List.map_congr_left fun p hp=>by
   have:p.2.ev tm=p.2.ev bH:=X.cz fun t ht=>h t (by simp only[AO.reads];exact sZ (List.mem_map_of_mem hp) ht)
   rw[this]
  simp only[aR,hp]
 | w9 z m n ps=>
  have hp:(ps.map fun p=>(p.1,p.2.ev tm))=ps.map fun p=>(p.1,p.2.ev bH):=List.map_congr_left fun p hp=>by
   have:p.2.ev tm=p.2.ev bH:=X.cz fun t ht=>h t (by simp only[AO.reads];exact sZ (List.mem_map_of_mem hp) ht)
   rw[this]
  simp only[aR,hp]
 |Gq n x lo hi=>
  have hx:x.ev tm=x.ev bH:=X.cz fun t ht=>h t (by simp[AO.reads,ht])
  have hl:lo.map (·.ev tm)=lo.map (·.ev bH):=yo fun t ht=>h t (by simp[AO.reads,ht])
  have hh:hi.map (·.ev tm)=hi.map (·.ev bH):=yo fun t ht=>h t (by simp[AO.reads,ht])
  simp only[aR,hx,hl,hh]
 |CG x lo hi=>
  have hx:x.ev tm=x.ev bH:=X.cz fun t ht=>h t (by simp[AO.reads,ht])
  have hl:lo.map (·.ev tm)=lo.map (·.ev bH):=yo fun t ht=>h t (by simp[AO.reads,ht])
  have hh:hi.map (·.ev tm)=hi.map (·.ev bH):=yo fun t ht=>h t (by simp[AO.reads,ht])
  simp only[aR,hx,hl,hh]
 |wI f xs=>
  have hp:(xs.map fun x=>x.ev tm)=xs.map fun x=>x.ev bH:=List.map_congr_left fun x hx=>X.cz fun t ht=>h t (by simp only[AO.reads];exact sZ hx ht)
  simp only[aR,hp]
 |wJ=>rfl
 |A8 m k v=>
  have hm:m.ev tm=m.ev bH:=X.cz fun t ht=>h t (by simp[AO.reads,ht])
  have hk:k.ev tm=k.ev bH:=X.cz fun t ht=>h t (by simp[AO.reads,ht])
  have hv:v.ev tm=v.ev bH:=X.cz fun t ht=>h t (by simp[AO.reads,ht])
  simp only[aR,hm,hk,hv]
 |A9 a b z l c=>
  have hl:l.ev tm=l.ev bH:=X.cz fun t ht=>h t (by simp[AO.reads,ht])
  have hk:c.ev tm=c.ev bH:=X.cz fun t ht=>h t (by simp[AO.reads,ht])
  simp only[aR,hl,hk]
 |sI o x y=>
  have hx:x.ev tm=x.ev bH:=X.cz fun t ht=>h t (by simp[AO.reads,ht])
  have hy:y.ev tm=y.ev bH:=X.cz fun t ht=>h t (by simp[AO.reads,ht])
  simp only[aR,hx,hy]
 |yd m k z=>
  have hm:m.ev tm=m.ev bH:=X.cz fun t ht=>h t (by simp[AO.reads,ht])
  have hk:k.ev tm=k.ev bH:=X.cz fun t ht=>h t (by simp[AO.reads,ht])
  simp only[aR,hm,hk]
theorem OI {x d:D} {agg:Bool} {size:Nat} {s s':St} (h:Bb x agg size s=some (d,s')):s'=s:=by
 unfold Bb at h
 (repeat' (split at h))<;>first|(cases h;rfl)|cases h
theorem OM {o:AO} (ho:iO o.kind=false) {tm:Tm} {s s':St} {d:D} (h:aR o tm s=some (d,s')):s'=s:=by
 cases o<;>simp only[AO.kind,iO]at ho<;>first|cases ho|skip
 all_goals
  simp only[aR]at h
  first
   |(cases h;rfl)
   |(repeat' (split at h))<;>first|exact OI h|(cases h;rfl)|cases h
theorem Rs {o:AO} (ho:o.kind = .pure) {tm:Tm} {s s':St} : (aR o tm s).map (·.1)=(aR o tm s').map (·.1):=by
 cases o<;>simp only[AO.kind]at ho<;>first|cases ho|skip
 all_goals
  simp only[aR]
  first
   |rfl
   |(repeat' split)<;>rfl
def kI (ai:AI) (tm:Tm) (s:St):Option D:=
 match ai with
 | .op _ none o=>(aR o tm s).map (·.1)
 | .op _ (some (t,want)) o=>
  match tm.get t with
  | .bool b=>if b=want then(aR o tm s).map (·.1)else some (.tuple [])
  | .tuple _=>some (.tuple [])
  |_=>none
 |_=>none
def uS (P:Program) (ai:AI) (tm:Tm) (s:St) (d:D) (s':St):Prop:=
 match ai with
 | .op _ g o=>guarded g tm (aR o tm s=some (d,s')) (d = .tuple []∧s'=s)
 | .call _ g f xs=>guarded g tm (bW P f (xs.map (·.ev tm)) s fun x y=>x=d∧y=s') (d = .tuple []∧s'=s)
 | .nil .. =>False
 | .kb .. =>False
def lU (P:Program) (is:List AI) (K:Tm→St→Prop):List (Nat×Nat)→List St→Tm→St→Prop
 | [],_,tm,s=>K tm s
 | (q,b)::r,bV,tm,s=>
  match is[q]? with
  |none=>False
  |some ai=>
   match iO ai.kind with
   |true=>∃ d s',uS P ai tm s d s'∧lU P is K r (s::bV) (tm.put ai.dst d) s'
   |false=>∃ d,kI ai tm s=some d∧(ai.kind = .load→∀ s'∈bV.take b,kI ai tm s'=some d)∧lU P is K r bV (tm.put ai.dst d) s
def Tm.eqv (a b:Tm):Prop:=∀ t,a.get t=b.get t
theorem Tm.mB (tm:Tm) (dst:Option Nat) (d:D) (t:Nat):(tm.put dst d).get t=if dst=some t then d else tm.get t:=by
 cases dst with
 |none=>simp[Tm.put]
 |some u=>
  simp only[Tm.put,Tm.Io,Option.some.injEq]
  by_cases h:t=u
  ·subst h;simp
  ·rw[if_neg h,if_neg (fun e=>h e.symm)]
theorem Tm.eqv.put {a b:Tm} (h:a.eqv b) (dst:Option Nat) (d:D):(a.put dst d).eqv (b.put dst d):=fun t=>by
 rw[Tm.mB,Tm.mB,h t]
theorem Tm.Mr (tm:Tm) {x y:Option Nat} (h : ∀ t,x=some t→y≠some t) (d e:D):((tm.put x d).put y e).eqv ((tm.put y e).put x d):=fun t=>by
 simp only[Tm.mB]
 by_cases h1:x=some t
 ·simp only[h1,h t h1,if_true,if_false]
 ·simp only[h1,if_false]
theorem B9 {g:Option (Nat×Bool)} {tm bH:Tm} {A A' C:Prop} (h : ∀ t∈xa g,tm.get t=bH.get t) (ha:A→A') (hh:guarded g tm A C):guarded g bH A' C:=by
 cases g with
 |none=>exact ha hh
 | some p=>
  obtain⟨t,want⟩:=p
  unfold guarded at *
  simp only at *
  rw[← h t (by simp[xa])]
  split
  ·rename_i b hb
   rw[hb]at hh
   exact⟨fun e=>ha (hh.1 e),hh.2⟩
  ·rename_i hb
   rw[hb]at hh
   exact hh
  ·rename_i x h1 h2
   split at hh
   ·exact h1 _ ‹_›
   ·exact h2 _ ‹_›
   ·exact hh
theorem Jt {tm bH:Tm} : ∀ {l:List X},(∀ t∈pe l,tm.get t=bH.get t)→l.map (·.ev tm)=l.map (·.ev bH)
 | [],_=>rfl
 |x::r,h=>by
  simp only[List.map_cons]
  rw[X.cz fun t ht=>h t (by simp[pe,ht]),Jt (l:=r) fun t ht=>h t (by simp[pe,ht])]
theorem zh {P:Program} {ai:AI} {tm bH:Tm} {s s':St} {d:D} (h : ∀ t∈ai.reads,tm.get t=bH.get t) (hh:uS P ai tm s d s'):uS P ai bH s d s':=by
 cases ai with
 |op dst g o=>
  simp only[AI.reads,List.mem_append]at h
  exact B9 (fun t ht=>h t (.inl ht)) (fun e=>by rw[← E8 fun t ht=>h t (.inr ht)];exact e) hh
 |call dst g f xs=>
  simp only[AI.reads,List.mem_append]at h
  exact B9 (fun t ht=>h t (.inl ht)) (fun e=>by rw[← Jt fun t ht=>h t (.inr ht)];exact e) hh
 |nil dst g n x=>exact hh
 |kb dst g t xs=>exact hh
theorem sx {ai:AI} {tm bH:Tm} {s:St} (h : ∀ t∈ai.reads,tm.get t=bH.get t):kI ai tm s=kI ai bH s:=by
 cases ai with
 | op dst g o=>
  simp only[AI.reads,List.mem_append]at h
  have he:=E8 (s:=s) fun t ht=>h t (.inr ht)
  cases g with
  |none=>simp only[kI,he]
  |some p=>
   obtain⟨t,want⟩:=p
   simp only[kI,he,h t (.inl (by simp[xa]))]
 |call dst g f xs=>rfl
 |nil dst g n x=>rfl
 |kb dst g t xs=>rfl
theorem PG {dst:Option Nat} {g:Option (Nat×Bool)} {o:AO} (h:iO (AI.op dst g o).kind=false):(AI.op dst g o).kind=o.kind:=by
 unfold AI.kind at *
 split at h
 ·cases h
 ·rename_i heq;cases heq;rfl
 ·cases h
theorem XZ {ai:AI} (hk:ai.kind = .pure) {tm:Tm} {s s':St} : kI ai tm s=kI ai tm s':=by
 cases ai with
 |op dst g o=>
  have ho:o.kind = .pure:=by rw[← hk];exact(PG (by rw[hk];rfl)).symm
  have he:=Rs ho (tm:=tm) (s:=s) (s':=s')
  cases g with
  |none=>simp only[kI,he]
  |some p=>simp only[kI,he]
 |call dst g f xs=>rfl
 |nil dst g n x=>rfl
 |kb dst g t xs=>rfl
theorem apart_spec {a q:AI} (h:a.apart q=true):(∀ t,a.dst=some t→t∉q.reads)∧(∀ t,q.dst=some t→t∉a.reads)∧(∀ t,a.dst=some t→q.dst≠some t):=by
 unfold AI.apart at h
 simp only[Bool.and_eq_true]at h
 obtain⟨⟨h1,h2⟩,h3⟩:=h
 refine⟨fun t e=>?_,fun t e=>?_,fun t e e'=>?_⟩
 ·rw[e]at h1;simpa[Gs]using h1
 ·rw[e]at h2;simpa[Gs]using h2
 ·rw[e,e']at h3;simp at h3
theorem uT {tm:Tm} {dst:Option Nat} {d:D} {l:List Nat} (h : ∀ t,dst=some t→t∉l) : ∀ t∈l,tm.get t=(tm.put dst d).get t:=fun t ht=>by
 rw[Tm.mB,if_neg fun e=>h t e ht]
section
variable {P:Program} {is:List AI} {K:Tm→St→Prop}
theorem uU (hK : ∀ tm bH s,Tm.eqv tm bH→K tm s→K bH s) : ∀ (R:List (Nat×Nat)) (bV:List St) (tm bH:Tm) (s:St),tm.eqv bH→lU P is K R bV tm s→lU P is K R bV bH s
 | [],_,tm,bH,s,e,h=>hK tm bH s e h
 | (q,b)::R,bV,tm,bH,s,e,h=>by
  unfold lU at *
  split at h
  ·exact h.elim
  ·rename_i ai yn
   split at h
   ·rename_i hc
    obtain⟨d,s',h1,h2⟩:=h
    exact⟨d,s',zh (fun t _=>e t) h1,uU hK R _ _ _ _ (e.put _ d) h2⟩
   ·rename_i hc
    obtain⟨d,h1,h2,h3⟩:=h
    refine⟨d, ?_,fun hl s' qf=>?_,uU hK R _ _ _ _ (e.put _ d) h3⟩
    ·rw[← sx fun t _=>e t];exact h1
    ·rw[← sx fun t _=>e t];exact h2 hl s' qf
theorem Ms (i:Nat) (l:List Nat):ku is (i::l)=(if iO (kd is i)then 1 else 0)+ku is l:=by
 unfold ku
 rw[List.filter_cons]
 split<;>simp<;>omega
theorem zi (hK : ∀ tm bH s,Tm.eqv tm bH→K tm s→K bH s) {q b:Nat} {ai:AI} (hq:is[q]? = some ai) (hm:iO ai.kind=false) (Y:List (Nat×Nat)) :
 ∀ (X:List (Nat×Nat)) (bV:List St) (tm:Tm) (s:St),(∀ a∈X,mn is a.1 q=true)→(ai.kind = .load→ku is (X.map (·.1))≤b)→
  lU P is K (X++(q,b)::Y) bV tm s→
  ∃ d,kI ai tm s=some d∧(ai.kind = .load→∀ s'∈bV.take (b - ku is (X.map (·.1))),kI ai tm s'=some d)∧lU P is K (X++Y) bV (tm.put ai.dst d) s
 | [],bV,tm,s,_,_,h=>by
  simp only[List.nil_append,lU,hq,hm]at h
  obtain⟨d,h1,h2,h3⟩:=h
  exact⟨d,h1,fun hl s' qf=>h2 hl s' (by simpa[ku]using qf),h3⟩
 | (a,c)::X,bV,tm,s,fi,hb,h=>by
  have Rt:=fi (a,c) (by simp)
  unfold mn at Rt
  split at Rt
  ·rename_i ia iq hia wy
   rw[hq]at wy
   cases wy
   obtain⟨p1,p2,p3⟩:=apart_spec Rt
   have C4:kd is a=ia.kind:=by simp[kd,hia]
   have K1 : ∀ x∈X,mn is x.1 q=true:=fun x hx=>fi x (List.mem_cons_of_mem _ hx)
   rw[List.map_cons,Ms,C4]at hb ⊢
   simp only[List.cons_append,lU,hia]at h ⊢
   cases hc:iO ia.kind
   ·simp only [hc,Bool.false_eq_true,if_false,Nat.zero_add]at h hb ⊢
    obtain⟨d,h1,h2,h3⟩:=h
    obtain⟨e,g1,g2,g3⟩:=zi hK hq hm Y X bV _ s K1 hb h3
    have cg : ∀ s,kI ai tm s=kI ai (tm.put ia.dst d) s:=fun s=>sx (uT p1)
    have cg' : ∀ s,kI ia tm s=kI ia (tm.put ai.dst e) s:=fun s=>sx (uT p2)
    refine⟨e,by rw[cg];exact g1,fun hl s' qf=>by rw[cg];exact g2 hl s' qf,d,by rw[← cg'];exact h1,fun hl s' qf=>by rw[← cg'];exact h2 hl s' qf, ?_⟩
    exact uU hK _ _ _ _ _ (Tm.Mr tm p3 d e) g3
   ·simp only [hc,if_true]at h hb ⊢
    obtain⟨d,s1,h1,h3⟩:=h
    obtain⟨e,g1,g2,g3⟩:=zi hK hq hm Y X (s::bV) _ s1 K1 (fun hl=>by have:=hb hl;omega) h3
    have cg : ∀ s,kI ai tm s=kI ai (tm.put ia.dst d) s:=fun s=>sx (uT p1)
    have rP:kI ai tm s=some e:=by
     cases hk:ai.kind with
     |pure=>rw[cg,XZ hk (s':=s1)];exact g1
     |load=>
      have:=hb hk
      rw[cg]
      refine g2 hk s ?_
      rw[show b - ku is (X.map (·.1))=(b - (1+ku is (X.map (·.1))))+1 by omega,List.take_succ_cons]
      exact List.mem_cons_self
     |alloc=>rw[hk]at hm;cases hm
     |core=>rw[hk]at hm;cases hm
    refine⟨e,rP,fun hl s' qf=>?_,d,s1,zh (uT p2) h1,uU hK _ _ _ _ _ (Tm.Mr tm p3 d e) g3⟩
    have:=hb hl
    rw[cg]
    refine g2 hl s' ?_
    rw[show b - ku is (X.map (·.1))=(b - (1+ku is (X.map (·.1))))+1 by omega,List.take_succ_cons]
    exact List.mem_cons_of_mem _ qf
  ·cases Rt
end
end Go.Abs
namespace Go.Abs
section
variable {P:Program}
theorem U2 {o:Oper} {z:List D} (h:Gu P o=some (.alloc z)) : ∃ t,o.op = .alloc t∧zeroOf P t=some z:=by
 obtain⟨dst,op,type,pos,after,guard⟩:=o
 unfold Gu at h
 simp only at h
 split at h
 case h_4 t=>
  split at h
  ·obtain⟨z',h1,h2⟩:=map_some h;cases h2
  ·obtain⟨z',h1,h2⟩:=map_some h;cases h2;exact⟨t,rfl,h1⟩
 all_goals
  first
   |(rw[Option.map_eq_some_iff]at h;obtain⟨_,_,h⟩:=h;cases h)
   |skip
 all_goals
  (repeat' (split at h))<;>first|(cases h;done)|(rw[Option.map_eq_some_iff]at h;obtain⟨_,_,h⟩:=h;cases h)
theorem Db {nt:Nat} {ops:Array Oper} {o:Oper} {ai:AI} (h:cI P nt ops o=some ai) :
 ∃ g,xb ops o.guard=some g∧(∀ t,o.dst=some t→t<nt)∧uN P ops o g=some ai:=by
 have h2:=Ak h
 unfold cI at h
 split at h
 ·cases h
 ·rename_i g hg
  split at h
  ·exact⟨g,hg,h2,h⟩
  ·cases h
theorem vr {ops:Array Oper} {o:Oper} {g:Option (Nat×Bool)} {ai:AI} (h:uN P ops o g=some ai):ai.dst=o.dst:=by
 unfold uN at h
 split at h
 ·split at h
  ·obtain⟨xs,_,rfl⟩:=map_some h;rfl
  ·cases h
 ·obtain⟨xs,_,rfl⟩:=map_some h;rfl
 ·split at h
  ·cases h;rfl
  ·split at h
   ·cases h;rfl
   ·cases h;rfl
   ·cases h
theorem vt {nt:Nat} {ops:Array Oper} {o:Oper} {ai:AI} (h:cI P nt ops o=some ai):ai.dst=o.dst:=by
 obtain⟨g,_,_,h⟩:=Db h
 exact vr h
theorem zj {nt:Nat} {ops:Array Oper} {i:Nat} {o:Oper} {ai:AI} (hi:ops[i]? = some o) (hc:cI P nt ops o=some ai)
 {M:Map} {s:St} {w:World} {tm:Tm} {act:Act} (r:Rel M s w) (kD:Laid M s w) (ht:nn M s tm act.tmps) {K':Tm→St→Prop} (h:jI P [ai] K' tm s)
 {K:Act→World→Prop} {Q:Exit→Act→World→Prop}
 (hK : ∀ d v s1 w1 M1,K' (tm.put ai.dst d) s1→Ext M s w M1 s1 w1→Rel M1 s1 w1→RD M1 s1 d v→K (act.put o.dst v) w1):wpOp P ops Q i K act w:=by
 obtain⟨g,hg,_,hb⟩:=Db hc
 rw[vr hb]at hK
 simp only[wpOp,hi]
 have skip:K' (tm.put o.dst (.tuple [])) s→K (act.put o.dst Go.undef) w:=fun hk=>hK _ _ _ _ _ hk (Ext.refl M s w) r .undef
 unfold uN at hb
 split at hb
 ·rename_i f args nR nQ
  split at hb
  ·rename_i Bj
   obtain⟨xs,pS,rfl⟩:=map_some hb
   simp only[jI]at h
   rcases k9 hg ht h with ⟨hw,hA⟩|⟨hw,hB⟩
   ·simp only [hw,if_true]
    left
    have hex:(execOp act.eval o).run P w = .ok (.enter f (args.map act.eval)) w:=by
     obtain⟨dst,op,type,pos,after,guard⟩:=o
     simp only at nQ
     subst nQ
     exact ze act.eval dst f args nR type pos after guard rfl Bj w
    obtain⟨c1,c2⟩:=ym ht pS
    unfold Oper.wp
    rw[hex,Oper.upon_enter]
    refine(hA M w (args.map act.eval) r kD (by simp[c1]) (fun i d v e1 e2=>c2 i d v e1 (by simpa using e2))).mono ?_
    rintro en w' ⟨M',d,v,s',rfl,hk,e',r',hv⟩
    exact hK _ _ _ _ _ hk e' r' hv
   ·simp only [hw]
    exact skip hB
  ·cases hb
 ·rename_i t args nR nQ
  obtain⟨xs,pS,rfl⟩:=map_some hb
  simp only[jI]at h
  rcases k9 hg ht h with ⟨hw,hA⟩|⟨hw,hB⟩
  ·simp only [hw,if_true]
   left
   split at hA
   ·rename_i f oW nu
    obtain⟨Bj,hA⟩:=hA
    have UR:=ht t
    rw[nu]at UR
    obtain⟨vs,vl,hlen,GM⟩:=UR.PB
    have hex:(execOp act.eval o).run P w = .ok (.enter f (args.map act.eval++vs)) w:=by
     obtain⟨dst,op,type,pos,after,guard⟩:=o
     simp only at nQ
     subst nQ
     exact C6 act.eval dst (.tmp t) f vs args nR type pos after guard vl Bj w
    have cc:=Jp pS ht hlen GM
    unfold Oper.wp
    rw[hex,Oper.upon_enter]
    refine(hA M w (args.map act.eval++vs) r kD cc.1 cc.2).mono ?_
    rintro en w' ⟨M',d,v,s',rfl,hk,e',r',hv⟩
    exact hK _ _ _ _ _ hk e' r' hv
   ·exact hA.elim
  ·simp only [hw]
   exact skip hB
 ·split at hb
  ·rename_i neg x FB
   cases hb
   simp only[jI]at h
   rcases k9 hg ht h with ⟨hw,hA⟩|⟨hw,hB⟩
   ·simp only [hw,if_true]
    left
    split at hA
    ·rename_i g' z rows hx
     obtain⟨b,hb,hex⟩:=B5 (w:=w) FB ht hx
     unfold Oper.wp
     rw[hex,Oper.upon_value]
     exact hK _ _ _ _ _ (hA b hb) (Ext.refl M s w) r (.bool _)
    ·exact hA.elim
   ·simp only [hw]
    exact skip hB
  ·have fin : ∀ ao,ai = .op o.dst g ao→(∀ d s',aR ao tm s=some (d,s')→dn P M s w (execOp act.eval o) d s')→
    (if Region.wanted o (yielded ops act.tmps)=true then o.wp P act w K Q∨(o.asks P act w∧LetsOut Q)else K (act.put o.dst Go.undef) w):=by
    intro ao yn hdo
    subst yn
    simp only[jI]at h
    rcases k9 hg ht h with ⟨hw,hA⟩|⟨hw,hB⟩
    ·simp only [hw,if_true]
     left
     split at hA
     ·rename_i d s' oQ
      obtain⟨v,w',M',dU,r',hv,e'⟩:=hdo d s' oQ
      unfold Oper.wp
      rcases dU with dU|⟨dU,rfl⟩
      ·rw [dU,Oper.upon_value]
       exact hK _ _ _ _ _ hA e' r' hv
      ·rw [dU,Oper.upon_skip]
       exact hK _ _ _ _ _ hA e' r' hv
     ·exact hA.elim
    ·simp only [hw]
     exact skip hB
   split at hb
   ·rename_i z k n ps pj
    cases hb
    refine fin _ rfl (fun d s' oQ=>?_)
    split at oQ
    ·exact Bi pj r ht oQ
    ·exact uR pj r ht oQ
   ·rename_i ao pj
    cases hb
    exact fin _ rfl (fun d s' oQ=>uR pj r ht oQ)
   ·cases hb
structure PH (M:Map) (s:St) (b:Nat):Prop where
 o : ∀ o,o<s.ah.length→M.mu o≠b
 t : ∀ t c z,s.live t→M.be t≠some (b,c,z)
 g : ∀ off,M.G b off=none
theorem PH.mono {M M':Map} {s s':St} {w w':World} {b:Nat} (h:PH M s b) (e:Ext M s w M' s' w') (hb:b<w.heap.size):PH M' s' b:=by
 refine⟨fun o ho=>?_,fun t c z hl he=>?_,fun off=>?_⟩
 ·rcases e.mo ho with ⟨h1,h2⟩ | h1
  ·rw[h2];exact h.o o h1
  ·omega
 ·rcases e.qY t b c z hl he with ⟨h1,c',z',h2⟩ | h1
  ·exact h.t t c' z' h1 h2
  ·omega
 ·by_cases hg:M'.G b off=M.G b off
  ·rw[hg];exact h.g off
  ·rcases e.rZ b off hg with h1 | ⟨t,c,z,h1,h2⟩
   ·omega
   ·exact(h.t t c z h1 h2).elim
theorem Rel.idle {M:Map} {s:St} {w:World} (r:Rel M s w) (x:Obj):Rel M s (w.alloc x)∧Ext M s w M s (w.alloc x)∧PH M s w.heap.size:=by
 refine⟨⟨fun b o v e=>?_,fun o ds e=>?_,r.jX,r.inj,fun t n e=>?_,r.fy,r.gL⟩, ?_,⟨fun o ho=>?_,fun t c z hl e=>?_,fun off=>r.QN (Nat.le_refl _) off⟩⟩
 ·obtain⟨h3,h4⟩:=r.comm b o v e
  refine⟨?_,h4⟩
  rw[World.cell?_alloc_lt]
  ·exact h3
  ·exact r.CO e
 ·obtain⟨vs,T,h3,h4,h5,h6⟩:=r.obj o ds e
  exact⟨vs,T,h3.keep (heap_alloc_old w _ _ h3.lt),h4,h5,h6⟩
 ·rcases r.tok t n e with h3 | ⟨b,cap,size,gb,T',h3,h4,h5⟩
  ·exact .inl h3
  ·exact .inr ⟨b,cap,size,gb,T',h3,by rw[heap_alloc_old w _ _ (k7 h4)];exact h4,h5⟩
 ·exact⟨Le.refl M s,fun b hb _ _=>heap_alloc_old w _ b hb,fun o h3 h4=>by rcases h3 with h3|h3;omega;exact(h3 rfl).elim,fun t b c z h e=> .inl ⟨h,c,z,e⟩,fun _ _ h=>(h rfl).elim,by simp,rfl,rfl,rfl⟩
 ·have:=r.rM ho;omega
 ·have:=r.uO hl e;omega
theorem Rel.ajC {M:Map} {s:St} {w:World} (r:Rel M s w) {B:gN} (e:Ext B.M B.s B.w M s w) {b:Nat} (u:PH M s b) (hb:B.w.heap.size≤b)
 (ds:List D) (vs:Array Value) (T:TypeId) (hh:w.heap[b]? = some (.cells vs T (0,0))) (hl:vs.size=ds.length) (h1 : ∀ v∈vs,v.oneCell'=true)
 (h2 : ∀ (i:Nat) (d:D) (v:Value),ds[i]? = some d→vs[i]? = some v→RD M s d v) :
 Rel (M.eA s.ah.length b) {s with ah:=s.ah++ [ds]} w∧Ext B.M B.s B.w (M.eA s.ah.length b) {s with ah:=s.ah++ [ds]} w∧
 Le M s (M.eA s.ah.length b) {s with ah:=s.ah++ [ds]}:=by
 have le:=ud (M:=M) s b ds
 have n9 : ∀ o,o<s.ah.length→(M.eA s.ah.length b).mu o=M.mu o:=fun o ho=>congrArg Prod.fst (vh M b .any ho)
 have dC:(M.eA s.ah.length b).mu s.ah.length=b:=by simp[Map.eA,Map.mu]
 refine⟨⟨r.comm,fun o oN e'=>?_,fun o ho off=>?_,fun o o' ho oO e'=>?_,r.tok,fun t b' c z o hl e' ho=>?_,r.gL⟩, ?_,le⟩
 ·rcases Nat.lt_or_ge o s.ah.length with ho | ho
  ·rw [List.getElem?_append_left ho]at e'
   obtain⟨gb,T',h3,h4,h5,h6⟩:=r.obj o oN e'
   refine⟨gb,T', ?_,h4,⟨h5.1,by rw[le.ty o ho];exact h5.2⟩,fun i d v e1 e2=>(h6 i d v e1 e2).mono le⟩
   rw[vh M b .any ho];exact h3
  ·rw [List.getElem?_append_right ho]at e'
   have:o=s.ah.length:=by
    have:=(List.getElem?_eq_some_iff.1 e').1
    simp at this;omega
   subst this
   simp at e';subst e'
   refine⟨vs,T, ?_,hl,⟨h1,fun T' h=>by simp[Map.eA,Map.ty,Ob.ty?]at h⟩,fun i d v e1 e2=>(h2 i d v e1 e2).mono le⟩
   have hl:(M.eA s.ah.length b).loc s.ah.length=(b, .any):=by simp[Map.eA]
   rw[hl];exact jn.of hh trivial
 ·simp at ho
  rcases Nat.lt_or_ge o s.ah.length with h3|h3
  ·rw[n9 o h3];exact r.jX o h3 off
  ·have:o=s.ah.length:=by omega
   subst this
   rw[dC];exact u.g off
 ·simp at ho oO
  rcases Nat.lt_or_ge o s.ah.length with h3|h3<;>rcases Nat.lt_or_ge o' s.ah.length with h4|h4
  ·rw[n9 o h3,n9 o' h4]at e';exact r.inj o o' h3 h4 e'
  ·have:o'=s.ah.length:=by omega
   subst this
   rw[n9 o h3,dC]at e'
   exact(u.o o h3 e').elim
  ·have:o=s.ah.length:=by omega
   subst this
   rw[n9 o' h4,dC]at e'
   exact(u.o o' h4 e'.symm).elim
  ·omega
 ·simp at ho
  rcases Nat.lt_or_ge o s.ah.length with h3|h3
  ·rw[n9 o h3];exact r.fy t b' c z o hl e' h3
  ·have:o=s.ah.length:=by omega
   subst this
   rw[dC]
   intro he
   subst he
   exact u.t t c z hl e'
 ·refine⟨e.le.trans le,e.kept,fun o h3 h4=> ?_,e.qY,e.rZ,e.size,e.os,e.tape,e.output⟩
  simp at h4
  rcases Nat.lt_or_ge o s.ah.length with h5|h5
  ·rw[n9 o h5]at h3 ⊢;exact e.rY o h3 h5
  ·have:o=s.ah.length:=by omega
   subst this
   rw[dC];exact hb
theorem ON {nt:Nat} {ops:Array Oper} {i:Nat} {o:Oper} {t:Nat} {z:List D} (hi:ops[i]? = some o) (hc:cI P nt ops o=some (.op (some t) none (.alloc z)))
 {w:World} {act:Act} {K:Act→World→Prop} {Q:Exit→Act→World→Prop}
 (hK : ∀ vs T,vs.size=z.length→(∀ v∈vs,v.oneCell'=true)→(∀ (M:Map) (s:St) (i:Nat) (d:D) (v:Value),z[i]? = some d→vs[i]? = some v→RD M s d v)→
  K (act.put (some t) (.pointer (some ⟨w.heap.size,0,none⟩))) (w.alloc (.cells vs T))):wpOp P ops Q i K act w:=by
 obtain⟨g,hg,_,hb⟩:=Db hc
 have sf:=vr hb
 simp only[AI.dst]at sf
 simp only[wpOp,hi]
 have nQ:g=none∧Gu P o=some (.alloc z):=by
  unfold uN at hb
  split at hb
  ·split at hb
   ·obtain⟨xs,_,h⟩:=map_some hb;cases h
   ·cases hb
  ·obtain⟨xs,_,h⟩:=map_some hb;cases h
  ·split at hb
   ·cases hb
   ·split at hb
    ·rename_i pj
     simp only[Option.some.injEq,AI.op.injEq]at hb
     obtain⟨_,_,h⟩:=hb
     split at h<;>cases h
    ·rename_i ao pj
     simp only[Option.some.injEq,AI.op.injEq]at hb
     obtain⟨_,h1,h2⟩:=hb
     subst h2
     exact⟨h1,pj⟩
    ·cases hb
 obtain⟨rfl,pj⟩:=nQ
 obtain⟨T,hT,hz⟩:=U2 pj
 have hw:Region.wanted o (yielded ops act.tmps)=true:=by
  have:o.guard=none:=by
   cases E2:o.guard with
   |none=>rfl
   |some p=>
    obtain⟨j,b⟩:=p
    rw[E2]at hg
    unfold xb at hg
    simp only at hg
    split at hg<;>cases hg
  simp[Region.wanted,this]
 simp only[hw,if_true]
 left
 unfold zeroOf at hz
 split at hz
 ·rename_i inf Ri
  split at hz
  ·rename_i v hv
   split at hz
   ·have dU:(execOp act.eval o).run P w = .ok (.value (.pointer (some ⟨w.heap.size,0,none⟩))) (w.alloc (.cells v.cells T)):=by
     obtain⟨dst,op,type,pos,after,guard⟩:=o
     simp only at hT
     subst hT
     simp[execOp,Instr.alloc,zeroValue,gS P Ri,hv,newVar,newRow]
    have h3:=fun M s=>my (M:=M) (s:=s) hz
    obtain⟨h1,h2,_⟩:=h3 ⟨fun _ _=>none,fun _=>(0, .any),fun _=>none⟩ ⟨[],[]⟩
    unfold Oper.wp
    rw[dU,Oper.upon_value, ← sf]
    exact hK _ _ (by rw[h1];simp) (fun u hu=>h2 u (by simpa using hu)) (fun M s i d u e1 e2=>(h3 M s).2.2 i d u e1 (by simpa using e2))
   ·cases hz
  ·cases hz
 ·cases hz
end
end Go.Abs
namespace Go.Abs
section
variable {is:List AI} {af pt:List (List Nat)}
theorem Ca {pq:List Nat} {l l':List Nat} (h:l'.Sublist l) (hb:l6 is pq l=true):l6 is pq l'=true:=by
 induction h with
 |slnil=>rfl
 |cons a h ih=>
  simp only[l6,Bool.and_eq_true]at hb
  exact ih hb.2
 |cons_cons a h ih=>
  simp only[l6,Bool.and_eq_true,Bool.or_eq_true]at hb ⊢
  refine⟨hb.1.imp id fun h1=>?_,ih hb.2⟩
  rw[List.all_eq_true]at h1 ⊢
  exact fun x hx=>h1 x (h.subset hx)
theorem Ed {f:Nat→Bool} {l l':List Nat} (h:l'.Sublist l) (ha:l.all f=true):l'.all f=true:=by
 rw[List.all_eq_true]at ha ⊢
 exact fun x hx=>ha x (h.subset hx)
theorem OO {l l':List Nat} (h:l'.Sublist l):ku is l'≤ku is l:=(h.filter _).length_le
theorem Ru {pre Ix:List Nat} {q b:Nat} (h:Ix.Sublist pre) (hs:qb is pt pre q b=true):qb is pt Ix q b=true:=by
 unfold qb at *
 split at hs
 ·exact Ed h hs
 ·exact Ed h hs
 ·simp only [Bool.and_eq_true]at hs ⊢
  exact⟨Ed h hs.1,Ca h hs.2⟩
 ·simp only [Bool.and_eq_true,decide_eq_true_eq]at hs ⊢
  exact⟨⟨Ed h hs.1.1,Ca h hs.1.2⟩,Nat.le_trans (OO (h.filter _)) hs.2⟩
theorem Mt : ∀ {R:List (Nat×Nat)} {pre Ix:List Nat},Ix.Sublist pre→wu is af pt pre R=true→wu is af pt Ix R=true
 | [],_,_,_,_=>rfl
 |(q,b)::R,pre,Ix,h,ho=>by
  simp only[wu,Bool.and_eq_true,Bool.not_eq_true']at ho ⊢
  obtain⟨⟨⟨h1,h2⟩,h3⟩,h4⟩:=ho
  refine⟨⟨⟨Ru h h1, ?_⟩,h3⟩,Mt (h.cons_cons q) h4⟩
  rw[← Bool.not_eq_true,List.contains_iff_mem]at h2 ⊢
  exact fun hm=>h2 (h.subset hm)
theorem Iy : ∀ {X:List (Nat×Nat)} {e:Nat×Nat} {Y:List (Nat×Nat)} {pre:List Nat},wu is af pt pre (X++e::Y)=true→wu is af pt pre (X++Y)=true
 | [],(q,b),Y,pre,h=>by
  simp only[List.nil_append,wu,Bool.and_eq_true]at h
  exact Mt (List.sublist_cons_self q pre) h.2
 |(a,c)::X,e,Y,pre,h=>by
  simp only[List.cons_append,wu,Bool.and_eq_true]at h ⊢
  obtain⟨⟨⟨h1,h2⟩,h3⟩,h4⟩:=h
  refine⟨⟨⟨h1,h2⟩, ?_⟩,Iy h4⟩
  rw[List.all_eq_true]at h3 ⊢
  intro j hj
  have:=h3 j hj
  simp only[Bool.and_eq_true,Bool.not_eq_true']at this ⊢
  refine⟨this.1, ?_⟩
  have h5:=this.2
  rw[← Bool.not_eq_true,List.contains_iff_mem]at h5 ⊢
  refine fun hm=>h5 ?_
  simp only[List.map_append,List.map_cons,List.mem_append,List.mem_cons]at hm ⊢
  exact hm.imp id .inr
theorem vu : ∀ {X:List (Nat×Nat)} {q b:Nat} {Y:List (Nat×Nat)} {pre:List Nat},wu is af pt pre (X++(q,b)::Y)=true→
 qb is pt ((X.map (·.1)).reverse++pre) q b=true∧q∉X.map (·.1)∧q∉pre∧(∀ j∈iU af q,j≠q∧j∉Y.map (·.1))∧wu is af pt (q::((X.map (·.1)).reverse++pre)) Y=true
 | [],q,b,Y,pre,h=>by
  simp only[List.nil_append,wu,Bool.and_eq_true,Bool.not_eq_true']at h
  obtain⟨⟨⟨h1,h2⟩,h3⟩,h4⟩:=h
  rw[← Bool.not_eq_true,List.contains_iff_mem]at h2
  refine⟨h1,by simp,h2,fun j hj=>?_,h4⟩
  rw[List.all_eq_true]at h3
  have:=h3 j hj
  simp only[Bool.and_eq_true,bne_iff_ne,Bool.not_eq_true', ← Bool.not_eq_true,List.contains_iff_mem]at this
  exact this
 |(a,c)::X,q,b,Y,pre,h=>by
  simp only[List.cons_append,wu,Bool.and_eq_true]at h
  obtain⟨_,h4⟩:=h
  obtain⟨g1,g2,g3,g4,g5⟩:=vu h4
  simp only[List.map_cons,List.reverse_cons,List.append_assoc,List.singleton_append]
  refine⟨g1, ?_,fun h=>g3 (List.mem_cons_of_mem _ h),g4,g5⟩
  intro hm
  rcases List.mem_cons.1 hm with rfl|hm
  ·exact g3 (by simp)
  ·exact g2 hm
theorem Ee : ∀ {Y:List (Nat×Nat)} {pre:List Nat},wu is af pt pre Y=true→∀ x∈Y,x.1∉pre∧(kd is x.1 = .alloc→∀ a∈pre,mn is a x.1=true)
 | [],_,_,x,hx=>by cases hx
 | (q,b)::Y,pre,h,x,hx=>by
  simp only[wu,Bool.and_eq_true,Bool.not_eq_true']at h
  obtain⟨⟨⟨h1,h2⟩,_⟩,h4⟩:=h
  rw[← Bool.not_eq_true,List.contains_iff_mem]at h2
  rcases List.mem_cons.1 hx with rfl|hx
  ·refine⟨h2,fun hk a ha=> ?_⟩
   unfold qb at h1
   simp only[hk]at h1
   rw[List.all_eq_true]at h1
   exact h1 a ha
  ·obtain⟨g1,g2⟩:=Ee h4 x hx
   exact⟨fun h=>g1 (List.mem_cons_of_mem _ h),fun hk a ha=>g2 hk a (List.mem_cons_of_mem _ ha)⟩
theorem E9 : ∀ {n:Nat},z7 af pt n=true→∀ i,i<n→∀ j∈iU pt i,j∈iU af i∨∃ k∈iU af i,j∈iU pt k
 | 0,_,i,hi=>by omega
 | n+1,h,i,hi=>by
  simp only[z7,Bool.and_eq_true]at h
  rcases Nat.lt_or_ge i n with h1|h1
  ·exact E9 h.2 i h1
  ·have:i=n:=by omega
   subst this
   intro j hj
   have:=h.1
   rw[List.all_eq_true]at this
   have:=this j hj
   simp only[Bool.or_eq_true,List.contains_iff_mem,List.any_eq_true]at this
   exact this
theorem Ao {pq:List Nat} : ∀ {l:List Nat},l6 is pq l=true→∀ (x:Nat) (l1 l2:List Nat),l=l1++x::l2→kd is x = .alloc→x∈pq→∀ y∈l2,y∈pq
 | [],_,x,l1,l2,h=>by simp at h
 | a::l,hb,x,l1,l2,h=>by
  simp only[l6,Bool.and_eq_true,Bool.or_eq_true,Bool.not_eq_true',Bool.and_eq_false_iff]at hb
  intro hk hx y hy
  cases l1 with
  | nil=>
   simp only[List.nil_append,List.cons.injEq]at h
   obtain⟨rfl,rfl⟩:=h
   rcases hb.1 with h1|h1
   ·rcases h1 with h1 | h1
    ·simp[hk]at h1
    ·rw [← Bool.not_eq_true,List.contains_iff_mem]at h1
     exact(h1 hx).elim
   ·rw [List.all_eq_true]at h1
    have:=h1 y hy
    rwa [List.contains_iff_mem]at this
  |cons b l1=>
   simp only[List.cons_append,List.cons.injEq]at h
   exact Ao hb.2 x l1 l2 h.2 hk hx y hy
end
structure Pd where
 q:Nat
 t:Nat
 z:List D
 b:Nat
structure afp (is:List AI) (R:List (Nat×Nat)) (B:gN) (M:Map) (s:St) (act:Act) (w:World) (p:Pd):Prop where
 mem:p.q∈R.map (·.1)
 ai:is[p.q]? = some (.op (some p.t) none (.alloc p.z))
 cells : ∃ (vs:Array Value) (T:TypeId),w.heap[p.b]? = some (.cells vs T (0,0))∧vs.size=p.z.length∧(∀ v∈vs,v.oneCell'=true)∧
  ∀ (M:Map) (s:St) (i:Nat) (d:D) (v:Value),p.z[i]? = some d→vs[i]? = some v→RD M s d v
 unk:PH M s p.b
 base:B.w.heap.size≤p.b
 slot:act.tmps.getD p.t Go.undef = .pointer (some ⟨p.b,0,none⟩)
def Bo (P:Program) (is:List AI) (K:Tm→St→Prop) (B:gN) (nt:Nat) (R:List (Nat×Nat)) (eY:List Pd) (act:Act) (w:World):Prop:=
 ∃ (M:Map) (s:St) (tm vv:Tm) (bV:List St),Ext B.M B.s B.w M s w∧Rel M s w∧nn M s vv act.tmps∧(∀ t,(∀ p∈eY,p.t≠t)→vv.get t=tm.get t)∧
  act.tmps.size=nt∧act.defers = []∧lU P is K R bV tm s∧(∀ p∈eY,afp is R B M s act w p)∧
  (∀ p∈eY,∀ p'∈eY,p.q=p'.q∨p.t=p'.t∨p.b=p'.b→p=p')
structure s5 (is:List AI) (af pt:List (List Nat)) (dI:Array Bool) (R:List (Nat×Nat)) (eY:List Pd):Prop where
 ok:wu is af pt [] R=true
 Ju : ∀ i,i<is.length→(dI.getD i false=true↔(i∉R.map (·.1)∨∃ p∈eY,p.q=i))
 cl : ∀ i,i<is.length→dI.getD i false=true→∀ j∈iU pt i,dI.getD j false=true
 size:dI.size=is.length
 lt : ∀ x∈R,x.1<is.length
section
variable {P:Program} {is:List AI} {af pt:List (List Nat)} {K:Tm→St→Prop} {B:gN} {nt:Nat}
theorem afq {dI:Array Bool} {q b:Nat} {R:List (Nat×Nat)} {eY:List Pd} {act:Act} {w:World} (hs:s5 is af pt dI ((q,b)::R) eY) (h:Bo P is K B nt ((q,b)::R) eY act w)
 {p:Pd} (hp:p∈eY) (wz:p.q=q) :
 s5 is af pt dI R (eY.filter fun p'=>decide (p'.q≠q))∧Bo P is K B nt R (eY.filter fun p'=>decide (p'.q≠q)) act w:=by
 have jf : ∀ p',p'∈(eY.filter fun p'=>decide (p'.q≠q))↔p'∈eY∧p'.q≠q:=fun p'=>by simp
 constructor
 ·have pT:=hs.ok
  have Bp:=vu (X:= []) pT
  refine⟨Iy (X:= []) pT,fun i hi=>?_,hs.cl,hs.size,fun x hx=>hs.lt x (List.mem_cons_of_mem _ hx)⟩
  rw[hs.Ju i hi]
  simp only[List.map_cons,List.mem_cons,not_or]
  have hqR:q∉R.map (·.1):=fun hm=>by
   obtain⟨x,hx,rfl⟩:=List.mem_map.1 hm
   exact(Ee Bp.2.2.2.2 x hx).1 (by simp)
  constructor
  ·rintro(⟨h1,h2⟩ | ⟨p',h1,h2⟩)
   ·exact .inl h2
   ·by_cases hq:i=q
    ·subst hq;exact .inl hqR
    ·exact .inr ⟨p',(jf p').2 ⟨h1,by rw[h2];exact hq⟩,h2⟩
  ·rintro(h1 | ⟨p',h1,h2⟩)
   ·by_cases hq:i=q
    ·subst hq;exact .inr ⟨p,hp,wz⟩
    ·exact .inl ⟨hq,h1⟩
   ·exact .inr ⟨p',((jf p').1 h1).1,h2⟩
 ·obtain⟨M,s,tm,vv,bV,e,r,ht,rP,hn,hd,hg,yp,uV⟩:=h
  have hk:=yp p hp
  obtain⟨vs,T,hh,hl,h1,h2⟩:=hk.cells
  have yn:=hk.ai
  rw[wz]at yn
  simp only[lU,yn,AI.kind,iO]at hg
  obtain⟨d,s',jq,hg⟩:=hg
  have oQ:aR (.alloc p.z) tm s=some (d,s'):=jq
  simp only[aR,Option.some.injEq,Prod.mk.injEq]at oQ
  obtain⟨rfl,rfl⟩:=oQ
  obtain⟨r',e',le⟩:=r.ajC e hk.unk hk.base p.z vs T hh hl h1 (h2 M s)
  refine⟨_,_,_,vv.put (some p.t) (.ptr s.ah.length 0),_,e',r',fun u=>?_,fun t PI=>?_,hn,hd,hg,fun p' n6=>?_,fun p1 h1 p2 h2=>uV p1 ((jf p1).1 h1).1 p2 ((jf p2).1 h2).1⟩
  ·rw [Tm.mB]
   split
   ·rename_i heq
    cases heq
    rw[hk.slot]
    have:(M.eA s.ah.length p.b).mu s.ah.length=p.b:=by simp[Map.eA,Map.mu]
    have h5:=RD.ptr (M:=M.eA s.ah.length p.b) (s:= {s with ah:=s.ah++ [p.z]}) s.ah.length 0 (by simp) (by simp[Map.eA,Map.ob,Ob.plain])
    rw[this]at h5
    exact h5
   ·exact(ht u).mono le
  ·simp only [AI.dst]
   rw[Tm.mB,Tm.mB]
   split
   ·rfl
   ·rename_i fm
    refine rP t fun p' n6=>?_
    by_cases hq:p'.q=q
    ·have:=uV p' n6 p hp (.inl (hq.trans wz.symm))
     subst this
     exact fun h=>fm (by rw[h])
    ·exact PI p' ((jf p').2 ⟨n6,hq⟩)
  ·obtain⟨hp1,hp2⟩:=(jf p').1 n6
   have wq:=yp p' hp1
   refine⟨?_,wq.ai,wq.cells,⟨fun o ho=>?_,wq.unk.t,wq.unk.g⟩,wq.base,wq.slot⟩
   ·have:=wq.mem
    simp only[List.map_cons,List.mem_cons]at this
    exact this.resolve_left hp2
   ·simp at ho
    rcases Nat.lt_or_ge o s.ah.length with h5|h5
    ·rw[show(M.eA s.ah.length p.b).mu o=M.mu o from congrArg Prod.fst (vh M p.b .any h5)];exact wq.unk.o o h5
    ·have:o=s.ah.length:=by omega
     subst this
     have:(M.eA s.ah.length p.b).mu s.ah.length=p.b:=by simp[Map.eA,Map.mu]
     rw[this]
     intro hb
     have:=uV p hp p' hp1 (.inr (.inr hb))
     subst this
     exact hp2 wz
theorem norm {dI:Array Bool} {act:Act} {w:World} : ∀ (R:List (Nat×Nat)) (eY:List Pd),s5 is af pt dI R eY→Bo P is K B nt R eY act w→
 ∃ R' yr,s5 is af pt dI R' yr∧Bo P is K B nt R' yr act w∧∀ x l,R'=x::l→∀ p∈yr,p.q≠x.1
 | [],eY,hs,h=>⟨[],eY,hs,h,fun _ _ he=>by cases he⟩
 | (q,b)::R,eY,hs,h=>by
  by_cases hp : ∃ p∈eY,p.q=q
  ·obtain⟨p,hp,wz⟩:=hp
   obtain⟨h1,h2⟩:=afq hs h hp wz
   exact norm R _ h1 h2
  ·refine⟨(q,b)::R,eY,hs,h,fun x l he p hpm wz=>hp ⟨p,hpm, ?_⟩⟩
   cases he
   exact wz
theorem aaP {ops:Array Oper} {q:Nat} {o:Oper} {ai:AI} (hi:ops[q]? = some o) (hc:cI P nt ops o=some ai) {R R':List (Nat×Nat)} {eY:List Pd} {act:Act} {w:World} {M:Map} {s s1:St} {tm vv:Tm} {d:D} {aaQ:List St}
 (e:Ext B.M B.s B.w M s w) (r:Rel M s w) (ht:nn M s vv act.tmps) (rP : ∀ t,(∀ p∈eY,p.t≠t)→vv.get t=tm.get t) (hn:act.tmps.size=nt) (hd:act.defers = [])
 (yp : ∀ p∈eY,afp is R B M s act w p) (uV : ∀ p∈eY,∀ p'∈eY,p.q=p'.q∨p.t=p'.t∨p.b=p'.b→p=p')
 (hv:jI P [ai] (fun a b=>a=vv.put ai.dst d∧b=s1) vv s) (hg:lU P is K R' aaQ (tm.put ai.dst d) s1)
 (jf : ∀ p∈eY,p.q∈R'.map (·.1)) (sf : ∀ p∈eY,ai.dst≠some p.t) {Q:Exit→Act→World→Prop} :
 wpOp P ops Q q (Bo P is K B nt R' eY) act w:=by
 refine zj hi hc r (B.laid.ext e) ht hv fun d' v s2 w1 M1 hk e1 r1 jz=>?_
 obtain⟨yh,rfl⟩:=hk
 have hde:=vt hc
 have hD : ∀ t,o.dst=some t→t<act.tmps.size:=fun t h=>by rw[hn];exact Ak hc t h
 refine⟨M1,s2,tm.put ai.dst d,vv.put ai.dst d,aaQ,e.trans e1,r1, ?_,fun t PI=>?_, ?_, ?_,hg,fun p hp=>?_,uV⟩
 ·rw [← yh,hde]
  exact(ht.mono e1.le).put hD jz
 ·rw[Tm.mB,Tm.mB,rP t PI]
 ·cases ho:o.dst<;>simp[Act.put,hn]
 ·cases ho:o.dst<;>simp[Act.put,hd]
 ·have hk:=yp p hp
  obtain⟨vs,T,hh,hl,h1,h2⟩:=hk.cells
  have hb:=k7 hh
  refine⟨jf p hp,hk.ai,⟨vs,T,by rw[e1.kept p.b hb hk.unk.o hk.unk.t];exact hh,hl,h1,h2⟩,hk.unk.mono e1 hb,hk.base, ?_⟩
  rw[← hk.slot]
  have:=sf p hp
  rw[hde]at this
  cases ho:o.dst with
  |none=>rfl
  |some t=>
   rw[ho]at this
   have fm:t≠p.t:=fun h=>this (by rw[h])
   simp[Act.put,Array.getElem?_setIfInBounds_ne fm]
theorem Rv {ai:AI} (hm:iO ai.kind=false) {tm:Tm} {s:St} {d:D} (h:kI ai tm s=some d):jI P [ai] (fun a b=>a=tm.put ai.dst d∧b=s) tm s:=by
 cases ai with
 | op dst g o=>
  have hko:=PG hm
  have key : ∀ {d},(aR o tm s).map (·.1)=some d→aR o tm s=some (d,s):=by
   intro d h
   cases he:aR o tm s with
   |none=>rw[he]at h;cases h
   |some p=>
    obtain⟨d',s'⟩:=p
    rw[he]at h
    simp only[Option.map_some,Option.some.injEq]at h
    subst h
    rw[OM (by rw[← hko];exact hm) he]
  simp only[jI,AI.dst]
  cases g with
  |none=>
   simp only[kI]at h
   simp only[guarded,key h,and_self]
  | some p=>
   obtain⟨t,want⟩:=p
   simp only[kI]at h
   simp only[guarded]
   split at h
   ·rename_i b hb
    simp only[hb]
    split at h
    ·rename_i heq
     refine⟨fun _=>by simp only[key h,and_self],fun fm=>?_⟩
     subst heq
     cases b<;>cases fm
    ·rename_i fm
     cases h
     exact⟨fun heq=>(fm heq).elim,fun _=>by simp⟩
   ·rename_i ds hb
    cases h
    simp only[hb,and_self]
   ·cases h
 |call dst g f xs=>cases hm
 |nil dst g n x=>cases hm
 |kb dst g t xs=>cases hm
theorem Dc {g:Option (Nat×Bool)} {tm:Tm} {A A' C C':Prop} (ha:A→A') (hc:C→C') (hh:guarded g tm A C):guarded g tm A' C':=by
 cases g with
 |none=>exact ha hh
 | some p=>
  obtain⟨t,want⟩:=p
  unfold guarded at *
  simp only at *
  split
  ·rename_i b hb;rw[hb]at hh;exact⟨fun e=>ha (hh.1 e),fun e=>hc (hh.2 e)⟩
  ·rename_i hb;rw[hb]at hh;exact hc hh
  ·rename_i x h1 h2
   split at hh
   ·exact h1 _ ‹_›
   ·exact h2 _ ‹_›
   ·exact hh
theorem Mu {ai:AI} {tm:Tm} {s s1:St} {d:D} (h:uS P ai tm s d s1):jI P [ai] (fun a b=>a=tm.put ai.dst d∧b=s1) tm s:=by
 cases ai with
 |op dst g o=>
  refine Dc (fun e=>?_) (fun e=>?_) h
  ·rw[e];exact⟨rfl,rfl⟩
  ·obtain⟨rfl,rfl⟩:=e;exact⟨rfl,rfl⟩
 |call dst g f xs=>
  refine Dc (fun e=>?_) (fun e=>?_) h
  ·exact e.mono fun x y hxy=>by obtain⟨rfl,rfl⟩:=hxy;exact⟨rfl,rfl⟩
  ·obtain⟨rfl,rfl⟩:=e;exact⟨rfl,rfl⟩
 |nil dst g n x=>exact h.elim
 |kb dst g t xs=>exact h.elim
end
end Go.Abs
namespace Go.Abs
section
variable {P:Program} {is:List AI} {af pt:List (List Nat)} {K:Tm→St→Prop} {B:gN} {nt:Nat}
theorem Ef {ops:Array Oper} : ∀ {ol:List Oper} {is:List AI},sL P nt ops ol=some is→is.length=ol.length∧∀ (i:Nat) (o:Oper),ol[i]? = some o→∃ ai,is[i]? = some ai∧cI P nt ops o=some ai
 | [],is,h=>by cases h;exact⟨rfl,by simp⟩
 | o::ol,is,h=>by
  unfold sL at h
  split at h
  ·rename_i ai UQ h1 h2
   cases h
   obtain⟨g1,g2⟩:=Ef h2
   refine⟨by simp[g1],fun i o' ho=>?_⟩
   cases i with
   |zero=>simp at ho;subst ho;exact⟨ai,rfl,h1⟩
   |succ i=>exact g2 i o' (by simpa using ho)
  ·cases h
theorem uW {dI:Array Bool} {i:Nat} (h:i<dI.size):dI.getD i true=dI.getD i false:=by
 simp[h]
theorem s5.done {dI:Array Bool} {X Y:List (Nat×Nat)} {q b:Nat} {eY:List Pd} (hs:s5 is af pt dI (X++(q,b)::Y) eY) (hq:q<is.length)
 (kA : ∀ j∈iU pt q,dI.getD j false=true):s5 is af pt (dI.setIfInBounds q true) (X++Y) eY:=by
 obtain⟨g1,g2,g3,g4,g5⟩:=vu hs.ok
 have hqY:q∉Y.map (·.1):=fun hm=>by
  obtain⟨x,hx,rfl⟩:=List.mem_map.1 hm
  exact(Ee g5 x hx).1 (by simp)
 refine⟨Iy hs.ok,fun i hi=>?_,fun i hi hl j hj=>?_,by simp[hs.size],fun x hx=>hs.lt x (by simp at hx ⊢;exact hx.imp id .inr)⟩
 ·by_cases wy:i=q
  ·subst wy
   have:i<dI.size:=by rw[hs.size];exact hq
   simp only[List.map_append,List.mem_append,g2,hqY,or_self,not_false_eq_true,true_or,iff_true]
   simp[this]
  ·rw [getD_set_ne false (Ne.symm wy),hs.Ju i hi]
   simp[wy]
 ·by_cases wy:i=q
  ·subst wy;exact getD_set_true (kA j hj)
  ·rw [getD_set_ne false (Ne.symm wy)]at hl
   exact getD_set_true (hs.cl i hi hl j hj)
theorem s5.flag {dI:Array Bool} {R:List (Nat×Nat)} {eY:List Pd} (hs:s5 is af pt dI R eY) {p:Pd} (hq:p.q<is.length)
 (kA : ∀ j∈iU pt p.q,dI.getD j false=true):s5 is af pt (dI.setIfInBounds p.q true) R (p::eY):=by
 refine⟨hs.ok,fun i hi=>?_,fun i hi hl j hj=>?_,by simp[hs.size],hs.lt⟩
 ·by_cases wy:i=p.q
  ·subst wy
   have:p.q<dI.size:=by rw[hs.size];exact hq
   simp[this]
  ·rw [getD_set_ne false (Ne.symm wy),hs.Ju i hi]
   have fm:p.q≠i:=fun h=>wy h.symm
   simp[fm]
 ·by_cases wy:i=p.q
  ·subst wy;exact getD_set_true (kA j hj)
  ·rw [getD_set_ne false (Ne.symm wy)]at hl
   exact getD_set_true (hs.cl i hi hl j hj)
theorem Rw {ai:AI} (h:ai.kind = .alloc) : ∃ t z,ai = .op (some t) none (.alloc z):=by
 cases ai with
 | op dst g o=>
  unfold AI.kind at h
  split at h
  ·rename_i heq;cases heq;exact⟨_,_,rfl⟩
  ·rename_i heq
   cases heq
   exfalso
   revert h
   cases o<;>simp[AO.kind]
  ·cases h
 |call dst g f xs=>cases h
 |nil dst g n x=>cases h
 |kb dst g t xs=>cases h
theorem Rx {ops:Array Oper} (zk:sL P nt ops ops.toList=some is) (Ry:z7 af pt is.length=true)
 (hK : ∀ tm bH s,Tm.eqv tm bH→K tm s→K bH s) {dI:Array Bool} {R:List (Nat×Nat)} {eY:List Pd} {act:Act} {w:World} (hs:s5 is af pt dI R eY) (h:Bo P is K B nt R eY act w)
 (ajE : ∀ x l,R=x::l→∀ p∈eY,p.q≠x.1) {q:Nat} (hq:q<is.length) (GR:dI.getD q false=false) (jz : ∀ j∈iU af q,j<is.length∧dI.getD j false=true)
 {Q:Exit→Act→World→Prop} {K2:Act→World→Prop} (hK2 : ∀ R' yr a' w',s5 is af pt (dI.setIfInBounds q true) R' yr→Bo P is K B nt R' yr a' w'→K2 a' w'):wpOp P ops Q q K2 act w:=by
 obtain⟨hlen,gA⟩:=Ef zk
 have vn:q<ops.size:=by rw[hlen]at hq;simpa using hq
 obtain⟨ai,yn,U4⟩:=gA q ops[q] (by simp[vn])
 have hi:ops[q]? = some ops[q]:=by simp[vn]
 have kA : ∀ j∈iU pt q,dI.getD j false=true:=fun j hj=>by
  rcases E9 Ry q hq j hj with h1|⟨k,h1,h2⟩
  ·exact(jz j h1).2
  ·exact hs.cl k (jz k h1).1 (jz k h1).2 j h2
 have U5 : ∀ p∈eY,p.q≠q:=fun p hp wz=>by
  have:=(hs.Ju q hq).2 (.inr ⟨p,hp,wz⟩)
  rw[GR]at this;cases this
 have hqR:q∈R.map (·.1):=by
  by_cases hm:q∈R.map (·.1)
  ·exact hm
  ·have:=(hs.Ju q hq).2 (.inl hm)
   rw[GR]at this;cases this
 obtain⟨⟨q',b⟩,hx,hqq⟩:=List.mem_map.1 hqR
 simp only at hqq
 subst hqq
 obtain⟨X,Y,rfl⟩:=List.append_of_mem hx
 obtain⟨g1,g2,g3,g4,g5⟩:=vu hs.ok
 rw[List.append_nil]at g1 g5
 obtain⟨M,s,tm,vv,bV,e,r,ht,rP,hn,hd,hg,yp,uV⟩:=h
 have U6:kd is q'=ai.kind:=by simp[kd,yn]
 -- what must have come up ahead of it, is not here any more, but for what was allocated early
 have aaR : ∀ a∈X.map (·.1),a∈iU pt q'→∃ p∈eY,p.q=a:=fun a ha fi=>by
  have h1:=kA a fi
  obtain⟨x,hxX,rfl⟩:=List.mem_map.1 ha
  rcases(hs.Ju x.1 (hs.lt x (by simp[hxX]))).1 h1 with h2|h2
  ·exact(h2 (by simp;exact .inl ⟨x.2,hxX⟩)).elim
  ·exact h2
 have aaS : ∀ x l,X=x::l→x.1∉iU pt q':=fun x l hX hxp=>by
  obtain⟨p,hp,wz⟩:=aaR x.1 (by simp[hX]) hxp
  exact ajE x (l++(q',b)::Y) (by simp[hX]) p hp wz
 have hpk : ∀ p∈eY,kd is p.q = .alloc:=fun p hp=>by simp[kd,(yp p hp).ai,AI.kind]
 have Bp : ∀ p∈eY,(p.q∈X.map (·.1)→mn is p.q q'=true)→(∀ t,ai.dst=some t→t≠p.t)∧p.t∉ai.reads:=fun p hp hX=>by
  have hk:=yp p hp
  have hm:=hk.mem
  simp only[List.map_append,List.map_cons,List.mem_append,List.mem_cons]at hm
  rcases hm with hm|hm|hm
  ·have:=hX hm
   simp only[mn,hk.ai,yn]at this
   obtain⟨p1,p2,p3⟩:=apart_spec this
   exact⟨fun t ht he=>p3 p.t rfl (by rw[ht,he]),p1 p.t rfl⟩
  ·exact(U5 p hp hm).elim
  ·obtain⟨x,hxY,hxq⟩:=List.mem_map.1 hm
   have:=(Ee g5 x hxY).2 (by rw[hxq];exact hpk p hp) q' (by simp)
   rw[hxq]at this
   simp only[mn,hk.ai,yn]at this
   obtain⟨p1,p2,p3⟩:=apart_spec this
   exact⟨fun t ht he=>p3 t ht (by rw[he];rfl),p2 p.t rfl⟩
 have U7:(∀ p∈eY,p.t∉ai.reads)→∀ t∈ai.reads,tm.get t=vv.get t:=fun hp t ht=>(rP t fun p hpm he=>hp p hpm (by rw[he];exact ht)).symm
 have aaU : ∀ p∈eY,p.q∈(X++Y).map (·.1):=fun p hp=>by
  have hm:=(yp p hp).mem
  have:=U5 p hp
  simp only[List.map_append,List.map_cons,List.mem_append,List.mem_cons]at hm ⊢
  rcases hm with hm|hm|hm
  ·exact .inl hm
  ·exact(this hm).elim
  ·exact .inr hm
 by_cases s6:ai.kind = .alloc
 ·-- an allocation
  obtain⟨t,z,rfl⟩:=Rw s6
  have fi : ∀ a∈X.map (·.1),mn is a q'=true:=fun a ha=>by
   unfold qb at g1
   rw[U6,s6]at g1
   simp only[List.all_reverse,List.all_eq_true]at g1
   exact g1 a ha
  have Cb:=fun p hp=>Bp p hp (fi p.q)
  refine ON hi U4 fun vs T hl h1 h2=>?_
  obtain⟨r1,e1,u1⟩:=r.idle (.cells vs T)
  have afv:t<act.tmps.size:=by
   rw[hn]
   exact Ak U4 t (by rw[← vt U4];rfl)
  have:=hs.flag (p:=⟨q',t,z,w.heap.size⟩) hq kA
  refine hK2 _ _ _ _ this ⟨M,s,tm,vv.put (some t) .junk,bV,e.trans e1,r1,nn.put ht (dst:=some t) (fun u hu=>by cases hu;exact afv) (.junk _),fun u hu=>?_,by simp[Act.put,hn],by simp[Act.put,hd],hg,fun p hp=>?_,fun p hp p' n6 he=>?_⟩
  ·have h3:=hu ⟨q',t,z,w.heap.size⟩ (by simp)
   rw[Tm.mB,if_neg (by simpa using h3)]
   exact rP u fun p hp=>hu p (List.mem_cons_of_mem _ hp)
  ·rcases List.mem_cons.1 hp with rfl | hp
   ·refine⟨by simp,yn,⟨vs,T,heap_alloc_new w _,hl,h1,h2⟩,u1,e.size, ?_⟩
    simp[Act.put,afv]
   ·have hk:=yp p hp
    obtain⟨gb,T',kY,oc,rC,wx⟩:=hk.cells
    refine⟨hk.mem,hk.ai,⟨gb,T',by rw[heap_alloc_old w _ _ (k7 kY)];exact kY,oc,rC,wx⟩,hk.unk,hk.base, ?_⟩
    rw[← hk.slot]
    have fm:t≠p.t:=(Cb p hp).1 t rfl
    simp[Act.put,Array.getElem?_setIfInBounds_ne fm]
  ·have dC : ∀ p∈eY,¬ (q'=p.q∨t=p.t∨w.heap.size=p.b):=fun p hp h=>by
    rcases h with h|h|h
    ·exact U5 p hp h.symm
    ·exact(Cb p hp).1 t rfl h
    ·obtain⟨gb,T',kY,_⟩:=(yp p hp).cells
     have:=k7 kY
     omega
   rcases List.mem_cons.1 hp with rfl|hp<;>rcases List.mem_cons.1 n6 with rfl|n6
   ·rfl
   ·exact(dC p' n6 he).elim
   ·exact(dC p hp (he.imp Eq.symm (Or.imp Eq.symm Eq.symm))).elim
   ·exact uV p hp p' n6 he
 ·by_cases pj:iO ai.kind=true
  ·-- a step that changes something: it stands first
   have hkc:ai.kind = .core:=by
    cases hk:ai.kind<;>simp_all [iO]
   have hX:X = []:=by
    cases X with
    |nil=>rfl
    |cons x l=>
     refine(aaS x l rfl ?_).elim
     unfold qb at g1
     rw[U6,hkc]at g1
     simp only[List.all_reverse,List.all_eq_true]at g1
     have:=g1 x.1 (by simp)
     rwa [List.contains_iff_mem]at this
   subst hX
   have Cb:=fun p hp=>Bp p hp (fun h=>by simp at h)
   simp only[List.nil_append,lU,yn,pj]at hg
   obtain⟨d,s1,jq,hg⟩:=hg
   have anJ:=zh (U7 fun p hp=>(Cb p hp).2) jq
   refine wpOp_mono (fun a' w' hr=>hK2 _ _ _ _ (hs.done hq kA) hr) ?_
   exact aaP hi U4 e r ht rP hn hd yp uV (Mu anJ) hg aaU (fun p hp he=>(Cb p hp).1 _ he rfl)
  ·-- a step that changes nothing
   have hm:iO ai.kind=false:=by simpa using pj
   have o4 : ∀ a∈X.map (·.1),a∉iU pt q':=fun a ha fi=>by
    obtain⟨p,hp,wz⟩:=aaR a ha fi
    have C4:kd is a = .alloc:=by rw[← wz];exact hpk p hp
    have lL:l6 is (iU pt q') (X.map (·.1)).reverse=true:=by
     unfold qb at g1
     rw[U6]at g1
     cases hk:ai.kind with
     |pure=>simp only[hk,Bool.and_eq_true]at g1;exact g1.2
     |load=>simp only[hk,Bool.and_eq_true]at g1;exact g1.1.2
     |alloc=>exact(s6 hk).elim
     |core=>rw[hk]at hm;cases hm
    cases X with
    |nil=>simp at ha
    | cons x l=>
     have ha2:a∈((x::l).map (·.1)).reverse:=List.mem_reverse.2 ha
     obtain⟨l1,l2,Ap⟩:=List.append_of_mem ha2
     have Bq:=Ao lL a l1 l2 Ap C4 fi
     refine aaS x l rfl ?_
     cases kX:l2.reverse with
     |nil=>
      have h3:l2 = []:=by simpa using kX
      subst h3
      have:=congrArg List.reverse Ap
      simp at this
      rw[this.1];exact fi
     |cons y l3=>
      have:=congrArg List.reverse Ap
      simp only[List.reverse_reverse,List.map_cons,List.reverse_append,List.reverse_cons,List.reverse_nil,List.append_assoc,kX,List.cons_append,List.nil_append,List.cons.injEq]at this
      rw[this.1]
      exact Bq y (by rw[← List.mem_reverse,kX];simp)
   have fi : ∀ a∈X,mn is a.1 q'=true:=fun a ha=>by
    have h3 : ∀ x∈(X.map (·.1)).reverse,((iU pt q').contains x ||mn is x q')=true:=by
     unfold qb at g1
     rw[U6]at g1
     cases hk:ai.kind with
     |pure=>simp only[hk,Bool.and_eq_true]at g1;exact List.all_eq_true.1 g1.1
     |load=>simp only[hk,Bool.and_eq_true]at g1;exact List.all_eq_true.1 g1.1.1
     |alloc=>exact(s6 hk).elim
     |core=>rw[hk]at hm;cases hm
    have:=h3 a.1 (List.mem_reverse.2 (List.mem_map_of_mem ha))
    simp only[Bool.or_eq_true,List.contains_iff_mem]at this
    exact this.resolve_left (o4 a.1 (List.mem_map_of_mem ha))
   have afw:ai.kind = .load→ku is (X.map (·.1))≤b:=fun hk=>by
    unfold qb at g1
    rw[U6,hk]at g1
    simp only[Bool.and_eq_true,decide_eq_true_eq]at g1
    have h3:=g1.2
    have h4:(X.map (·.1)).reverse.filter (fun a=> !(iU pt q').contains a)=(X.map (·.1)).reverse:=by
     rw[List.filter_eq_self]
     intro a ha
     have:=o4 a (List.mem_reverse.1 ha)
     simpa using this
    rw[h4]at h3
    unfold ku at h3 ⊢
    rw[List.filter_reverse,List.length_reverse]at h3
    exact h3
   have Cb:=fun p hp=>Bp p hp (fun h=>by
    obtain⟨x,hx,hxq⟩:=List.mem_map.1 h
    rw[← hxq];exact fi x hx)
   obtain⟨d,h1,_,rA⟩:=zi hK yn hm Y X bV tm s fi afw hg
   have rC:kI ai vv s=some d:=by rw[← sx (U7 fun p hp=>(Cb p hp).2)];exact h1
   refine wpOp_mono (fun a' w' hr=>hK2 _ _ _ _ (hs.done hq kA) hr) ?_
   exact aaP hi U4 e r ht rP hn hd yp uV (Rv hm rC) rA aaU (fun p hp he=>(Cb p hp).1 _ he rfl)
theorem Fa {o:Oper} {j:Nat} : j∈n7 o↔∃ e∈o.after,Region.binds .any e=true∧e.on=j:=by
 simp only[n7,List.mem_map,List.mem_filter,Array.mem_toList_iff]
 constructor
 ·rintro⟨e,⟨h1,h2⟩,h3⟩;exact⟨e,h1,h2,h3⟩
 ·rintro⟨e,h1,h2,h3⟩;exact⟨e,⟨h1,h2⟩,h3⟩
theorem Rz {ops:Array Oper} (zk:sL P nt ops ops.toList=some is) (Ry:z7 (ops.toList.map n7) pt is.length=true)
 (afx : ∀ i,i<is.length→∀ j∈iU (ops.toList.map n7) i,j<is.length) {Q:Exit→Tm→St→Prop} (hK : ∀ tm bH s,Tm.eqv tm bH→K tm s→K bH s)
 (hKQ : ∀ tm s act w,K tm s→Holds B nt tm s act w→q9 B nt Q .normal act w) :
 ∀ (fuel:Nat) (dI:Array Bool) (R:List (Nat×Nat)) (eY:List Pd) (act:Act) (w:World) (U:List Nat),U.length≤fuel→(∀ j,j<is.length→dI.getD j false=false→j∈U)→
  s5 is (ops.toList.map n7) pt dI R eY→Bo P is K B nt R eY act w→wpAny P .any ops (q9 B nt Q) fuel dI act w:=by
 obtain⟨hlen,_⟩:=Ef zk
 have uQ:is.length=ops.size:=by rw[hlen];simp
 have afy : ∀ (j:Nat) (o:Oper),ops[j]? = some o→iU (ops.toList.map n7) j=n7 o:=fun j o h=>by
  simp[iU,List.getD,h]
 have fin : ∀ {dI:Array Bool} {eY:List Pd} {act:Act} {w:World},Bo P is K B nt [] eY act w→q9 B nt Q .normal act w:=by
  intro dI eY act w h
  obtain⟨M,s,tm,vv,bV,e,r,ht,rP,hn,hd,hg,yp,uV⟩:=h
  have FB : ∀ p∈eY,False:=fun p hp=>by have:=(yp p hp).mem;simp at this
  exact hKQ vv s act w (hK tm vv s (fun t=>(rP t fun p hp=>(FB p hp).elim).symm) hg) ⟨M,e,r,ht,hn,hd⟩
 have U8 : ∀ {dI:Array Bool} {R:List (Nat×Nat)} {eY:List Pd} {x:Nat×Nat} {l:List (Nat×Nat)},s5 is (ops.toList.map n7) pt dI R eY→R=x::l→(∀ p∈eY,p.q≠x.1)→
  x.1∈Region.ready .any ops dI:=by
  intro dI R eY x l hs hR U5
  subst hR
  have hx:=hs.lt x (by simp)
  rw[mem_ready]
  have GR:dI.getD x.1 false=false:=by
   cases hl:dI.getD x.1 false with
   |false=>rfl
   |true=>
    rcases(hs.Ju x.1 hx).1 hl with h1|⟨p,hp,wz⟩
    ·exact(h1 (by simp)).elim
    ·exact(U5 p hp wz).elim
  have hxo:x.1<ops.size:=by rw[← uQ];exact hx
  refine⟨by rw[uW (by rw[hs.size];exact hx)];exact GR,ops[x.1],by simp[hxo],fun e he hb=>?_⟩
  have hm:e.on∈iU (ops.toList.map n7) x.1:=by rw[afy x.1 ops[x.1] (by simp[hxo])];exact Fa.2 ⟨e,he,hb,rfl⟩
  obtain⟨_,_,_,g4,_⟩:=vu (X:= []) (q:=x.1) (b:=x.2) hs.ok
  obtain⟨h1,h2⟩:=g4 _ hm
  refine(hs.Ju e.on (afx x.1 hx _ hm)).2 (.inl ?_)
  simp only[List.map_cons,List.mem_cons,not_or]
  exact⟨h1,h2⟩
 intro fuel
 induction fuel with
 | zero=>
  intro dI R eY act w U hU GR hs h
  obtain⟨R',yr,qf,h',hn⟩:=norm R eY hs h
  have hUn:U = []:=List.length_eq_zero_iff.1 (by omega)
  have Bq : ∀ j,j<is.length→dI.getD j false=true:=fun j hj=>by
   cases hl:dI.getD j false with
   |true=>rfl
   |false=>have:=GR j hj hl;rw[hUn]at this;cases this
  have hR:R' = []:=by
   cases hR:R' with
   |nil=>rfl
   |cons x l=>
    have hx:=qf.lt x (by simp[hR])
    have:=U8 qf hR (hn x l hR)
    rw[mem_ready,uW (by rw[qf.size];exact hx),Bq x.1 hx]at this
    cases this.1
  subst hR
  refine⟨?_,fin (dI:=dI) h'⟩
  cases hr:Region.ready .any ops dI with
  |nil=>rfl
  |cons j js=>
   have hj:j∈Region.ready .any ops dI:=by rw[hr];simp
   rw[mem_ready]at hj
   obtain⟨h1,o,ho,_⟩:=hj
   have hjl:j<is.length:=by rw[uQ];exact(Array.getElem?_eq_some_iff.1 ho).1
   rw[uW (by rw[hs.size];exact hjl),Bq j hjl]at h1
   cases h1
 | succ fuel ih=>
  intro dI R eY act w U hU GR hs h
  obtain⟨R',yr,qf,h',hn⟩:=norm R eY hs h
  refine⟨fun hr=>?_,fun i hi=>?_⟩
  ·cases hR:R' with
   |nil=>subst hR;exact fin (dI:=dI) h'
   |cons x l=>
    have:=U8 qf hR (hn x l hR)
    rw[hr]at this
    cases this
  ·rw [mem_ready]at hi
   obtain⟨h1,o,ho,anL⟩:=hi
   have sw:i<is.length:=by rw[uQ];exact(Array.getElem?_eq_some_iff.1 ho).1
   rw[uW (by rw[hs.size];exact sw)]at h1
   refine Rx zk Ry hK qf h' hn sw h1 (fun j hj=>⟨afx i sw j hj, ?_⟩) fun R2 ajG a2 w2 sQ h2=>?_
   ·rw [afy i o ho]at hj
    obtain⟨e,he,hb,rfl⟩:=Fa.1 hj
    exact anL e he hb
   ·refine ih _ R2 ajG a2 w2 (U.erase i) ?_ (fun j hj hl=> ?_) sQ h2
    ·have:=List.length_erase_of_mem (GR i sw h1)
     omega
    ·have hji:j≠i:=fun e=>by
      subst e
      have:j<dI.size:=by rw[hs.size];exact sw
      simp[this]at hl
     rw[getD_set_ne false (Ne.symm hji)]at hl
     exact(List.mem_erase_of_ne hji).2 (GR j hj hl)
theorem Sem.par {is:List AI} {mV:List (Nat×Nat)} {Q:Exit→Tm→St→Prop} {tm:Tm} {s:St} (h:lU P is (Q .normal) mV [] tm s):Sem P B nt (.par is mV) Q tm s:=by
 intro c hc act w hh
 obtain⟨id,ops,rfl,hi,hm,pt,hp⟩:=mJ hc
 simp only[LP,Bool.and_eq_true,List.all_eq_true,List.mem_range,List.contains_iff_mem,decide_eq_true_eq]at hp
 obtain⟨⟨⟨⟨h1,h2⟩,h3⟩,h4⟩,h5⟩:=hp
 obtain⟨hlen,_⟩:=Ef hi
 have uQ:is.length=ops.size:=by rw[hlen];simp
 refine wp_region_any hm ?_
 obtain⟨M,e,r,ht,hn,hd⟩:=hh
 have key : ∀ (R:List (Nat×Nat)) (bV:List St) (tm:Tm) (s:St),lU P is (Q .normal) R bV tm s→lU P is (fun tm s=>∃ bH,tm.eqv bH∧Q .normal bH s) R bV tm s:=by
  intro R
  induction R with
  |nil=>intro bV tm s h;exact⟨tm,fun _=>rfl,h⟩
  | cons x R ih=>
   obtain⟨q,b⟩:=x
   intro bV tm s h
   unfold lU at h ⊢
   split at h
   ·exact h.elim
   ·split at h
    ·obtain⟨d,s',h1,h2⟩:=h;exact⟨d,s',h1,ih _ _ _ h2⟩
    ·obtain⟨d,h1,h2,h3⟩:=h;exact⟨d,h1,h2,ih _ _ _ h3⟩
 have hg:=key _ _ _ _ h
 refine Rz (K:=fun tm s=>∃ bH,tm.eqv bH∧Q .normal bH s) hi h1 h5 (fun tm bH s he ⟨t2,h3,h4⟩=>⟨t2,fun t=>(he t).symm.trans (h3 t),h4⟩)
  (fun tm s act w ⟨t2,h3,h4⟩ ⟨M,e,r,ht,hn,hd⟩=>⟨t2,s,h4,M,e,r,fun t=>by rw[← h3 t];exact ht t,hn,hd⟩) ops.size _ mV [] act _ (List.range is.length) (by simp[uQ]) (fun j hj _=>by simpa using hj)
  ⟨h2,fun i hi=>?_,fun i hi hl=>?_,by simp[uQ],h4⟩ ⟨M,s,tm,tm,[],⟨e.le,e.kept,e.rY,e.qY,e.rZ,e.size,e.os,e.tape,e.output⟩,r.of_heap rfl,ht,fun _ _=>rfl,hn,hd,hg,by simp,by simp⟩
 ·have:i<ops.size:=by rw [← uQ];exact hi
  have h6:=h3 i hi
  simp only[List.not_mem_nil,false_and,exists_false,or_false]
  rw[show(Array.replicate ops.size false).getD i false=false by simp[this]]
  simp[h6]
 ·have:i<ops.size:=by rw [← uQ];exact hi
  rw[show(Array.replicate ops.size false).getD i false=false by simp[this]]at hl
  cases hl
end
end Go.Abs
namespace Go.Abs
theorem acA (k:IntKind) (n:Int):D.row (.int k n)=some [.int k n]:=rfl
theorem X0 (b:Bool):D.row (.bool b)=some [.bool b]:=rfl
theorem acB (l:List UInt8):D.row (.str l)=some [.str l]:=rfl
theorem X1:D.row .eI=some [.eI]:=rfl
theorem acC (o f:Nat):D.row (.ptr o f)=some [.ptr o f]:=rfl
theorem X2 (r:List D) (f:Nat):D.row (.dN r f)=some [.dN r f]:=rfl
theorem U9 (g:Tag) (z:Nat) (r:List (List D)):D.row (.slice g z r)=some [.slice g z r]:=rfl
theorem acD (cs:List D):D.row (.agg cs)=some cs:=rfl
theorem acE (v:Value):D.row (.val v)=some [.val v]:=rfl
theorem Va (T:TypeId) (o:Nat):D.row (.fS T o)=some [.fS T o]:=rfl
theorem acF (f:Nat) (cs:List D):D.row (.ie f cs)=some [.ie f cs]:=rfl
theorem X3 (o:Nat):D.row (.gR o)=some [.gR o]:=rfl
theorem X4 (w:Bool):Tag.cut .full w=if w then .full else .shared:=rfl
theorem RA (w:Bool):Tag.cut .shared w = .shared:=rfl
theorem X5 (t:Nat) (y:Bool) (w:Bool):Tag.cut (.tok t y) w = .tok t y:=rfl
section
variable {P:Program}
def KC (P:Program) (r:List AI) (K:Tm→St→Prop) (tm:Tm) (dst:Option Nat) (d:D) (s:St):Prop:=jI P r K (tm.put dst d) s
def GI (P:Program) (g:D) (want:Bool) (i:AI) (r:List AI) (K:Tm→St→Prop) (tm:Tm) (s:St):Prop:=
 match g with
 | .bool b=>(b=want→jI P (i::r) K tm s)∧(b=(!want)→jI P r K (tm.put i.dst (.tuple [])) s)
 | .tuple _=>jI P r K (tm.put i.dst (.tuple [])) s
 |_=>False
def NI (P:Program) (dst:Option Nat) (neg:Bool) (x:D) (r:List AI) (K:Tm→St→Prop) (tm:Tm) (s:St):Prop:=
 match x with
 | .slice _ _ rows=>∀ b:Bool,(rows≠ []→b=false)→jI P r K (tm.put dst (.bool (if neg then !b else b))) s
 |_=>False
def wN (d:D) (A C:Prop):Prop:=
 match d with
 | .bool b=>(b=true→A)∧(b=false→C)
 |_=>False
theorem Sem.ajH {B:gN} {nt:Nat} {Q:Exit→Tm→St→Prop} {tm:Tm} {s:St} {x:X} {a b:AC} (h:wN (x.ev tm) (Sem P B nt a Q tm s) (Sem P B nt b Q tm s)):Sem P B nt (.cond x a b) Q tm s:=by
 unfold wN at h
 split at h
 ·rename_i t ht
  exact Sem.cond ht h.1 h.2
 ·exact h.elim
def iP (P:Program) (K:Tm→St→Prop):List (AI×Nat)→List St→Tm→St→Prop
 | [],_,tm,s=>K tm s
 |(ai,b)::r,bV,tm,s=>
  match iO ai.kind with
  |true=>∃ d s',uS P ai tm s d s'∧iP P K r (s::bV) (tm.put ai.dst d) s'
  |false=>∃ d,kI ai tm s=some d∧(ai.kind = .load→∀ s'∈bV.take b,kI ai tm s'=some d)∧iP P K r bV (tm.put ai.dst d) s
def oe (is:List AI):List (Nat×Nat)→Option (List (AI×Nat))
 | []=>some []
 |(q,b)::r=>match is[q]?,oe is r with
  |some ai,some l=>some ((ai,b)::l)
  |_,_=>none
theorem Iz {is:List AI} {K:Tm→St→Prop} : ∀ {mV:List (Nat×Nat)} {items:List (AI×Nat)} {bV:List St} {tm:Tm} {s:St},oe is mV=some items→iP P K items bV tm s→lU P is K mV bV tm s
 | [],items,bV,tm,s,h,g=>by cases h;exact g
 | (q,b)::r,items,bV,tm,s,h,g=>by
  simp only[oe]at h
  split at h
  ·rename_i ai l h1 h2
   cases h
   simp only[iP]at g
   simp only[lU,h1]
   split at g
   ·rename_i hk
    obtain⟨d,s',g1,g2⟩:=g
    try simp only[hk]
    exact⟨d,s',g1,Iz h2 g2⟩
   ·rename_i hk
    obtain⟨d,g1,g2,g3⟩:=g
    try simp only[hk]
    exact⟨d,g1,g2,Iz h2 g3⟩
  ·cases h
theorem Sem.anM {B:gN} {nt:Nat} {Q:Exit→Tm→St→Prop} {tm:Tm} {s:St} {is:List AI} {mV:List (Nat×Nat)} {items:List (AI×Nat)} (hi:oe is mV=some items) (h:iP P (Q .normal) items [] tm s):Sem P B nt (.par is mV) Q tm s:=
 Sem.par (Iz hi h)
def AI.free:AI→AI
 | .op d _ o=> .op d none o
 | .call d _ f xs=> .call d none f xs
 | .nil d _ n x=> .nil d none n x
 | .kb d _ t xs=> .kb d none t xs
def GL (P:Program) (g:D) (want:Bool) (i:AI) (b:Nat) (r:List (AI×Nat)) (K:Tm→St→Prop) (bV:List St) (tm:Tm) (s:St):Prop:=
 match g with
 | .bool v=>(v=want→iP P K ((i,b)::r) bV tm s)∧(v=(!want)→iP P K r (if iO i.kind then s::bV else bV) (tm.put i.dst (.tuple [])) s)
 | .tuple _=>iP P K r (if iO i.kind then s::bV else bV) (tm.put i.dst (.tuple [])) s
 |_=>False
def CL (one:Bool) (P:Program) (f:Nat) (args:List D) (s:St) (K:D→St→Prop):Prop:=
 match one with
 |true=>∃ d s',aE P f args s d s'∧K d s'
 |false=>bW P f args s K
def KL (P:Program) (K:Tm→St→Prop) (r:List (AI×Nat)) (bV:List St) (tm:Tm) (dst:Option Nat) (d:D) (s:St):Prop:=iP P K r bV (tm.put dst d) s
def pk (i:AI) (tm:Tm) (d:D):List St→Prop
 | []=>True
 |s::r=>kI i tm s=some d∧pk i tm d r
theorem GU {i:AI} {tm:Tm} {d:D} : ∀ {l:List St},pk i tm d l→∀ s∈l,kI i tm s=some d
 | [],_,s,h=>by cases h
 |a::l,h,s,hs=>by
  rcases List.mem_cons.1 hs with rfl|hs
  ·exact h.1
  ·exact GU h.2 s hs
def PL (P:Program) (o:AO) (dst:Option Nat) (b:Nat) (r:List (AI×Nat)) (K:Tm→St→Prop) (bV:List St) (tm:Tm) (s:St):Prop:=
 match aR o tm s with
 |some (d,_)=>pk (.op dst none o) tm d (bV.take b)∧iP P K r bV (tm.put dst d) s
 |none=>False
def ML (P:Program) (o:AO) (dst:Option Nat) (r:List (AI×Nat)) (K:Tm→St→Prop) (bV:List St) (tm:Tm) (s:St):Prop:=
 match aR o tm s with
 |some (d,s')=>iP P K r (s::bV) (tm.put dst d) s'
 |none=>False
def AO.core:AO→Bool
 | .alloc _=>true
 | .box _=>true
 | .w9 .. =>true
 | .CF _=>true
 | .store .. =>true
 | .app .. =>true
 | .ve .. =>true
 | .CH .. =>true
 | .CI .. =>true
 | .apps .. =>true
 | .wJ=>true
 | .A8 .. =>true
 | .A9 .. =>true
 |_=>false
theorem vw (dst:Option Nat) (g:Option (Nat×Bool)) (o:AO):iO (AI.op dst g o).kind=o.core:=by
 cases dst<;>cases g<;>cases o<;>rfl
def OL (P:Program) (o:AO) (dst:Option Nat) (b:Nat) (r:List (AI×Nat)) (K:Tm→St→Prop) (bV:List St) (tm:Tm) (s:St):Prop:=
 match o.core with
 |true=>ML P o dst r K bV tm s
 |false=>PL P o dst b r K bV tm s
theorem Mv {K:Tm→St→Prop} {dst:Option Nat} {o:AO} {b:Nat} {r:List (AI×Nat)} {bV:List St} {tm:Tm} {s:St} (h:OL P o dst b r K bV tm s) :
 iP P K ((.op dst none o,b)::r) bV tm s:=by
 unfold OL at h
 simp only[iP,vw]
 cases hc:o.core with
 | true=>
  simp only[hc,ML]at h
  simp only[]
  split at h
  ·rename_i d s' he
   exact⟨d,s',by simpa[uS,guarded]using he,h⟩
  ·exact h.elim
 | false=>
  simp only[hc,PL]at h
  simp only[]
  split at h
  ·rename_i d s' he
   exact⟨d,by simp[kI,he],fun _=>GU h.1,h.2⟩
  ·exact h.elim
theorem RB {K:Tm→St→Prop} {dst:Option Nat} {f:Nat} {xs:List X} {b:Nat} {r:List (AI×Nat)} {bV:List St} {tm:Tm} {s:St} (h:CL true P f (xs.map (·.ev tm)) s (KL P K r (s::bV) tm dst)) :
 iP P K ((.call dst none f xs,b)::r) bV tm s:=by
 obtain⟨d,s',h1,h2⟩:=h
 exact⟨d,s',h1,h2⟩
theorem afz {K:Tm→St→Prop} {i:AI} {t:Nat} {w:Bool} {b:Nat} {r:List (AI×Nat)} {bV:List St} {tm:Tm} {s:St} {j:AI} (hf:(∃ d o,i = .op d none o∧j = .op d (some (t,w)) o)∨(∃ d f xs,i = .call d none f xs∧j = .call d (some (t,w)) f xs))
 (hg:tm.get t = .bool w) (h:iP P K ((i,b)::r) bV tm s):iP P K ((j,b)::r) bV tm s:=by
 rcases hf with ⟨d,o,rfl,rfl⟩|⟨d,f,xs,rfl,rfl⟩
 ·simp only [iP,vw]at h ⊢
  cases hc:o.core<;>simp only[hc]at h ⊢
  ·obtain⟨x,h1,h2,h3⟩:=h
   refine⟨x,by simpa[kI,hg]using h1,fun hk s' qf=>?_,h3⟩
   have wq:(AI.op d none o).kind = .load:=by
    cases d<;>cases o<;>first|exact hk|(cases hc;done)|(cases hk;done)
   simpa[kI,hg]using h2 wq s' qf
  ·obtain⟨x,s',h1,h2⟩:=h
   exact⟨x,s',by simpa[uS,guarded,hg]using h1,h2⟩
 ·obtain⟨x,s',h1,h2⟩:=h
  exact⟨x,s',by simpa[uS,guarded,hg]using h1,h2⟩
theorem Vb {K:Tm→St→Prop} {i:AI} {t:Nat} {w:Bool} {b:Nat} {r:List (AI×Nat)} {bV:List St} {tm:Tm} {s:St} {j:AI} (hf:(∃ d o,i = .op d none o∧j = .op d (some (t,w)) o)∨(∃ d f xs,i = .call d none f xs∧j = .call d (some (t,w)) f xs))
 (hg:tm.get t = .bool (!w)∨∃ l,tm.get t = .tuple l) (h:iP P K r (if iO i.kind then s::bV else bV) (tm.put i.dst (.tuple [])) s):iP P K ((j,b)::r) bV tm s:=by
 rcases hf with ⟨d,o,rfl,rfl⟩|⟨d,f,xs,rfl,rfl⟩
 ·simp only [iP,vw]at h ⊢
  cases hc:o.core<;>simp only[hc]at h ⊢
  ·refine⟨.tuple [], ?_,fun hk s' qf=> ?_,h⟩
   ·rcases hg with hg|⟨l,hg⟩<;>simp[kI,hg]
   ·rcases hg with hg|⟨l,hg⟩<;>simp[kI,hg]
  ·refine⟨.tuple [],s, ?_,h⟩
   rcases hg with hg|⟨l,hg⟩<;>simp[uS,guarded,hg]
 ·refine⟨.tuple [],s, ?_,h⟩
  rcases hg with hg|⟨l,hg⟩<;>simp[uS,guarded,hg]
theorem PJ {K:Tm→St→Prop} {i j:AI} {t:Nat} {w:Bool} {b:Nat} {r:List (AI×Nat)} {bV:List St} {tm:Tm} {s:St} (hf:(∃ d o,i = .op d none o∧j = .op d (some (t,w)) o)∨(∃ d f xs,i = .call d none f xs∧j = .call d (some (t,w)) f xs))
 (h:GL P (tm.get t) w i b r K bV tm s):iP P K ((j,b)::r) bV tm s:=by
 unfold GL at h
 split at h
 ·rename_i v hv
  by_cases e:v=w
  ·exact afz hf (by rw[hv,e]) (h.1 e)
  ·exact Vb hf (.inl (by rw[hv];cases v<;>cases w<;>simp_all)) (h.2 (by cases v<;>cases w<;>simp_all))
 ·rename_i l hl
  exact Vb hf (.inr ⟨l,hl⟩) h
 ·exact h.elim
theorem Jv {K:Tm→St→Prop} {dst:Option Nat} {o:AO} {t:Nat} {w:Bool} {b:Nat} {r:List (AI×Nat)} {bV:List St} {tm:Tm} {s:St} (h:GL P (tm.get t) w (.op dst none o) b r K bV tm s) :
 iP P K ((.op dst (some (t,w)) o,b)::r) bV tm s:=PJ (.inl ⟨dst,o,rfl,rfl⟩) h
theorem OP {K:Tm→St→Prop} {dst:Option Nat} {f:Nat} {xs:List X} {t:Nat} {w:Bool} {b:Nat} {r:List (AI×Nat)} {bV:List St} {tm:Tm} {s:St} (h:GL P (tm.get t) w (.call dst none f xs) b r K bV tm s) :
 iP P K ((.call dst (some (t,w)) f xs,b)::r) bV tm s:=PJ (.inr ⟨dst,f,xs,rfl,rfl⟩) h
theorem CL.use {one:Bool} {f:Nat} {args:List D} {s:St} {d:D} {s':St} {K:D→St→Prop} (h:aE P f args s d s') (hk:K d s'):CL one P f args s K:=
 match one with
 |true=>⟨d,s',h,hk⟩
 |false=>h.use hk
theorem CU {one:Bool} {f:Nat} {args:List D} {s:St} {d:D} {s':St} {K:D→St→Prop} (h:aE P f args s d s') (hk:K d s'):CL one P f args s K:=CL.use h hk
theorem CR {f:Nat} {args:List D} {s:St} {Q K:D→St→Prop} (h:bW P f args s Q) (hk : ∀ d s',Q d s'→K d s'):CL false P f args s K:=bW.mono h hk
end
end Go.Abs
namespace Go.Abs
theorem nd {α:Type} {a b:α} (h:a=b):a=b:=h
def GJ (g:D) (w:Bool) (A C:Prop):Prop:=
 match g with
 | .bool b=>(b=w→A)∧(b=(!w)→C)
 | .tuple _=>C
 |_=>False
class Two where
 a:Prop
 c:Prop
def CB (d:D) [b:Two] : Prop:=wN d b.a b.c
def GB (d:D) (w:Bool) [b:Two] : Prop:=GJ d w b.a b.c
def og (g:Option (Nat×Bool)) (tm:Tm) (A C:Prop):Prop:=
 match g with
 |none=>A
 |some (t,w)=>GJ (tm.get t) w A C
def ll (P:Program):List AI→(Tm→St→Prop)→Tm→St→Prop
 | [],K,tm,s=>K tm s
 | .op dst g o::r,K,tm,s=>og g tm (match aR o tm s with|some (d,s')=>ll P r K (tm.put dst d) s'|none=>False) (ll P r K (tm.put dst (.tuple [])) s)
 | .call dst g f xs::r,K,tm,s=>og g tm (CL false P f (xs.map (·.ev tm)) s fun d s'=>ll P r K (tm.put dst d) s') (ll P r K (tm.put dst (.tuple [])) s)
 | .nil dst g neg x::r,K,tm,s=>
  og g tm (match x.ev tm with
   | .slice _ _ rows=>∀ b:Bool,(rows≠ []→b=false)→ll P r K (tm.put dst (.bool (if neg then !b else b))) s
   |_=>False) (ll P r K (tm.put dst (.tuple [])) s)
 | .kb dst g t xs::r,K,tm,s=>
  og g tm (match tm.get t with
   | .ie f oW=>enters P f=true∧CL false P f (xs.map (·.ev tm)++oW) s fun d s'=>ll P r K (tm.put dst d) s'
   |_=>False) (ll P r K (tm.put dst (.tuple [])) s)
theorem uX {g:Option (Nat×Bool)} {tm:Tm} {A C A' C':Prop} (h:og g tm A C) (ha:A→A') (hc:C→C'):guarded g tm A' C':=by
 unfold og at h
 unfold guarded
 cases g with
 |none=>exact ha h
 | some p=>
  obtain⟨t,w⟩:=p
  simp only[GJ]at h ⊢
  split at h
  ·rename_i hb;try simp only [hb]
   exact⟨fun e=>ha (h.1 e),fun e=>hc (h.2 e)⟩
  ·rename_i hb;try simp only [hb]
   exact hc h
  ·exact h.elim
theorem pD {P:Program} {K:Tm→St→Prop} : ∀ {is:List AI} {tm:Tm} {s:St},ll P is K tm s→jI P is K tm s
 | [],tm,s,h=>h
 | .op dst g o::r,tm,s,h=>by
  refine uX h (fun h=>?_) pD
  split at h
  ·rename_i he;try simp only [he]
   exact pD h
  ·exact h.elim
 | .call dst g f xs::r,tm,s,h=>uX h (fun h=>bW.mono h fun _ _ h=>pD h) pD
 | .nil dst g neg x::r,tm,s,h=>by
  refine uX h (fun h=>?_) pD
  split at h
  ·rename_i he;try simp only [he]
   exact fun b hb=>pD (h b hb)
  ·exact h.elim
 | .kb dst g t xs::r,tm,s,h=>by
  refine uX h (fun h=>?_) pD
  split at h
  ·rename_i he;try simp only [he]
   exact⟨h.1,bW.mono h.2 fun _ _ h=>pD h⟩
  ·exact h.elim
def iy (P:Program) (K:Tm→St→Prop):List (AI×Nat)→List St→Tm→St→Prop
 | [],_,tm,s=>K tm s
 |(.op dst g o,b)::r,bV,tm,s=>
  match o.core with
  |true=>og g tm (match aR o tm s with|some (d,s')=>iy P K r (s::bV) (tm.put dst d) s'|none=>False) (iy P K r (s::bV) (tm.put dst (.tuple [])) s)
  |false=>og g tm (match aR o tm s with|some (d,_)=>pk (.op dst none o) tm d (bV.take b)∧iy P K r bV (tm.put dst d) s|none=>False) (iy P K r bV (tm.put dst (.tuple [])) s)
 |(.call dst g f xs,_)::r,bV,tm,s=>og g tm (CL true P f (xs.map (·.ev tm)) s fun d s'=>iy P K r (s::bV) (tm.put dst d) s') (iy P K r (s::bV) (tm.put dst (.tuple [])) s)
 |(.nil ..,_)::_,_,_,_=>False
 |(.kb ..,_)::_,_,_,_=>False
theorem De {P:Program} {t:Nat} {w:Bool} {tm:Tm} {i:AI} {b:Nat} {r:List (AI×Nat)} {K:Tm→St→Prop} {bV:List St} {s:St} {A C:Prop} (h:og (some (t,w)) tm A C) (ha:A→iP P K ((i,b)::r) bV tm s)
 (hc:C→iP P K r (if iO i.kind then s::bV else bV) (tm.put i.dst (.tuple [])) s):GL P (tm.get t) w i b r K bV tm s:=by
 simp only[og,GJ]at h
 unfold GL
 split at h
 ·rename_i hb;try simp only [hb]
  exact⟨fun e=>ha (h.1 e),fun e=>hc (h.2 e)⟩
 ·rename_i hb;try simp only [hb]
  exact hc h
 ·exact h.elim
theorem nM {P:Program} {K:Tm→St→Prop} : ∀ {l:List (AI×Nat)} {bV:List St} {tm:Tm} {s:St},iy P K l bV tm s→iP P K l bV tm s
 | [],bV,tm,s,h=>h
 | (.op dst g o,b)::r,bV,tm,s,h=>by
  simp only[iy]at h
  cases hc:o.core with
  | true=>
   simp only[hc]at h
   have ha:(match aR o tm s with|some (d,s')=>iy P K r (s::bV) (tm.put dst d) s'|none=>False)→iP P K ((.op dst none o,b)::r) bV tm s:=by
    intro h
    refine Mv ?_
    simp only[OL,hc,ML]
    split at h
    ·rename_i he;try simp only [he]
     exact nM h
    ·exact h.elim
   cases g with
   |none=>exact ha h
   |some p=>
    obtain⟨t,w⟩:=p
    refine Jv (De h ha fun h=>?_)
    simp only[vw,hc,if_true]
    exact nM h
  | false=>
   simp only[hc]at h
   have ha:(match aR o tm s with|some (d,_)=>pk (.op dst none o) tm d (bV.take b)∧iy P K r bV (tm.put dst d) s|none=>False)→iP P K ((.op dst none o,b)::r) bV tm s:=by
    intro h
    refine Mv ?_
    simp only[OL,hc,PL]
    split at h
    ·rename_i he;try simp only [he]
     exact⟨h.1,nM h.2⟩
    ·exact h.elim
   cases g with
   |none=>exact ha h
   |some p=>
    obtain⟨t,w⟩:=p
    refine Jv (De h ha fun h=>?_)
    simp only[vw,hc]
    exact nM h
 | (.call dst g f xs,b)::r,bV,tm,s,h=>by
  simp only[iy]at h
  have ha:(CL true P f (xs.map (·.ev tm)) s fun d s'=>iy P K r (s::bV) (tm.put dst d) s')→iP P K ((.call dst none f xs,b)::r) bV tm s:=
   fun⟨d,s',h1,h2⟩=>RB ⟨d,s',h1,nM h2⟩
  cases g with
  |none=>exact ha h
  |some p=>
   obtain⟨t,w⟩:=p
   exact OP (De h ha fun h=>nM h)
 |(.nil ..,_)::_,bV,tm,s,h=>h.elim
 |(.kb ..,_)::_,bV,tm,s,h=>h.elim
section
variable {P:Program} {B:gN} {nt:Nat}
def jJ (P:Program) (B:gN) (nt:Nat):AC→(Exit→Tm→St→Prop)→Tm→St→Prop
 | .skip,Q,tm,s=>Q .normal tm s
 | .run is,Q,tm,s=>ll P is (Q .normal) tm s
 | .par is mV,Q,tm,s=>match oe is mV with|some l=>iy P (Q .normal) l [] tm s|none=>False
 | .seq a b,Q,tm,s=>jJ P B nt a (la (jJ P B nt b Q) Q) tm s
 | .cond x a b,Q,tm,s=>wN (x.ev tm) (jJ P B nt a Q tm s) (jJ P B nt b Q tm s)
 | .block id a,Q,tm,s=>jJ P B nt a (iI id Q) tm s
 | .loop a,Q,tm,s=>bl P B nt a Q tm s
 | .exit id,Q,tm,s=>Q (.exit id) tm s
 | .scope a,Q,tm,s=>lS P B nt a a Q tm s
 | .label _,Q,tm,s=>Q .normal tm s
 | .goto l,Q,tm,s=>Q (.goto l) tm s
 | .ret,Q,tm,s=>Q .ret tm s
theorem jt : ∀ {ac:AC} {Q:Exit→Tm→St→Prop} {tm:Tm} {s:St},jJ P B nt ac Q tm s→Sem P B nt ac Q tm s:=by
 intro ac
 induction ac with
 |skip=>exact fun h=>Sem.skip h
 |run is=>exact fun h=>Sem.run (pD h)
 |par is mV=>
  intro Q tm s h
  simp only[jJ]at h
  split at h
  ·exact Sem.anM ‹_› (nM h)
  ·exact h.elim
 |seq a b UT UU=>
  intro Q tm s h
  refine Sem.seq ((UT h).mono fun e tm s hq=>?_)
  cases e with
  |normal=>exact UU hq
  |_=>exact hq
 |cond x a b UT UU=>
  intro Q tm s h
  refine Sem.ajH ?_
  simp only[jJ]at h
  unfold wN at h ⊢
  split at h
  ·exact⟨fun e=>UT (h.1 e),fun e=>UU (h.2 e)⟩
  ·exact h.elim
 |block id a ih=>exact fun h=>Sem.block (ih h)
 |loop a ih=>exact fun h=>Sem.loop h
 |exit id=>exact fun h=>Sem.exit h
 |scope a ih=>exact fun h=>Sem.scope h
 |label l=>exact fun h=>Sem.label h
 |goto l=>exact fun h=>Sem.goto h
 |ret=>exact fun h=>Sem.ret h
section
variable (Q:Exit→Tm→St→Prop) (N:Tm→St→Prop) (tm:Tm) (s:St) (a b:AC) (is:List AI) (x:X)
theorem X6:jJ P B nt .skip Q tm s=Q .normal tm s:=nd rfl
theorem acH:jJ P B nt (.run is) Q tm s=ll P is (Q .normal) tm s:=nd rfl
theorem acI (mV:List (Nat×Nat)):jJ P B nt (.par is mV) Q tm s=match oe is mV with|some l=>iy P (Q .normal) l [] tm s|none=>False:=nd rfl
theorem acJ:jJ P B nt (.seq a b) Q tm s=jJ P B nt a (la (jJ P B nt b Q) Q) tm s:=nd rfl
theorem X7:jJ P B nt (.cond x a b) Q tm s = @CB (x.ev tm) ⟨jJ P B nt a Q tm s,jJ P B nt b Q tm s⟩:=nd rfl
theorem Vc (id:Nat):jJ P B nt (.block id a) Q tm s=jJ P B nt a (iI id Q) tm s:=nd rfl
theorem X8:jJ P B nt (.loop a) Q tm s=bl P B nt a Q tm s:=nd rfl
theorem Vd:jJ P B nt (.scope a) Q tm s=lS P B nt a a Q tm s:=nd rfl
theorem X9 (id:Nat):jJ P B nt (.exit id) Q tm s=Q (.exit id) tm s:=nd rfl
theorem Ve (id:Nat):jJ P B nt (.label id) Q tm s=Q .normal tm s:=nd rfl
theorem Ya (id:Nat):jJ P B nt (.goto id) Q tm s=Q (.goto id) tm s:=nd rfl
theorem acK:jJ P B nt .ret Q tm s=Q .ret tm s:=nd rfl
theorem acL:la N Q .normal tm s=N tm s:=nd rfl
theorem acM:la N Q .ret tm s=Q .ret tm s:=nd rfl
theorem acN (id:Nat):la N Q (.exit id) tm s=Q (.exit id) tm s:=nd rfl
theorem acO (id:Nat):la N Q (.goto id) tm s=Q (.goto id) tm s:=nd rfl
theorem Yb (id:Nat):iI id Q .normal tm s=Q .normal tm s:=nd rfl
theorem Yc (id:Nat):iI id Q .ret tm s=Q .ret tm s:=nd rfl
theorem Yd (id l:Nat):iI id Q (.goto l) tm s=Q (.goto l) tm s:=nd rfl
theorem Ye (id i:Nat):iI id Q (.exit i) tm s=if i=id then Q .normal tm s else Q (.exit i) tm s:=nd rfl
end
theorem bl.jV {a:AC} {Q:Exit→Tm→St→Prop} {tm:Tm} {s:St} (h:jJ P B nt a (la (bl P B nt a Q) Q) tm s):bl P B nt a Q tm s:=bl.once (jt h)
theorem lS.jV {a r:AC} {Q:Exit→Tm→St→Prop} {tm:Tm} {s:St} (h:jJ P B nt r (Bl P B nt a Q) tm s):lS P B nt a r Q tm s:=lS.once (jt h)
def yu (tm:Tm) (n m:Nat):Tm→Prop
 | []=>True
 |(k,d)::r=>Wk ((tm.get k).fg n m) d∧yu tm n m r
theorem yu.get {tm:Tm} {n m:Nat} : ∀ {bH:Tm},yu tm n m bH→∀ t,Wk ((tm.get t).fg n m) (bH.get t)
 | [],_,t=>Wk.junk _
 |(k,d)::r,h,t=>by
  simp only[Tm.get]
  split
  ·rename_i hk;subst hk;exact h.1
  ·exact yu.get h.2 t
theorem Holds.re {Q:Exit→Tm→St→Prop} {tm bH:Tm} {s:St} {ff:List (List D)} {act:Act} {w:World} (n m:Nat) (hn:B.s.ah.length≤n) (hm:B.s.ay.length≤m) (ht:yu tm n m bH) (ho:gY (s.cut n m).ah ff)
 (h:Holds B nt tm s act w):Holds B nt bH ⟨ff,(s.cut n m).ay⟩ act w:=by
 obtain⟨M,e,r,hr,h1,h2⟩:=h
 obtain⟨r',le⟩:=(r.cut n m).o5 ho
 have e':=e.cut hn hm
 refine⟨M,e'.trans ⟨le,fun _ _ _ _=>rfl,fun o h1 h2=>?_,fun t b c z hl e=> .inl ⟨hl,c,z,e⟩,fun _ _ h=>(h rfl).elim,Nat.le_refl _,rfl,rfl,rfl⟩,r',fun k=>((ht.get k) _ _ _ ((hr k).fg n m)).mono le,h1,h2⟩
 rw[← ho.len]at h2
 exact h1.elim (fun h1=>absurd h2 (Nat.not_lt.2 h1)) fun h1=>(h1 rfl).elim
theorem bl.re {a:AC} {Q:Exit→Tm→St→Prop} {tm:Tm} {s:St} (bH:Tm) (ff:List (List D)) (n m:Nat) (hn:B.s.ah.length≤n) (hm:B.s.ay.length≤m) (ht:yu tm n m bH) (ho:gY (s.cut n m).ah ff)
 (h:bl P B nt a Q bH ⟨ff,(s.cut n m).ay⟩):bl P B nt a Q tm s:=
 fun c hc act w hh=>h c hc act w (hh.re (Q:=Q) n m hn hm ht ho)
theorem bl.ind {ι:Type} {a:AC} {Q:Exit→Tm→St→Prop} (I:ι→Prop) (μ:ι→Nat) (TM:ι→Tm) (ST:ι→St)
 (step : ∀ i,I i→(∀ j,I j→μ j<μ i→bl P B nt a Q (TM j) (ST j))→jJ P B nt a (la (bl P B nt a Q) Q) (TM i) (ST i)) : ∀ i,I i→bl P B nt a Q (TM i) (ST i):=by
 have key : ∀ n i,μ i<n→I i→bl P B nt a Q (TM i) (ST i):=by
  intro n
  induction n with
  |zero=>intro i h;exact absurd h (Nat.not_lt_zero _)
  |succ n ih=>exact fun i h hi=>bl.jV (step i hi fun j hj hD=>ih j (by omega) hj)
 exact fun i hi=>key (μ i+1) i (Nat.lt_succ_self _) hi
theorem drop_cons {α:Type} {l rest:List α} {k:Nat} {x:α} (h:l.drop k=x::rest):l[k]? = some x∧l.drop (k+1)=rest∧decide ((k:Int)<(l.length:Int))=true∧k<l.length:=by
 have h1:l[k]? = some x:=by
  have:(l.drop k)[0]? = some x:=by rw[h];rfl
  simpa using this
 have h2:=(List.getElem?_eq_some_iff.1 h1).1
 refine⟨h1, ?_,by simpa using h2,h2⟩
 have:l.drop (k+1)=(l.drop k).drop 1:=by rw[List.drop_drop]
 rw[this,h];rfl
theorem drop_nil {α:Type} {l:List α} {k:Nat} (h:l.drop k = []):decide ((k:Int)<(l.length:Int))=false:=by
 have:=List.drop_eq_nil_iff.1 h
 simp;omega
theorem bl.s7 {a:AC} {Q:Exit→Tm→St→Prop} {tm:Tm} {s:St} (t z':Nat) {z:Nat} (hw:tm.get t = .slice .full z [])
 (h:bl P B nt a Q (tm.set t (.slice (.tok s.ay.length) z' [])) {s with ay:=s.ay++ [some 0]}):bl P B nt a Q tm s:=by
 intro c hc act w ⟨M,e,r,ht,h1,h2⟩
 obtain⟨r',le⟩:=r.blank
 refine h c hc act w ⟨_,Js e le,r',fun k=>?_,h1,h2⟩
 rw[Tm.Io]
 split
 ·rename_i hk;subst hk;have:=ht k;rw[hw]at this;exact this.own
 ·exact(ht k).mono le
theorem bl.ur {a:AC} {Q:Exit→Tm→St→Prop} {tm:Tm} {s:St} (o i z':Nat) {z:Nat} {cs:List D} (hc:s.ah[o]? = some cs) (hi:cs[i]? = some (.slice .full z []))
 (h:bl P B nt a Q tm ⟨s.ah.set o (cs.set i (.slice (.tok s.ay.length) z' [])),s.ay++ [some 0]⟩):bl P B nt a Q tm s:=by
 intro c hcc act w hh
 obtain⟨M,e,r,ht,h1,h2⟩:=hh
 obtain⟨r',le⟩:=r.blank
 have le':Le M s (M.fB s.ay.length none) ⟨s.ah.set o (cs.set i (.slice (.tok s.ay.length) z' [])),s.ay++ [some 0]⟩:=⟨le.G,by simp,le.loc,le.t,le.tk⟩
 have le2:Le (M.fB s.ay.length none) {s with ay:=s.ay++ [some 0]} (M.fB s.ay.length none) ⟨s.ah.set o (cs.set i (.slice (.tok s.ay.length) z' [])),s.ay++ [some 0]⟩:=
  ⟨fun _ _ _ h=>h,by simp,fun _ _=> .refl _,Nat.le_refl _,fun t n' _ e=>⟨n',e,Nat.le_refl _,fun _=>rfl⟩⟩
 have r2:Rel (M.fB s.ay.length none) ⟨s.ah.set o (cs.set i (.slice (.tok s.ay.length) z' [])),s.ay++ [some 0]⟩ w:=by
  refine⟨r'.comm,fun o' ds e=>?_,fun o ho=>r'.jX o (by simpa using ho),fun o o' ho oO=>r'.inj o o' (by simpa using ho) (by simpa using oO),r'.tok,
   fun t b c z o hv e ho=>r'.fy t b c z o hv e (by simpa using ho),r'.gL⟩
  simp only[List.getElem?_set]at e
  split at e
  ·rename_i ho
   subst ho
   split at e
   ·cases e
    obtain⟨vs,T,g1,g2,g3,g4⟩:=r.obj o cs hc
    refine⟨vs,T,g1,by simpa using g2,g3,fun j d v e1 e2=>?_⟩
    rw[List.getElem?_set]at e1
    split at e1
    ·rename_i hj
     subst hj
     split at e1
     ·cases e1
      exact((g4 i _ v hi e2).own (z':=z')).mono le2
     ·cases e1
    ·exact(g4 j d v e1 e2).mono le'
   ·cases e
  ·obtain⟨vs,T,g1,g2,g3,g4⟩:=r'.obj o' ds e
   exact⟨vs,T,g1,g2,g3,fun i d v e1 e2=>(g4 i d v e1 e2).mono le2⟩
 have ee:Ext B.M B.s B.w (M.fB s.ay.length none) ⟨s.ah.set o (cs.set i (.slice (.tok s.ay.length) z' [])),s.ay++ [some 0]⟩ w:=by
  refine(Js e le).trans ⟨le2,fun _ _ _ _=>rfl,fun o h1 h2=>?_,fun t b c z hl e=> .inl ⟨hl,c,z,e⟩,fun _ _ h=>(h rfl).elim,Nat.le_refl _,rfl,rfl,rfl⟩
  simp at h2
  exact h1.elim (fun h1=>absurd h2 (Nat.not_lt.2 h1)) fun h1=>(h1 rfl).elim
 exact h c hcc act w ⟨_,ee,r2,fun k=>(ht k).mono le',h1,h2⟩
theorem FF {ac r:AC} {l:Nat} {Q:Exit→Tm→St→Prop} {tm:Tm} {s:St} (hf:wL ac l=some r) (h:lS P B nt ac r Q tm s):Bl P B nt ac Q (.goto l) tm s:=⟨r,hf,h⟩
theorem Sem.oh {a b:AC} {Q:Exit→Tm→St→Prop} {tm:Tm} {s:St} (h:jJ P B nt a (la (Sem P B nt b Q) Q) tm s):Sem P B nt (.seq a b) Q tm s:=Sem.seq (jt h)
theorem Sem.re {a:AC} {Q:Exit→Tm→St→Prop} {tm:Tm} {s:St} (bH:Tm) (ff:List (List D)) (n m:Nat) (hn:B.s.ah.length≤n) (hm:B.s.ay.length≤m) (ht:yu tm n m bH) (ho:gY (s.cut n m).ah ff)
 (h:Sem P B nt a Q bH ⟨ff,(s.cut n m).ay⟩):Sem P B nt a Q tm s:=
 fun c hc act w hh=>h c hc act w (hh.re (Q:=Q) n m hn hm ht ho)
def Has (P:Program) (f nt:Nat) (res:List (Nat×Option (Bool×Nat))) (body:AC):Prop:=∃ fn,P.funcs[f]? = some fn∧cF P fn=some ⟨nt,res,body⟩
theorem aE.go {f:FuncId} {res:List (Nat×Option (Bool×Nat))} {body:AC} {args:List D} {s:St} {d:D} {s':St} (h0:Has P f nt res body) (hl:Nat.ble args.length nt=true)
 (h : ∀ (B:gN) (Q:Exit→Tm→St→Prop),B.s=s→rf s.ah.length s.ay.length res d s'=Q→jJ P B nt body Q (nV 0 args) s):aE P f args s d s':=by
 obtain⟨fn,hf,hc⟩:=h0
 exact aE.intro ⟨fn,hf,hc⟩ (Nat.le_of_ble_eq_true hl) fun B hB=>jt (h B _ hB rfl)
theorem aE.anP {f:FuncId} {pre post:List D} {rows pR:List (List D)} {z z' k k':Nat} (h:aE P f (pre++ .slice (.tok 0) z rows::post) ⟨[],[some k]⟩ (.slice (.tok 0) z' pR) ⟨[],[some k']⟩)
 (hp:D.bK 0 0 pre=true) (ha:D.bK 0 0 post=true) (hw:D.jd 0 0 rows=true) (hw':D.jd 0 0 pR=true)
 {s:St} {t:Nat} (ht:s.ay[t]? = some (some k)):aE P f (pre++ .slice (.tok t) z rows::post) s (.slice (.tok t) z' pR) ⟨s.ah,s.ay.set t (some k')⟩:=by
 refine bW.frame [] [t] h (by simp) (by simp) (by simp) (by simpa using (List.getElem?_eq_some_iff.1 ht).1) rfl (fun i o' ds e1 e2=>by simp at e1) rfl (fun i t' e1=>?_)
  ?_ ?_ ?_
 ·cases i with
  |zero=>simp at e1;subst e1;simp[ht]
  |succ i=>simp at e1
 ·have h1:=fL [] [t] _ hp
  have h2:=fL [] [t] _ ha
  rw[gK]at h1 h2
  simp[gK,D.cJ,Tag.cJ,h1,h2,jT _ _ _ hw]
 ·have h1:=jk (n':=0) (m':=1) (Nat.le_refl 0) (Nat.zero_le 1) _ hp
  have h2:=jk (n':=0) (m':=1) (Nat.le_refl 0) (Nat.zero_le 1) _ ha
  rw[Al]at h1 h2 ⊢
  simp only[List.length_nil,List.length_cons,List.all_append,h1,Bool.true_and,List.all_cons,h2,Bool.and_true,D.ok,Tag.ok,nL (Nat.zero_le 0) (Nat.zero_le 1) _ hw]
  rfl
 ·rintro _ _ ⟨rfl,rfl⟩
  refine⟨by simp[D.back,D.cJ,Tag.cJ,kv,jT _ _ _ hw'], ?_⟩
  simp[St.back,lk]
theorem anQ (A C:Prop) : @CB (.bool true) ⟨A,C⟩=A:=by simp[CB,wN]
theorem anR (A C:Prop) : @CB (.bool false) ⟨A,C⟩=C:=by simp[CB,wN]
theorem afD (b:Bool) (A C:Prop) : @CB (.bool (!b)) ⟨A,C⟩ = @CB (.bool b) ⟨C,A⟩:=by
 cases b<;>simp[CB,wN]
theorem Mw {b:Bool} {A C:Prop} (h1:b=true→A) (h2:b=false→C) : @CB (.bool b) ⟨A,C⟩:=⟨h1,h2⟩
theorem afE {b:Bool} {A C:Prop} (h:b=true) (h1:b=true→A) : @CB (.bool b) ⟨A,C⟩:=Mw h1 (fun h'=>by rw[h]at h';cases h')
theorem afF {b:Bool} {A C:Prop} (h:b=false) (h1:b=false→C) : @CB (.bool b) ⟨A,C⟩:=Mw (fun h'=>by rw[h]at h';cases h') h1
theorem ajK {n m:Nat} {res:List (Nat×Option (Bool×Nat))} {d:D} {s':St} {tm:Tm} {s:St} {Q:Exit→Tm→St→Prop} (hQ:rf n m res d s'=Q)
 (h : ∃ l,aT res tm s=some l∧Wk ((aV l).fg n m) d∧gY (s.cut n m).ah s'.ah∧(s.cut n m).ay=s'.ay):Q .ret tm s:=hQ ▸ h
theorem ajL {n m:Nat} {res:List (Nat×Option (Bool×Nat))} {d:D} {s':St} {tm:Tm} {s:St} {Q:Exit→Tm→St→Prop} (hQ:rf n m res d s'=Q)
 (h : ∃ l,aT res tm s=some l∧Wk ((aV l).fg n m) d∧gY (s.cut n m).ah s'.ah∧(s.cut n m).ay=s'.ay):Q .normal tm s:=hQ ▸ h
end
attribute [go_sem] X6 acH acI acJ X7 Vc X8 Vd X9 Ve Ya acK acL acM acN acO Yb Yc Yd Ye
theorem Vf : ∀ (tm:Tm) (s:St) (x:X),aR (AO.mv x) tm s=some (X.ev tm x,s):=
 fun tm s x=>nd (aR.eq_1 tm s x)
theorem Vg : ∀ (tm:Tm) (s:St) (c a b:X),
 aR (AO.pick c a b) tm s =
  match X.ev tm c with
  |D.bool t=>some (if t=true then X.ev tm a else X.ev tm b,s)
  |x=>none:=
 fun tm s c a b=>nd (aR.eq_2 tm s c a b)
theorem Vh : ∀ (tm:Tm) (s:St) (zero:List D),
 aR (AO.alloc zero) tm s=some (D.ptr s.ah.length 0,{ah:=s.ah++ [zero],ay:=s.ay}):=
 fun tm s zero=>nd (aR.eq_3 tm s zero)
theorem Vi : ∀ (tm:Tm) (s:St) (x:X),
 aR (AO.box x) tm s =
  match (X.ev tm x).row with
  |some r=>some (D.ptr s.ah.length 0,{ah:=s.ah++ [r],ay:=s.ay})
  |none=>none:=
 fun tm s x=>nd (aR.eq_4 tm s x)
theorem Vj : ∀ (tm:Tm) (s:St) (zero:List D) (parts:List (Nat×Nat×X)),
 aR (AO.build zero parts) tm s =
  match sJ zero (List.map (fun(p:Nat×Nat×X)=>(p.fst,p.snd.fst,X.ev tm p.snd.snd)) parts)with
  |some cs=>some (D.agg cs,s)
  |none=>none:=
 fun tm s zero parts=>nd (aR.eq_5 tm s zero parts)
theorem Vk : ∀ (tm:Tm) (s:St) (zero:List D) (size n:Nat) (parts:List (Nat×X)),
 aR (AO.dg zero size n parts) tm s =
  match kO size (gu zero n) (List.map (fun(p:Nat×X)=>(p.fst,X.ev tm p.snd)) parts)with
  |some rows=>some (D.slice Tag.full size rows,s)
  |none=>none:=
 fun tm s zero size n parts=>nd (aR.eq_6 tm s zero size n parts)
theorem Vl : ∀ (tm:Tm) (s:St) (zero:List D) (size n:Nat) (parts:List (Nat×X)),
 aR (AO.w9 zero size n parts) tm s =
  match kO size (gu zero n) (List.map (fun(p:Nat×X)=>(p.fst,X.ev tm p.snd)) parts)with
  |some rows=>
   some (D.slice (Tag.tok s.ay.length) size rows,{ah:=s.ah,ay:=s.ay++ [some rows.length]})
  |none=>none:=
 fun tm s zero size n parts=>nd (aR.eq_7 tm s zero size n parts)
theorem Vm : ∀ (tm:Tm) (s:St) (x:X),
 aR (AO.CF x) tm s =
  match X.ev tm x with
  | D.slice (Tag.tok t _) z rows=>
   if rows≠ []∧s.ay[t]? = some (some rows.length)then
    some (D.slice Tag.shared z rows,{ah:=s.ah,ay:=s.ay.set t none})
   else none
  |x=>none:=
 fun tm s x=>nd (aR.eq_8 tm s x)
theorem Vn : ∀ (tm:Tm) (s:St) (x:X) (agg:Bool) (size:Nat),
 aR (AO.load x agg size) tm s =
  match X.ev tm x with
  | D.ptr o off=>
   match s.ah[o]? with
   |some cs=>
    match part cs off agg size with
    |some d=>some (d,s)
    |none=>none
   |none=>none
  |D.dN row off=>
   match part row off agg size with
   |some d=>some (d,s)
   |none=>none
  |x=>Bb x agg size s:=
 fun tm s x agg size=>nd (aR.eq_9 tm s x agg size)
theorem RC : ∀ (tm:Tm) (s:St) (p x:X) (size:Nat),
 aR (AO.store p x size) tm s =
  match X.ev tm p,(X.ev tm x).row with
  | D.ptr o off,some r=>
   match s.ah[o]? with
   | some cs=>
    if r.length=size∧off+size≤cs.length then
     some (D.tuple [],{ah:=s.ah.set o (fP cs off r),ay:=s.ay})
    else none
   |none=>none
  |x,fY=>CM x fY size s:=
 fun tm s p x size=>nd (aR.eq_10 tm s p x size)
theorem RE : ∀ (tm:Tm) (s:St) (x:X),
 aR (AO.cu x) tm s =
  match X.ev tm x with
  |D.ptr o off=>some (D.ptr o off,s)
  |D.dN row off=>some (D.dN row off,s)
  |x=>match QJ x with|some d=>some (d,s)|none=>none:=
 fun tm s x=>nd (aR.eq_11 tm s x)
theorem RF : ∀ (tm:Tm) (s:St) (op:BinOp) (x y:X),
 aR (AO.bin op x y) tm s =
  match yY op (X.ev tm x) (X.ev tm y)with
  |some d=>some (d,s)
  |none=>none:=
 fun tm s op x y=>nd (aR.eq_12 tm s op x y)
theorem RG : ∀ (tm:Tm) (s:St) (neg:Bool) (x y:X),
 aR (AO.Jg neg x y) tm s =
  match X.ev tm x,X.ev tm y with
  |D.bool a,D.bool b=>some (D.bool (if neg=true then !a==b else a==b),s)
  |x,fY=>none:=
 fun tm s neg x y=>nd (aR.eq_13 tm s neg x y)
theorem RH : ∀ (tm:Tm) (s:St) (neg:Bool) (ks:List Nat) (x y:X),
 aR (AO.eqs neg ks x y) tm s =
  match X.ev tm x,X.ev tm y with
  |D.agg a,D.agg b=>
   match mr ks a b with
   |some e=>some (D.bool (if neg=true then !e else e),s)
   |none=>none
  |x,fY=>none:=
 fun tm s neg ks x y=>nd (aR.eq_14 tm s neg ks x y)
theorem RI : ∀ (tm:Tm) (s:St) (neg:Bool) (x y:X),
 aR (AO.Jh neg x y) tm s =
  match X.ev tm x,X.ev tm y with
  |D.eI,D.eI=>some (D.bool !neg,s)
  |D.ptr o off,D.eI=>some (D.bool neg,s)
  |D.dN row off,D.eI=>some (D.bool neg,s)
  |x,fY=>none:=
 fun tm s neg x y=>nd (aR.eq_15 tm s neg x y)
theorem RJ : ∀ (tm:Tm) (s:St) (op:UnOp) (x:X),
 aR (AO.un op x) tm s =
  match LR op (X.ev tm x)with
  |some d=>some (d,s)
  |none=>none:=
 fun tm s op x=>nd (aR.eq_16 tm s op x)
theorem RK : ∀ (tm:Tm) (s:St) (k:IntKind) (x:X),
 aR (AO.conv k x) tm s =
  match X.ev tm x with
  |D.int k_1 n=>some (D.int k (k.wrap n),s)
  |x=>none:=
 fun tm s k x=>nd (aR.eq_17 tm s k x)
theorem RL : ∀ (tm:Tm) (s:St) (x:X),
 aR (AO.Gp x) tm s =
  match X.ev tm x with
  |D.slice g size rows=>
   match pC rows with
   |some b=>some (D.str b,s)
   |none=>none
  |x=>none:=
 fun tm s x=>nd (aR.eq_18 tm s x)
theorem RM : ∀ (tm:Tm) (s:St) (x:X),
 aR (AO.z6 x) tm s =
  match X.ev tm x with
  |D.str l=>some (D.slice Tag.shared 1 (List.map (fun(c:UInt8)=> [D.int IntKind.u8 ↑c.toNat]) l),s)
  |x=>none:=
 fun tm s x=>nd (aR.eq_19 tm s x)
theorem RN : ∀ (tm:Tm) (s:St) (size:Nat) (x:X) (lo hi:Option X),
 aR (AO.Gq size x lo hi) tm s =
  match X.ev tm x with
  | D.slice g z rows=>
   match vf (Option.map (fun(x:X)=>X.ev tm x) lo),
    vg (Option.map (fun(x:X)=>X.ev tm x) hi) rows.length with
   | some l,some h=>
    if(rows = []∨z=size)∧0≤l∧l≤h∧h≤ ↑rows.length then
     some
      (D.slice (if l=0 then g.cut (decide (h = ↑rows.length))else Tag.shared) z
       (List.drop l.toNat (List.take h.toNat rows)),
       s)
    else none
   |x,fY=>none
  |x=>match za x (Option.map (fun(x:X)=>X.ev tm x) lo) (Option.map (fun(x:X)=>X.ev tm x) hi)with|some d=>some (d,s)|none=>none:=
 fun tm s size x lo hi=>nd (aR.eq_20 tm s size x lo hi)
theorem RO : ∀ (tm:Tm) (s:St) (x:X) (lo hi:Option X),
 aR (AO.CG x lo hi) tm s =
  match X.ev tm x with
  | D.str t=>
   match vf (Option.map (fun(x:X)=>X.ev tm x) lo),vg (Option.map (fun(x:X)=>X.ev tm x) hi) t.length with
   |some l,some h=>
    if 0≤l∧l≤h∧h≤ ↑t.length then some (D.str (List.drop l.toNat (List.take h.toNat t)),s)else none
   |x,fY=>none
  |x=>none:=
 fun tm s x lo hi=>nd (aR.eq_21 tm s x lo hi)
theorem RP : ∀ (tm:Tm) (s:St) (x:X) (off:Nat),
 aR (AO.aq x off) tm s =
  match X.ev tm x with
  |D.ptr o k=>some (D.ptr o (k+off),s)
  |D.dN row k=>some (D.dN row (k+off),s)
  |x=>match Gt x off with|some d=>some (d,s)|none=>none:=
 fun tm s x off=>nd (aR.eq_22 tm s x off)
theorem RQ : ∀ (tm:Tm) (s:St) (x:X) (off:Nat) (agg:Bool) (size:Nat),
 aR (AO.EZ x off agg size) tm s =
  match X.ev tm x with
  |D.agg cs=>
   match part cs off agg size with
   |some d=>some (d,s)
   |none=>none
  |x=>none:=
 fun tm s x off agg size=>nd (aR.eq_23 tm s x off agg size)
theorem RR : ∀ (tm:Tm) (s:St) (x i:X) (size:Nat),
 aR (AO.cb x i size) tm s =
  match X.ev tm x,X.ev tm i with
  | D.slice g z rows,D.int k n=>
   if 0≤n∧z=size then
    match rows[n.toNat]? with
    |some row=>some (D.dN row 0,s)
    |none=>none
   else none
  |x,fY=>match z8 x fY size with|some d=>some (d,s)|none=>none:=
 fun tm s x i size=>nd (aR.eq_24 tm s x i size)
theorem RS : ∀ (tm:Tm) (s:St) (x i:X),
 aR (AO.vJ x i) tm s =
  match X.ev tm x,X.ev tm i with
  | D.str t,D.int k n=>
   if 0≤n then
    match t[n.toNat]? with
    |some c=>some (D.int IntKind.u8 ↑c.toNat,s)
    |none=>none
   else none
  |x,fY=>none:=
 fun tm s x i=>nd (aR.eq_25 tm s x i)
theorem RT : ∀ (tm:Tm) (s:St) (x:X) (i:Nat),
 aR (AO.ext x i) tm s =
  match X.ev tm x with
  |D.tuple ds=>
   match ds[i]? with
   |some d=>some (d,s)
   |none=>none
  |x=>none:=
 fun tm s x i=>nd (aR.eq_26 tm s x i)
theorem RU : ∀ (tm:Tm) (s:St) (x:X),
 aR (AO.qa x) tm s =
  match X.ev tm x with
  |D.str t=>some (D.int IntKind.i64 ↑t.length,s)
  |x=>none:=
 fun tm s x=>nd (aR.eq_27 tm s x)
theorem RV : ∀ (tm:Tm) (s:St) (x:X),
 aR (AO.len x) tm s =
  match X.ev tm x with
  |D.slice g size rows=>some (D.int IntKind.i64 ↑rows.length,s)
  |x=>match Ih x with|some d=>some (d,s)|none=>none:=
 fun tm s x=>nd (aR.eq_28 tm s x)
theorem RW : ∀ (tm:Tm) (s:St) (size bytes:Nat) (x y:X),
 aR (AO.app size bytes x y) tm s =
  match X.ev tm x with
  |D.slice g z rows=>iu size bytes (D.slice g z rows) (X.ev tm y) s
  |d=>zb size bytes d (X.ev tm y) s:=
 fun tm s size bytes x y=>nd (aR.eq_29 tm s size bytes x y)
theorem RX : ∀ (tm:Tm) (s:St) (isMax:Bool) (x y:X),
 aR (AO.mm isMax x y) tm s =
  match X.ev tm x,X.ev tm y with
  |D.int k a,D.int k' b=>
   if k=k' then some (D.int k (if isMax=true then if b > a then b else a else if b<a then b else a),s)
   else none
  |x,fY=>none:=
 fun tm s isMax x y=>nd (aR.eq_30 tm s isMax x y)
theorem RY (tm:Tm) (s:St) (r:List D) (T:TypeId):aR (AO.ve (.eI::r) T) tm s=some (.ptr s.ah.length 0,{ah:=s.ah++ [.fS T s.ah.length::r],ay:=s.ay}):=nd rfl
theorem RZ (tm:Tm) (s:St) (x:X) (T:TypeId):aR (AO.CH x T) tm s =
 match (x.ev tm).row with
 |some (.eI::r)=>some (.ptr s.ah.length 0,{ah:=s.ah++ [.fS T s.ah.length::r],ay:=s.ay})
 |_=>none:=nd rfl
theorem R0 (tm:Tm) (s:St) (x y:X):aR (AO.apps x y) tm s =
 match y.ev tm with
 | .str l=>CK (x.ev tm) (.slice .shared 1 (l.map fun c=> [.int .u8 c.toNat])) s
 |_=>none:=nd rfl
theorem R3 (tm:Tm) (s:St) (x y:X):aR (AO.CI x y) tm s=CK (x.ev tm) (y.ev tm) s:=nd rfl
theorem R4 (tm:Tm) (s:St) (f:Nat) (xs:List X):aR (AO.wI f xs) tm s=some (.ie f (xs.map fun x=>x.ev tm),s):=nd rfl
theorem R5 (tm:Tm) (s:St):aR AO.wJ tm s=some (.gR s.ah.length,{ah:=s.ah++ [[]],ay:=s.ay}):=nd rfl
theorem R6 (tm:Tm) (s:St) (m k v:X):aR (AO.A8 m k v) tm s =
 match m.ev tm,k.ev tm,v.ev tm with
 | .gR o, .str key, .slice g z rows=>
  match s.ah[o]? with
  |some cs=>match yZ key (.slice g z rows) cs with|some ky=>some (.tuple [],{ah:=s.ah.set o ky,ay:=s.ay})|none=>none
  |none=>none
 |_,_,_=>none:=nd rfl
theorem R7 (tm:Tm) (s:St) (m k:X) (zero:D):aR (AO.yd m k zero) tm s =
 match m.ev tm,k.ev tm with
 | .gR o, .str key=>
  match s.ah[o]? with
  |some cs=>match Ba key zero cs with|some d=>some (d,s)|none=>none
  |none=>none
 |_,_=>none:=nd rfl
theorem R8 (tm:Tm) (s:St) (o:FO) (x y:X):aR (AO.sI o x y) tm s=match sa o (x.ev tm) (y.ev tm)with|some d=>some (d,s)|none=>none:=nd rfl
theorem R9 (tm:Tm) (s:St) (size bytes:Nat) (zero:List D) (l c:X):aR (AO.A9 size bytes zero l c) tm s =
 match l.ev tm,c.ev tm with
 | .int .i64 n, .int .i64 m=>if n=m∧0≤n∧n*((bytes:Int)+1)≤bp then some (.dD size s.ah.length 0 n.toNat,{s with ah:=s.ah++ [.int .i64 ((0:Nat):Int)::(gu zero n.toNat).flatten]})else none
 |_,_=>none:=nd rfl
theorem Mx (o:FO) (x y:X):(AO.sI o x y).core=false:=nd rfl
theorem My (size bytes:Nat) (zero:List D) (l c:X):(AO.A9 size bytes zero l c).core=true:=nd rfl
theorem Mz (f:Nat) (xs:List X):(AO.wI f xs).core=false:=nd rfl
theorem MA:AO.wJ.core=true:=nd rfl
theorem MB (m k v:X):(AO.A8 m k v).core=true:=nd rfl
theorem MC (m k:X) (zero:D):(AO.yd m k zero).core=false:=nd rfl
theorem Vo (n m f:Nat) (cs:List D):D.fg n m (.ie f cs) = .ie f (D.gT n m cs):=nd (by simp only[D.fg])
theorem Vp (n m:Nat) (o:Nat):D.fg n m (.gR o)=if o<n then .gR o else .junk:=nd (by simp only[D.fg])
theorem Sb (d:Option Nat) (g:Option (Nat×Bool)) (t:Nat) (xs:List X):(AI.kb d g t xs).dst=d:=nd rfl
theorem MD (x y:X):(AO.CI x y).core=true:=nd rfl
theorem ME (z:List D) (T:TypeId):(AO.ve z T).core=true:=nd rfl
theorem MF (x:X) (T:TypeId):(AO.CH x T).core=true:=nd rfl
theorem MG (x y:X):(AO.apps x y).core=true:=nd rfl
theorem Vq (n m:Nat) (v:Value):D.fg n m (.val v) = .val v:=nd (by simp only[D.fg])
theorem Vr (n m:Nat) (T:TypeId) (o:Nat):D.fg n m (.fS T o)=if o<n then .fS T o else .junk:=nd (by simp only[D.fg])
theorem Yf : ∀ (tm:Tm) (t:Nat),X.ev tm (X.s t)=tm.get t:=
 fun tm t=>nd (X.ev.eq_1 tm t)
theorem Yg : ∀ (tm:Tm) (d:D),X.ev tm (X.k d)=d:=
 fun tm d=>nd (X.ev.eq_2 tm d)
theorem Sc : ∀ (tm:Tm) (d:D) (t:Nat),tm.put (some t) d=tm.set t d:=
 fun tm d t=>nd (Tm.put.eq_1 tm d t)
theorem Sd : ∀ (tm:Tm) (d:D),tm.put none d=tm:=
 fun tm d=>nd (Tm.put.eq_2 tm d)
theorem Se : ∀ (x:Nat) (fY:D),Tm.set [] x fY = [(x,fY)]:=
 fun x fY=>nd (Tm.set.eq_1 x fY)
theorem Sf : ∀ (x:Nat) (fY:D) (k:Nat) (e:D) (r:List (Nat×D)),
 Tm.set ((k,e)::r) x fY=if k=x then(k,fY)::r else(k,e)::Tm.set r x fY:=
 fun x fY k e r=>nd (Tm.set.eq_2 x fY k e r)
theorem Sg : ∀ (x:Nat),Tm.get [] x=D.junk:=
 fun x=>nd (Tm.get.eq_1 x)
theorem Si : ∀ (x k:Nat) (d:D) (r:List (Nat×D)),Tm.get ((k,d)::r) x=if k=x then d else Tm.get r x:=
 fun x k d r=>nd (Tm.get.eq_2 x k d r)
theorem Vs : ∀ (x:Nat),nV x [] = []:=
 fun x=>nd (nV.eq_1 x)
theorem Vt : ∀ (x:Nat) (d:D) (r:List D),nV x (d::r)=(x,d)::nV (x+1) r:=
 fun x d r=>nd (nV.eq_2 x d r)
theorem Sj : ∀ (d:Option Nat) (g:Option (Nat×Bool)) (o:AO),(AI.op d g o).dst=d:=
 fun d g o=>nd (AI.dst.eq_1 d g o)
theorem Sk : ∀ (d:Option Nat) (g:Option (Nat×Bool)) (f:Nat) (xs:List X),(AI.call d g f xs).dst=d:=
 fun d g f xs=>nd (AI.dst.eq_2 d g f xs)
theorem Sl : ∀ (d:Option Nat) (g:Option (Nat×Bool)) (neg:Bool) (fY:X),(AI.nil d g neg fY).dst=d:=
 fun d g neg fY=>nd (AI.dst.eq_3 d g neg fY)
theorem Yh : ∀ (cs:List D) (off size:Nat),
 part cs off true size=if off+size≤cs.length then some (D.agg (List.take size (List.drop off cs)))else none:=
 fun cs off size=>nd (part.eq_1 cs off size)
theorem Yi : ∀ (cs:List D) (off size:Nat),part cs off false size=cs[off]? :=
 fun cs off size=>nd (part.eq_2 cs off size)
theorem Sn : ∀ (cs:List D) (off:Nat) (r:List D),
 fP cs off r=List.take off cs++r++List.drop (off+r.length) cs:=
 fun cs off r=>nd (fP.eq_1 cs off r)
theorem Vu : ∀ (cells:List D),sJ cells [] = some cells:=
 fun cells=>nd (sJ.eq_1 cells)
theorem Vv : ∀ (cells:List D) (off size:Nat) (d:D) (rest:List (Nat×Nat×D)),
 sJ cells ((off,size,d)::rest) =
  match d.row with
  |none=>none
  |some r=>if r.length=size∧off+size≤cells.length then sJ (fP cells off r) rest else none:=
 fun cells off size d rest=>nd (sJ.eq_2 cells off size d rest)
theorem MH : ∀ (size:Nat) (rows:List (List D)),kO size rows [] = some rows:=
 fun size rows=>nd (kO.eq_1 size rows)
theorem MI : ∀ (size:Nat) (rows:List (List D)) (i:Nat) (d:D) (rest:List (Nat×D)),
 kO size rows ((i,d)::rest) =
  match d.row with
  |none=>none
  |some r=>if r.length=size∧i<rows.length then kO size (rows.set i r) rest else none:=
 fun size rows i d rest=>nd (kO.eq_2 size rows i d rest)
theorem MJ : ∀ (zero:List D),gu zero 0 = []:=
 fun zero=>nd (gu.eq_1 zero)
theorem MK : ∀ (zero:List D) (i:Nat),gu zero i.succ=zero::gu zero i:=
 fun zero i=>nd (gu.eq_2 zero i)
theorem Yj : ∀ (op:BinOp) (k:IntKind) (a:Int) (k':IntKind) (b:Int),
 yY op (D.int k a) (D.int k' b)=if k=k' then ig op k a b else none:=
 fun op k a k' b=>nd (yY.eq_1 op k a k' b)
theorem Yk : ∀ (op:BinOp) (a b:List UInt8),yY op (D.str a) (D.str b)=pf op a b:=
 fun op a b=>nd (yY.eq_2 op a b)
theorem Sq : ∀ (k:IntKind) (a b:Int),ig BinOp.add k a b=some (D.int k (k.wrap (a+b))):=
 fun k a b=>nd (ig.eq_1 k a b)
theorem Sr : ∀ (k:IntKind) (a b:Int),ig BinOp.sub k a b=some (D.int k (k.wrap (a - b))):=
 fun k a b=>nd (ig.eq_2 k a b)
theorem Ss : ∀ (k:IntKind) (a b:Int),ig BinOp.mul k a b=some (D.int k (k.wrap (a*b))):=
 fun k a b=>nd (ig.eq_3 k a b)
theorem Sv : ∀ (k:IntKind) (a b:Int),
 ig BinOp.quo k a b=if b=0 then none else some (D.int k (k.wrap (a.tdiv b))):=
 fun k a b=>nd (ig.eq_4 k a b)
theorem Sw : ∀ (k:IntKind) (a b:Int),ig BinOp.rem k a b=if b=0 then none else some (D.int k (a.tmod b)):=
 fun k a b=>nd (ig.eq_5 k a b)
theorem Sx : ∀ (k:IntKind) (a b:Int),ig BinOp.eql k a b=some (D.bool (a==b)):=
 fun k a b=>nd (ig.eq_6 k a b)
theorem Sy : ∀ (k:IntKind) (a b:Int),ig BinOp.neq k a b=some (D.bool (a != b)):=
 fun k a b=>nd (ig.eq_7 k a b)
theorem Sz : ∀ (k:IntKind) (a b:Int),ig BinOp.lss k a b=some (D.bool (decide (a<b))):=
 fun k a b=>nd (ig.eq_8 k a b)
theorem SA : ∀ (k:IntKind) (a b:Int),ig BinOp.leq k a b=some (D.bool (decide (a≤b))):=
 fun k a b=>nd (ig.eq_9 k a b)
theorem OR : ∀ (k:IntKind) (a b:Int),ig BinOp.gtr k a b=some (D.bool (decide (a > b))):=
 fun k a b=>nd (ig.eq_10 k a b)
theorem OS : ∀ (k:IntKind) (a b:Int),ig BinOp.geq k a b=some (D.bool (decide (a≥b))):=
 fun k a b=>nd (ig.eq_11 k a b)
theorem SB : ∀ (a b:List UInt8),
 pf BinOp.add a b=if a.length+b.length≤bp then some (D.str (a++b))else none:=
 fun a b=>nd (pf.eq_1 a b)
theorem SC : ∀ (a b:List UInt8),pf BinOp.eql a b=some (D.bool (a==b)):=
 fun a b=>nd (pf.eq_2 a b)
theorem SD : ∀ (a b:List UInt8),pf BinOp.neq a b=some (D.bool !a==b):=
 fun a b=>nd (pf.eq_3 a b)
theorem SE : ∀ (a b:List UInt8),pf BinOp.lss a b=some (D.bool (bytesLess a b)):=
 fun a b=>nd (pf.eq_4 a b)
theorem acP : ∀ (k:IntKind) (n:Int),LR UnOp.neg (D.int k n)=some (D.int k (k.wrap (0 - n))):=
 fun k n=>nd (LR.eq_1 k n)
theorem acQ : ∀ (b:Bool),LR UnOp.not (D.bool b)=some (D.bool !b):=
 fun b=>nd (LR.eq_2 b)
theorem SF : ∀ (k:IntKind) (a:Int) (k':IntKind) (b:Int),
 n8 0 (D.int k a) (D.int k' b)=if k=k' then some (a==b)else none:=
 fun k a k' b=>nd (n8.eq_1 k a k' b)
theorem SG : ∀ (a b:Bool),n8 1 (D.bool a) (D.bool b)=some (a==b):=
 fun a b=>nd (n8.eq_2 a b)
theorem SH : ∀ (a b:List UInt8),n8 2 (D.str a) (D.str b)=some (a==b):=
 fun a b=>nd (n8.eq_3 a b)
theorem OT:mr [] [] [] = some true:=
 nd (mr.eq_1)
theorem OU : ∀ (k:Nat) (ks:List Nat) (x_3:D) (xs:List D) (y:D) (ys:List D),
 mr (k::ks) (x_3::xs) (y::ys) =
  match n8 k x_3 y with
  |none=>none
  |some true=>mr ks xs ys
  |some false=>some false:=
 fun k ks x_3 xs y ys=>nd (mr.eq_2 k ks x_3 xs y ys)
theorem acR:vf none=some 0:=
 nd (vf.eq_1)
theorem acS : ∀ (k:IntKind) (n:Int),vf (some (D.int k n))=some n:=
 fun k n=>nd (vf.eq_2 k n)
theorem acT : ∀ (len:Nat),vg none len=some ↑len:=
 fun len=>nd (vg.eq_1 len)
theorem acU : ∀ (len:Nat) (k:IntKind) (n:Int),vg (some (D.int k n)) len=some n:=
 fun len k n=>nd (vg.eq_2 len k n)
theorem OV : ∀ (zero:List D),(AO.alloc zero).core=true:=
 fun zero=>nd (AO.core.eq_1 zero)
theorem OW : ∀ (fY:X),(AO.box fY).core=true:=
 fun fY=>nd (AO.core.eq_2 fY)
theorem OX : ∀ (zero:List D) (size n:Nat) (parts:List (Nat×X)),(AO.w9 zero size n parts).core=true:=
 fun zero size n parts=>nd (AO.core.eq_3 zero size n parts)
theorem OY : ∀ (fY:X),(AO.CF fY).core=true:=
 fun fY=>nd (AO.core.eq_4 fY)
theorem OZ : ∀ (p fY:X) (size:Nat),(AO.store p fY size).core=true:=
 fun p fY size=>nd (AO.core.eq_5 p fY size)
theorem O0 : ∀ (size bytes:Nat) (fY y:X),(AO.app size bytes fY y).core=true:=
 fun size bytes fY y=>nd (AO.core.eq_6 size bytes fY y)
theorem O1 : ∀ (val:Nat) (zero:List D),(AI.op (some val) none (AO.alloc zero)).kind=AK.alloc:=
 fun val zero=>nd (AI.kind.eq_1 val zero)
theorem O2 : ∀ (zero:List D),(AO.alloc zero).kind=AK.core:=
 fun zero=>nd (AO.kind.eq_1 zero)
theorem O3 : ∀ (fY:X),(AO.box fY).kind=AK.core:=
 fun fY=>nd (AO.kind.eq_2 fY)
theorem O4 : ∀ (zero:List D) (size n:Nat) (parts:List (Nat×X)),(AO.w9 zero size n parts).kind=AK.core:=
 fun zero size n parts=>nd (AO.kind.eq_3 zero size n parts)
theorem O5 : ∀ (fY:X),(AO.CF fY).kind=AK.core:=
 fun fY=>nd (AO.kind.eq_4 fY)
theorem O6 : ∀ (p fY:X) (size:Nat),(AO.store p fY size).kind=AK.core:=
 fun p fY size=>nd (AO.kind.eq_5 p fY size)
theorem O7 : ∀ (size bytes:Nat) (fY y:X),(AO.app size bytes fY y).kind=AK.core:=
 fun size bytes fY y=>nd (AO.kind.eq_6 size bytes fY y)
theorem O8 : ∀ (fY:X) (agg:Bool) (size:Nat),(AO.load fY agg size).kind=AK.load:=
 fun _ _ _=>nd rfl
theorem SI:iO AK.core=true:=
 nd (iO.eq_1)
theorem SJ:iO AK.alloc=true:=
 nd (iO.eq_2)
theorem SK : ∀ (i:AI) (tm:Tm) (d:D),pk i tm d [] = True:=
 fun i tm d=>nd (pk.eq_1 i tm d)
theorem SL : ∀ (i:AI) (tm:Tm) (d:D) (s:St) (r:List St),
 pk i tm d (s::r)=(kI i tm s=some d∧pk i tm d r):=
 fun i tm d s r=>nd (pk.eq_2 i tm d s r)
theorem acV : ∀ (tm:Tm) (s:St) (dst:Option Nat) (o:AO),
 kI (AI.op dst none o) tm s=Option.map (fun(x:D×St)=>x.fst) (aR o tm s):=
 fun tm s dst o=>nd (kI.eq_1 tm s dst o)
theorem acW : ∀ (tm:Tm) (s:St) (dst:Option Nat) (t:Nat) (want:Bool) (o:AO),
 kI (AI.op dst (some (t,want)) o) tm s =
  match tm.get t with
  |D.bool b=>if b=want then Option.map (fun(x:D×St)=>x.fst) (aR o tm s)else some (D.tuple [])
  |D.tuple vs=>some (D.tuple [])
  |x=>none:=
 fun tm s dst t want o=>nd (kI.eq_2 tm s dst t want o)
theorem O9 : ∀ (is:List AI),oe is [] = some []:=
 fun is=>nd (oe.eq_1 is)
theorem Pa : ∀ (is:List AI) (q b:Nat) (r:List (Nat×Nat)),
 oe is ((q,b)::r) =
  match is[q]?,oe is r with
  |some ai,some l=>some ((ai,b)::l)
  |x,fY=>none:=
 fun is q b r=>nd (oe.eq_2 is q b r)
theorem acX : ∀ (tm:Tm) (n m:Nat),yu tm n m [] = True:=
 fun tm n m=>nd (yu.eq_1 tm n m)
theorem acY : ∀ (tm:Tm) (n m k:Nat) (d:D) (r:List (Nat×D)),
 yu tm n m ((k,d)::r)=(Wk (D.fg n m (tm.get k)) d∧yu tm n m r):=
 fun tm n m k d r=>nd (yu.eq_2 tm n m k d r)
theorem Yl : ∀ (n m o off:Nat),D.fg n m (D.ptr o off)=if o<n then D.ptr o off else D.junk:=
 fun n m o off=>nd (D.fg.eq_1 n m o off)
theorem Ym : ∀ (n m:Nat) (row:List D) (off:Nat),D.fg n m (D.dN row off)=D.dN (D.gT n m row) off:=
 fun n m row off=>nd (D.fg.eq_2 n m row off)
theorem Yn : ∀ (n m:Nat) (g:Tag) (z:Nat) (rows:List (List D)),
 D.fg n m (D.slice g z rows)=D.slice (Tag.fg m g) z (D.lC n m rows):=
 fun n m g z rows=>nd (D.fg.eq_3 n m g z rows)
theorem Yo : ∀ (n m:Nat) (cs:List D),D.fg n m (D.agg cs)=D.agg (D.gT n m cs):=
 fun n m cs=>nd (D.fg.eq_4 n m cs)
theorem Yp : ∀ (n m:Nat) (ds:List D),D.fg n m (D.tuple ds)=D.tuple (D.gT n m ds):=
 fun n m ds=>nd (D.fg.eq_5 n m ds)
theorem Yq : ∀ (n m:Nat),D.fg n m D.junk=D.junk:=
 fun n m=>nd (D.fg.eq_6 n m)
theorem Yr : ∀ (n m:Nat) (k:IntKind) (fY:Int),D.fg n m (D.int k fY)=D.int k fY:=
 fun n m k fY=>nd (D.fg.eq_7 n m k fY)
theorem Ys : ∀ (n m:Nat) (b:Bool),D.fg n m (D.bool b)=D.bool b:=
 fun n m b=>nd (D.fg.eq_8 n m b)
theorem Yt : ∀ (n m:Nat) (l:List UInt8),D.fg n m (D.str l)=D.str l:=
 fun n m l=>nd (D.fg.eq_9 n m l)
theorem Vw : ∀ (n m:Nat),D.fg n m D.eI=D.eI:=
 fun n m=>nd (D.fg.eq_10 n m)
theorem Vx : ∀ (n m:Nat),D.gT n m [] = []:=
 fun n m=>nd (D.gT.eq_1 n m)
theorem Vy : ∀ (n m:Nat) (d:D) (r:List D),D.gT n m (d::r)=D.fg n m d::D.gT n m r:=
 fun n m d r=>nd (D.gT.eq_2 n m d r)
theorem Vz : ∀ (n m:Nat),D.lC n m [] = []:=
 fun n m=>nd (D.lC.eq_1 n m)
theorem VA : ∀ (n m:Nat) (d:List D) (r:List (List D)),D.lC n m (d::r)=D.gT n m d::D.lC n m r:=
 fun n m d r=>nd (D.lC.eq_2 n m d r)
theorem SM : ∀ (m t:Nat) (y:Bool),Tag.fg m (Tag.tok t y)=if t<m then Tag.tok t y else Tag.shared:=
 fun _ _ _=>nd rfl
theorem SN : ∀ (s:St) (n m:Nat),
 s.cut n m = {ah:=List.map (D.gT n m) (List.take n s.ah),ay:=List.take m s.ay}:=
 fun s n m=>nd (St.cut.eq_1 s n m)
theorem Yu : ∀ (d:D),aV [d] = d:=
 fun d=>nd (aV.eq_1 d)
theorem Yv (size bytes t:Nat) (rows:List (List D)) (g:Tag) (r:List D) (s:St):iu size bytes (.slice (.tok t) size rows) (.slice g size [r]) s =
 if(rows.length+1)*(bytes+1)≤bp∧s.ay[t]? = some (some rows.length)then some (.slice (.tok t) size (rows++ [r]),⟨s.ah,s.ay.set t (some (rows.length+1))⟩)else none:=by
 simp only[iu,List.length_singleton]
 by_cases h1:(rows.length+1)*(bytes+1)≤bp<;>by_cases h2:s.ay[t]? = some (some rows.length)<;>simp[h1,h2]
theorem qm {size bytes t:Nat} {rows new:List (List D)} {g:Tag} {s:St} (h1:(rows.length+new.length)*(bytes+1)≤bp) (h2:s.ay[t]? = some (some rows.length)) :
 iu size bytes (.slice (.tok t) size rows) (.slice g size new) s=some (.slice (.tok t) size (rows++new),⟨s.ah,s.ay.set t (some (rows.length+new.length))⟩):=by
 cases new with
 | nil=>
  have:s.ay.set t (some rows.length)=s.ay:=by
   apply List.ext_getElem?
   intro i
   rw[List.getElem?_set]
   split
   ·rename_i hi;subst hi;rw[h2,if_pos (List.getElem?_eq_some_iff.1 h2).1]
   ·rfl
  simp only[List.length_nil,Nat.add_zero]at h1
  simp[iu,h1,this]
 |cons x l=>
  simp only[iu,h1,h2]
  simp
theorem VB (size bytes z:Nat) (g:Tag) (r:List D) (s:St):iu size bytes (.slice .full z []) (.slice g size [r]) s =
 if bytes+1≤bp then some (.slice (.tok s.ay.length) size [r],⟨s.ah,s.ay++ [some 1]⟩)else none:=by
 simp[iu]
theorem acZ {P:Program} {B:gN} {nt:Nat} (ac:AC) (Q:Exit→Tm→St→Prop) (tm:Tm) (s:St):Bl P B nt ac Q .normal tm s=Q .normal tm s:=nd rfl
theorem ac0 {P:Program} {B:gN} {nt:Nat} (ac:AC) (Q:Exit→Tm→St→Prop) (tm:Tm) (s:St):Bl P B nt ac Q .ret tm s=Q .ret tm s:=nd rfl
theorem ac1 {P:Program} {B:gN} {nt:Nat} (ac:AC) (Q:Exit→Tm→St→Prop) (tm:Tm) (s:St) (i:Nat):Bl P B nt ac Q (.exit i) tm s=Q (.exit i) tm s:=nd rfl
theorem ac2 (m:Nat):Tag.fg m .full = .full:=nd rfl
theorem VC (m:Nat):Tag.fg m .shared = .shared:=nd rfl
theorem ajM {P:Program} (K:Tm→St→Prop) (tm:Tm) (s:St):ll P [] K tm s=K tm s:=nd rfl
theorem s_op {P:Program} (dst:Option Nat) (o:AO) (r:List AI) (K:Tm→St→Prop) (tm:Tm) (s:St) :
 ll P (.op dst none o::r) K tm s=(match aR o tm s with|some (d,s')=>ll P r K (tm.put dst d) s'|none=>False):=nd rfl
def KJ (P:Program) (r:List AI) (K:Tm→St→Prop) (tm:Tm) (dst:Option Nat) (d:D) (s:St):Prop:=ll P r K (tm.put dst d) s
theorem anT {P:Program} (r:List AI) (K:Tm→St→Prop) (tm:Tm) (dst:Option Nat) (d:D) (s:St):KJ P r K tm dst d s=ll P r K (tm.put dst d) s:=nd rfl
theorem s_call {P:Program} (dst:Option Nat) (f:Nat) (xs:List X) (r:List AI) (K:Tm→St→Prop) (tm:Tm) (s:St) :
 ll P (.call dst none f xs::r) K tm s=CL false P f (xs.map (·.ev tm)) s (KJ P r K tm dst):=nd rfl
def NJ (P:Program) (dst:Option Nat) (neg:Bool) (x:D) (r:List AI) (K:Tm→St→Prop) (tm:Tm) (s:St):Prop:=
 match x with
 | .slice _ _ rows=>∀ b:Bool,(rows≠ []→b=false)→ll P r K (tm.put dst (.bool (if neg then !b else b))) s
 |_=>False
theorem afG {P:Program} (dst:Option Nat) (neg:Bool) (x:X) (r:List AI) (K:Tm→St→Prop) (tm:Tm) (s:St) :
 ll P (.nil dst none neg x::r) K tm s=NJ P dst neg (x.ev tm) r K tm s:=nd rfl
theorem ac3 {P:Program} (dst:Option Nat) (neg:Bool) (g:Tag) (z:Nat) (d:List D) (l:List (List D)) (r:List AI) (K:Tm→St→Prop) (tm:Tm) (s:St) :
 NJ P dst neg (.slice g z (d::l)) r K tm s=ll P r K (tm.put dst (.bool neg)) s:=by
 simp only[NJ,ne_eq,reduceCtorEq,not_false_eq_true,true_imp_iff,eq_iff_iff]
 refine⟨fun h=>by have:=h false rfl;cases neg<;>exact this,fun h b hb=>?_⟩
 subst hb;cases neg<;>exact h
theorem FG {P:Program} {dst:Option Nat} {neg:Bool} {g:Tag} {z:Nat} {l:List (List D)} {r:List AI} {K:Tm→St→Prop} {tm:Tm} {s:St}
 (h1:l = []→ll P r K (tm.put dst (.bool (!neg))) s) (h2:ll P r K (tm.put dst (.bool neg)) s):NJ P dst neg (.slice g z l) r K tm s:=by
 intro b hb
 cases b with
 |false=>cases neg<;>exact h2
 |true=>
  have:l = []:=Decidable.byContradiction fun h=>by cases hb h
  cases neg<;>exact h1 this
theorem ajO {P:Program} (dst:Option Nat) (t:Nat) (w:Bool) (o:AO) (r:List AI) (K:Tm→St→Prop) (tm:Tm) (s:St) :
 ll P (.op dst (some (t,w)) o::r) K tm s = @GB (tm.get t) w ⟨(ll P (.op dst none o::r) K tm s),(ll P r K (tm.put dst (.tuple [])) s)⟩:=nd rfl
def CV (P:Program) (x:D) (ajP:List D) (s:St) (K:D→St→Prop):Prop:=
 match x with
 | .ie f oW=>enters P f=true∧CL false P f (ajP++oW) s K
 |_=>False
theorem ac4 {P:Program} (dst:Option Nat) (t:Nat) (xs:List X) (r:List AI) (K:Tm→St→Prop) (tm:Tm) (s:St) :
 ll P (.kb dst none t xs::r) K tm s=CV P (tm.get t) (xs.map (·.ev tm)) s (KJ P r K tm dst):=nd rfl
theorem CV.use {P:Program} {f:Nat} {oW ajP:List D} {s s':St} {d:D} {K:D→St→Prop} (he:enters P f=true) (h:aE P f (ajP++oW) s d s') (k:K d s'):CV P (.ie f oW) ajP s K:=⟨he,CU h k⟩
theorem Yw {P:Program} (dst:Option Nat) (t:Nat) (w:Bool) (u:Nat) (xs:List X) (r:List AI) (K:Tm→St→Prop) (tm:Tm) (s:St) :
 ll P (.kb dst (some (t,w)) u xs::r) K tm s = @GB (tm.get t) w ⟨(ll P (.kb dst none u xs::r) K tm s),(ll P r K (tm.put dst (.tuple [])) s)⟩:=nd rfl
theorem ac5 {P:Program} (dst:Option Nat) (t:Nat) (w:Bool) (f:Nat) (xs:List X) (r:List AI) (K:Tm→St→Prop) (tm:Tm) (s:St) :
 ll P (.call dst (some (t,w)) f xs::r) K tm s = @GB (tm.get t) w ⟨(ll P (.call dst none f xs::r) K tm s),(ll P r K (tm.put dst (.tuple [])) s)⟩:=nd rfl
theorem afI {P:Program} (dst:Option Nat) (t:Nat) (w:Bool) (neg:Bool) (x:X) (r:List AI) (K:Tm→St→Prop) (tm:Tm) (s:St) :
 ll P (.nil dst (some (t,w)) neg x::r) K tm s = @GB (tm.get t) w ⟨(ll P (.nil dst none neg x::r) K tm s),(ll P r K (tm.put dst (.tuple [])) s)⟩:=nd rfl
theorem anU (b:Bool) (A C:Prop) : @GB (.bool b) true ⟨A,C⟩ = @CB (.bool b) ⟨A,C⟩:=nd rfl
theorem anV (b:Bool) (A C:Prop) : @GB (.bool b) false ⟨A,C⟩ = @CB (.bool b) ⟨C,A⟩:=by
 cases b<;>simp[GB,CB,GJ,wN]
theorem anW (l:List D) (w:Bool) (A C:Prop) : @GB (.tuple l) w ⟨A,C⟩=C:=nd rfl
theorem ajQ {P:Program} {K:Tm→St→Prop} (bV:List St) (tm:Tm) (s:St):iy P K [] bV tm s=K tm s:=nd rfl
def OJ (P:Program) (o:AO) (dst:Option Nat) (b:Nat) (r:List (AI×Nat)) (K:Tm→St→Prop) (bV:List St) (tm:Tm) (s:St):Bool→Prop
 |true=>match aR o tm s with|some (d,s')=>iy P K r (s::bV) (tm.put dst d) s'|none=>False
 |false=>match aR o tm s with|some (d,_)=>pk (.op dst none o) tm d (bV.take b)∧iy P K r bV (tm.put dst d) s|none=>False
theorem anY {P:Program} {K:Tm→St→Prop} (dst:Option Nat) (o:AO) (b:Nat) (r:List (AI×Nat)) (bV:List St) (tm:Tm) (s:St) :
 iy P K ((.op dst none o,b)::r) bV tm s=OJ P o dst b r K bV tm s o.core:=by
 simp only[iy,og]
 cases o.core<;>rfl
theorem anZ {P:Program} (o:AO) (dst:Option Nat) (b:Nat) (r:List (AI×Nat)) (K:Tm→St→Prop) (bV:List St) (tm:Tm) (s:St) :
 OJ P o dst b r K bV tm s true=match aR o tm s with|some (d,s')=>iy P K r (s::bV) (tm.put dst d) s'|none=>False:=nd rfl
theorem an0 {P:Program} (o:AO) (dst:Option Nat) (b:Nat) (r:List (AI×Nat)) (K:Tm→St→Prop) (bV:List St) (tm:Tm) (s:St) :
 OJ P o dst b r K bV tm s false=match aR o tm s with|some (d,_)=>pk (.op dst none o) tm d (bV.take b)∧iy P K r bV (tm.put dst d) s|none=>False:=nd rfl
theorem ajR {P:Program} {K:Tm→St→Prop} (dst:Option Nat) (t:Nat) (w:Bool) (o:AO) (b:Nat) (r:List (AI×Nat)) (bV:List St) (tm:Tm) (s:St) :
 iy P K ((.op dst (some (t,w)) o,b)::r) bV tm s = @GB (tm.get t) w ⟨(iy P K ((.op dst none o,b)::r) bV tm s),(iy P K r (if o.core then s::bV else bV) (tm.put dst (.tuple [])) s)⟩:=by
 simp only[GB,iy,og]
 cases o.core<;>rfl
def KG (P:Program) (K:Tm→St→Prop) (r:List (AI×Nat)) (bV:List St) (tm:Tm) (dst:Option Nat) (d:D) (s:St):Prop:=iy P K r bV (tm.put dst d) s
theorem an1 {P:Program} (K:Tm→St→Prop) (r:List (AI×Nat)) (bV:List St) (tm:Tm) (dst:Option Nat) (d:D) (s:St):KG P K r bV tm dst d s=iy P K r bV (tm.put dst d) s:=nd rfl
theorem g_call {P:Program} {K:Tm→St→Prop} (dst:Option Nat) (f:Nat) (xs:List X) (b:Nat) (r:List (AI×Nat)) (bV:List St) (tm:Tm) (s:St) :
 iy P K ((.call dst none f xs,b)::r) bV tm s=CL true P f (xs.map (·.ev tm)) s (KG P K r (s::bV) tm dst):=nd rfl
theorem ac6 {P:Program} {K:Tm→St→Prop} (dst:Option Nat) (t:Nat) (w:Bool) (f:Nat) (xs:List X) (b:Nat) (r:List (AI×Nat)) (bV:List St) (tm:Tm) (s:St) :
 iy P K ((.call dst (some (t,w)) f xs,b)::r) bV tm s = @GB (tm.get t) w ⟨(iy P K ((.call dst none f xs,b)::r) bV tm s),(iy P K r (s::bV) (tm.put dst (.tuple [])) s)⟩:=nd rfl
class Ok (p:Prop):Prop where
 out:p
instance:Ok True:=⟨trivial⟩
instance {p q:Prop} [Ok p] [Ok q] : Ok (p∧q):=⟨⟨Ok.out,Ok.out⟩⟩
instance {α:Type} (a:α):Ok (a=a):=⟨rfl⟩
instance (d:D):Ok (Wk d .junk):=⟨Wk.junk d⟩
instance {l l':List D} [Ok (j9 l l')] : Ok (Wk (.tuple l) (.tuple l')):=⟨Wk.tuple Ok.out⟩
instance {l l':List D} [Ok (j9 l l')] : Ok (Wk (.agg l) (.agg l')):=⟨Wk.agg Ok.out⟩
instance {g:Tag} {z:Nat} {l l':List (List D)} [Ok (gY l l')] : Ok (Wk (.slice g z l) (.slice g z l')):=⟨Wk.rows Ok.out⟩
instance {g:Tag} {z:Nat} {l l':List (List D)} [Ok (gY l l')] : Ok (Wk (.slice g z l) (.slice .shared z l')):=⟨Wk.slice Ok.out⟩
instance (z z':Nat):Ok (Wk (.slice .full z []) (.slice .full z' [])):=⟨Wk.anI z z'⟩
instance (g:Tag) (z z':Nat):Ok (Wk (.slice g z []) (.slice .shared z' [])):=⟨Wk.nil g z z'⟩
instance (d:D):Ok (Wk d d):=⟨Wk.refl d⟩
instance:Ok (j9 [] []):=⟨.nil⟩
instance {d d':D} {l l':List D} [Ok (Wk d d')] [Ok (j9 l l')] : Ok (j9 (d::l) (d'::l')):=⟨.cons Ok.out Ok.out⟩
instance (l:List D):Ok (j9 l l):=⟨j9.refl l⟩
instance:Ok (gY [] []):=⟨.nil⟩
instance {d d':List D} {l l':List (List D)} [Ok (j9 d d')] [Ok (gY l l')] : Ok (gY (d::l) (d'::l')):=⟨.cons Ok.out Ok.out⟩
instance {a a' b b':List (List D)} [Ok (gY a a')] [Ok (gY b b')] : Ok (gY (a++b) (a'++b')):=⟨gY.append Ok.out Ok.out⟩
instance (l:List (List D)):Ok (gY l l):=⟨gY.refl l⟩
theorem bs:(∀ b,(true ||b)=true)∧(∀ b,(false ||b)=b)∧(∀ b,(b ||true)=true)∧(∀ b,(b ||false)=b)∧(∀ b,(true && b)=b)∧(∀ b,(false && b)=false)∧(∀ b,(b && true)=b)∧(∀ b,(b && false)=false)∧
 (!true)=false∧(!false)=true∧(∀ b,(!!b)=b)∧((false=true)=False)∧(∀ (α β:Type) (a:α) (f:α→Option β),(some a).bind f=f a)∧
 (∀ (α β γ:Type) (x:Option α) (f:α→Option β) (g:β→Option γ),(x.bind f).bind g=x.bind fun y=>(f y).bind g):=
 ⟨Bool.true_or,Bool.false_or,Bool.or_true,Bool.or_false,Bool.true_and,Bool.false_and,Bool.and_true,Bool.and_false,rfl,rfl,Bool.not_not,by simp,fun _ _ _ _=>rfl,fun _ _ _ x f g=>Option.bind_assoc x f g⟩
attribute [go_sem] afD anQ anR ajM s_op anT s_call afG ac3 ajO ac5 afI anU anV anW ajQ anY anZ an0 ajR an1 g_call ac6 AO.core AI.kind AO.kind iO
attribute [go_sem] R8 R9 Mx My ac4 Yw R4 R5 R6 R7 Mz MA MB MC Vo Vp Sb acF X3
attribute [go_sem] R3 MD RY RZ R0 ME MF MG Vq Vr acE Va acA X0 acB X1 acC X2 U9 acD X4 RA X5
attribute [go_sem] Vf Vg Vh Vi Vj Vk Vl Vm Vn RC RE RF RG RH RI RJ RK RL RM RN RO RP RQ RR RS RT RU RV RW RX Yf Yg Sc Sd Se Sf Sg Si Vs Vt Sj Sk Sl Yh Yi Sn Vu Vv MH MI MJ MK Yj Yk Sq Sr Ss Sv Sw Sx Sy Sz SA OR OS SB SC SD SE acP acQ SF SG SH OT OU acR acS acT acU OV OW OX OY OZ O0 O1 O2 O3 O4 O5 O6 O7 O8 SI SJ SK SL acV acW O9 Pa acX acY Yl Ym Yn Yo Yp Yq Yr Ys Yt Vw Vx Vy Vz VA SM SN Yu Yv VB ac2 VC acZ ac0 ac1
attribute [go_sem] List.map_cons List.map_nil List.getElem?_cons_zero List.getElem?_cons_succ List.length_cons List.length_nil List.set_cons_zero List.set_cons_succ List.take_succ_cons List.take_zero List.take_nil List.drop_succ_cons List.drop_zero List.drop_nil List.cons_append List.nil_append List.append_nil Nat.zero_add Nat.add_zero Option.map_some Option.map_none
attribute [go_sem] Bool.not_false Bool.not_true List.length_map List.getElem?_map Int.toNat_natCast Int.natCast_nonneg Int.toNat_zero and_self and_true true_and
attribute [go_sem_proc ↓] reduceIte
attribute [go_sem_proc] Int.reduceLE reduceCtorEq Nat.reduceEqDiff Nat.reduceLeDiff Nat.reduceAdd Nat.reduceMul Nat.reduceSub Nat.reduceLT
theorem bg {b:Bool} {A C:Prop} (h1:b=true→A) (h:b=true:=by assumption) : @CB (.bool b) ⟨A,C⟩:=afE h h1
theorem bh {b:Bool} {A C:Prop} (h1:b=false→C) (h:b=false:=by assumption) : @CB (.bool b) ⟨A,C⟩:=afF h h1
theorem bj {b:Bool} {A C:Prop} (h1:b=true→A) (h2:b=false→C) : @CB (.bool b) ⟨A,C⟩:=⟨h1,h2⟩
theorem ju {a b:Prop} (x:a) (y:b):a∧b:=⟨x,y⟩
theorem bD {α:Type _} (a b:α):(some a=some b)=(a=b):=Option.some.injEq a b
theorem bE {α:Sort _} {p:α→Prop} {a:α} : (∃ x,a=x∧p x)↔p a:=exists_eq_left'
theorem Fb {n m:Nat} (h:Nat.ble n m=true):n≤m:=Nat.le_of_ble_eq_true h
theorem aD {n m:Nat} {res:List (Nat×Option (Bool×Nat))} {d:D} {s':St} {e:Exit} {tm:Tm} {s:St} {Q:Exit→Tm→St→Prop} (hQ:rf n m res d s'=Q) (h : ∃ l,aT res tm s=some l∧Wk ((aV l).fg n m) d∧gY (s.cut n m).ah s'.ah∧(s.cut n m).ay=s'.ay) (he:e = .ret∨e = .normal:=by first|exact .inl rfl|exact .inr rfl):Q e tm s:=by cases he with|inl x=>cases x;exact ajK hQ h|inr x=>cases x;exact ajL hQ h
theorem bX {p:Prop} (h:p:=by repeat' (first|exact Ok.out|with_reducible refine ju ?_ ?_|(simp;done))):p:=h
theorem bO {p:Prop} (h:p:=by repeat' (first|exact Ok.out|with_reducible refine ju ?_ ?_)):p:=h
theorem fM {p:Prop} (h:p:=by(try cases h);simp only[aT,aV,bD,bE,go_sem,hD,gA,gB,gC];repeat' (first|exact Ok.out|with_reducible refine ju ?_ ?_|(simp;done))):p:=h
theorem bx {p:Prop} (h:p:=by simp only[aT,aV,bD,bE,go_sem,hD,gA,gB,gC];repeat' (first|exact Ok.out|with_reducible refine ju ?_ ?_|(simp;done))):p:=h
theorem lX_ {p:Prop} (h:p:=by simp only[go_sem,hD,gA,gB,gC];repeat' (first|exact Ok.out|with_reducible refine ju ?_ ?_)):p:=h
theorem fj {P:Program} {B:gN} {nt:Nat} {a:AC} {Q:Exit→Tm→St→Prop} {tm bH:Tm} {s:St} {ff:List (List D)} (n m:Nat) (h:bl P B nt a Q bH ⟨ff,(s.cut n m).ay⟩) (hn:B.s.ah.length≤n:=by rw[hB];exact Fb rfl) (hm:B.s.ay.length≤m:=by rw[hB];exact Fb rfl) (ht:yu tm n m bH:=by exact lX_) (ho:gY (s.cut n m).ah ff:=by exact lX_):bl P B nt a Q tm s:=bl.re bH ff n m hn hm ht ho h
theorem dW {P:Program} {B:gN} {nt:Nat} {a:AC} {Q:Exit→Tm→St→Prop} {tm bH:Tm} {s:St} {ff:List (List D)} (n m:Nat) (ht:yu tm n m bH) (ho:gY (s.cut n m).ah ff) (h:bl P B nt a Q bH ⟨ff,(s.cut n m).ay⟩) (hn:B.s.ah.length≤n:=by rw[hB];exact Fb rfl) (hm:B.s.ay.length≤m:=by rw[hB];exact Fb rfl):bl P B nt a Q tm s:=bl.re bH ff n m hn hm ht ho h
theorem cd:0<1∧0<1∧0<1∧0<1:=⟨Nat.zero_lt_one,Nat.zero_lt_one,Nat.zero_lt_one,Nat.zero_lt_one⟩
end Go.Abs
namespace Go.Abs
mutual
theorem SO (n m:Nat) : ∀ d,D.ok 0 0 d=true→D.fg n m d=d
 | .junk,_=>by simp[D.fg]
 | .int k n,_=>by simp[D.fg]
 | .bool b,_=>by simp[D.fg]
 | .str l,_=>by simp[D.fg]
 | .eI,_=>by simp[D.fg]
 | .val v,_=>by simp[D.fg]
 | .eW z,_=>by simp[D.fg]
 | .fS T o,h=>by simp[D.ok]at h
 | .gR o,h=>by simp[D.ok]at h
 | .ie f cs,h=>by
  simp only[D.ok]at h
  simp only[D.fg,iX n m cs h]
 | .ptr o f,h=>by simp[D.ok]at h
 | .dN r f,h=>by
  simp only[D.ok]at h
  simp only[D.fg,iX n m r h]
 | .slice g z rows,h=>by
  simp only[D.ok,Bool.and_eq_true]at h
  simp only[D.fg,MM n m rows h.2]
  cases g with
  |tok t y=>simp[Tag.ok]at h
  |full=>rfl
  |shared=>rfl
 | .agg cs,h=>by
  simp only[D.ok]at h
  simp only[D.fg,iX n m cs h]
 | .tuple cs,h=>by
  simp only[D.ok]at h
  simp only[D.fg,iX n m cs h]
theorem iX (n m:Nat) : ∀ l,D.bK 0 0 l=true→D.gT n m l=l
 | [],_=>by simp[D.gT]
 |d::r,h=>by
  simp only[D.bK,Bool.and_eq_true]at h
  simp only[D.gT,SO n m d h.1,iX n m r h.2]
theorem MM (n m:Nat) : ∀ l,D.jd 0 0 l=true→D.lC n m l=l
 | [],_=>by simp[D.lC]
 |d::r,h=>by
  simp only[D.jd,Bool.and_eq_true]at h
  simp only[D.lC,iX n m d h.1,MM n m r h.2]
end
theorem jg {α:Type} {f:α→List D} (h : ∀ x,D.bK 0 0 (f x)=true) (l:List α):D.jd 0 0 (l.map f)=true:=by
 simp[GN,h]
theorem mZ {α:Type} {f:α→List D} (h : ∀ x,D.bK 0 0 (f x)=true) (n m:Nat) (l:List α):D.lC n m (l.map f)=l.map f:=MM n m _ (jg h l)
theorem PK (n m:Nat) : ∀ a b,D.lC n m (a++b)=D.lC n m a++D.lC n m b
 | [],b=>by simp[D.lC]
 |x::a,b=>by simp[D.lC,PK n m a b]
abbrev aF:=List UInt8
structure pU where
 kind:Int
 text:aF
 n:Int
 pos:Int
deriving DecidableEq
structure Ex where
 op:Int
 n:Int
 name:aF
 kids:List Ex
structure Ar where
 ref:Bool
 name:aF
 x:Ex
structure Sm where
 id:Int
 kind:Int
 labels:List aF
 name:aF
 proc:aF
 x:Ex
 has:Bool
 args:List Ar
 aM:List Sm
 aL:List Sm
structure Pm where
 name:aF
 ref:Bool
structure Pc where
 name:aF
 params:List Pm
 vars:List aF
 body:List Sm
 fin:List aF
structure Pg where
 globals:List aF
 procs:List Pc
def qn:Ex:=⟨0,0,[],[]⟩
def ar0:Ar:=⟨false,[],qn⟩
def Jw:Sm:=⟨0,0,[],[],[],qn,false,[],[],[]⟩
def pg0:Pg:=⟨[],[]⟩
def encStr (s:aF):List D:= [.str s]
def kJ (t:pU):List D:= [.int .i64 t.kind, .str t.text, .int .i64 t.n, .int .i64 t.pos]
def sl (z:Nat) (rows:List (List D)):D:= .slice .shared z rows
mutual
def bQ:Ex→List D
 |⟨op,n,name,kids⟩=> [.int .i64 op, .int .i64 n, .str name, .slice .shared 4 (xp kids)]
def xp:List Ex→List (List D)
 | []=> []
 |x::l=>bQ x::xp l
end
theorem Jx : ∀ l,xp l=l.map bQ
 | []=>by simp[xp]
 |x::l=>by simp[xp,Jx l]
theorem iz (x:Ex):bQ x = [.int .i64 x.op, .int .i64 x.n, .str x.name, .slice .shared 4 (x.kids.map bQ)]:=by
 cases x;simp[bQ,Jx]
def eR (a:Ar):List D:= [.bool a.ref, .str a.name, .int .i64 a.x.op, .int .i64 a.x.n, .str a.x.name, .slice .shared 4 (a.x.kids.map bQ)]
mutual
def aS:Sm→List D
 |⟨id,kind,labels,name,proc,x,has,args,aM,aL⟩=> [.int .i64 id, .int .i64 kind, .slice .shared 1 (labels.map encStr), .str name, .str proc,
  .int .i64 x.op, .int .i64 x.n, .str x.name, .slice .shared 4 (x.kids.map bQ), .bool has, .slice .shared 6 (args.map eR), .slice .shared 13 (vx aM), .slice .shared 13 (vx aL)]
def vx:List Sm→List (List D)
 | []=> []
 |x::l=>aS x::vx l
end
theorem Jy : ∀ l,vx l=l.map aS
 | []=>by simp[vx]
 |x::l=>by simp[vx,Jy l]
theorem dL (s:Sm):aS s = [.int .i64 s.id, .int .i64 s.kind, .slice .shared 1 (s.labels.map encStr), .str s.name, .str s.proc,
 .int .i64 s.x.op, .int .i64 s.x.n, .str s.x.name, .slice .shared 4 (s.x.kids.map bQ), .bool s.has, .slice .shared 6 (s.args.map eR), .slice .shared 13 (s.aM.map aS), .slice .shared 13 (s.aL.map aS)]:=by
 cases s;simp[aS,Jy]
def gp (p:Pm):List D:= [.str p.name, .bool p.ref]
def bG (p:Pc):List D:= [.str p.name, .slice .shared 2 (p.params.map gp), .slice .shared 1 (p.vars.map encStr), .slice .shared 13 (p.body.map aS), .slice .shared 1 (p.fin.map encStr)]
def bJ (p:Pg):List D:= [.slice .shared 1 (p.globals.map encStr), .slice .shared 5 (p.procs.map bG)]
theorem afJ (x:pU):(kJ x).length=4:=nd rfl
theorem ac7 (x:pU):List.take 4 (kJ x)=kJ x:=nd rfl
theorem ac8 (x:pU):List.drop 4 (kJ x) = []:=nd rfl
theorem VD (x:pU):(kJ x)[0]? = some (.int .i64 x.kind):=nd rfl
theorem VE (x:pU):(kJ x)[1]? = some (.str x.text):=nd rfl
theorem VF (x:pU):(kJ x)[2]? = some (.int .i64 x.n):=nd rfl
theorem VG (x:pU):(kJ x)[3]? = some (.int .i64 x.pos):=nd rfl
theorem ajS (GV:Int) (aaY:aF) (n_:Int) (afL:Int):kJ ⟨GV,aaY,n_,afL⟩ = [.int .i64 GV, .str aaY, .int .i64 n_, .int .i64 afL]:=by simp only[kJ]
theorem aaZ (x:Ex):(bQ x).length=4:=by simp only[iz];rfl
theorem afM (x:Ex):List.take 4 (bQ x)=bQ x:=by simp only[iz];rfl
theorem afN (x:Ex):List.drop 4 (bQ x) = []:=by simp only[iz];rfl
theorem Yx (x:Ex):(bQ x)[0]? = some (.int .i64 x.op):=by simp only[iz];rfl
theorem Yy (x:Ex):(bQ x)[1]? = some (.int .i64 x.n):=by simp only[iz];rfl
theorem Yz (x:Ex):(bQ x)[2]? = some (.str x.name):=by simp only[iz];rfl
theorem YA (x:Ex):(bQ x)[3]? = some (.slice .shared 4 (x.kids.map bQ)):=by simp only[iz];rfl
theorem an2 (op_:Int) (n_:Int) (pV:aF) (aa0:List Ex):bQ ⟨op_,n_,pV,aa0⟩ = [.int .i64 op_, .int .i64 n_, .str pV, .slice .shared 4 (aa0.map bQ)]:=by simp only[iz]
theorem ajT (x:Ar):(eR x).length=6:=nd rfl
theorem afO (x:Ar):List.take 6 (eR x)=eR x:=nd rfl
theorem afP (x:Ar):List.drop 6 (eR x) = []:=nd rfl
theorem YB (x:Ar):(eR x)[0]? = some (.bool x.ref):=nd rfl
theorem YC (x:Ar):(eR x)[1]? = some (.str x.name):=nd rfl
theorem YD (x:Ar):(eR x)[2]? = some (.int .i64 x.x.op):=nd rfl
theorem YE (x:Ar):(eR x)[3]? = some (.int .i64 x.x.n):=nd rfl
theorem YF (x:Ar):(eR x)[4]? = some (.str x.x.name):=nd rfl
theorem YG (x:Ar):(eR x)[5]? = some (.slice .shared 4 (x.x.kids.map bQ)):=nd rfl
theorem YH (x:Ar):List.take 4 (List.drop 2 (eR x))=bQ x.x:=by simp only[eR,iz];rfl
theorem an3 (MN:Bool) (pV:aF) (x_:Ex):eR ⟨MN,pV,x_⟩ = [.bool MN, .str pV, .int .i64 x_.op, .int .i64 x_.n, .str x_.name, .slice .shared 4 (x_.kids.map bQ)]:=by simp only[eR]
theorem K5 (x:Sm):(aS x).length=13:=by simp only[dL];rfl
theorem afQ (x:Sm):List.take 13 (aS x)=aS x:=by simp only[dL];rfl
theorem afR (x:Sm):List.drop 13 (aS x) = []:=by simp only[dL];rfl
theorem YI (x:Sm):(aS x)[0]? = some (.int .i64 x.id):=by simp only[dL];rfl
theorem YJ (x:Sm):(aS x)[1]? = some (.int .i64 x.kind):=by simp only[dL];rfl
theorem YK (x:Sm):(aS x)[2]? = some (.slice .shared 1 (x.labels.map encStr)):=by simp only[dL];rfl
theorem YL (x:Sm):(aS x)[3]? = some (.str x.name):=by simp only[dL];rfl
theorem YM (x:Sm):(aS x)[4]? = some (.str x.proc):=by simp only[dL];rfl
theorem YN (x:Sm):(aS x)[5]? = some (.int .i64 x.x.op):=by simp only[dL];rfl
theorem YO (x:Sm):(aS x)[6]? = some (.int .i64 x.x.n):=by simp only[dL];rfl
theorem YP (x:Sm):(aS x)[7]? = some (.str x.x.name):=by simp only[dL];rfl
theorem YQ (x:Sm):(aS x)[8]? = some (.slice .shared 4 (x.x.kids.map bQ)):=by simp only[dL];rfl
theorem YR (x:Sm):(aS x)[9]? = some (.bool x.has):=by simp only[dL];rfl
theorem VH (x:Sm):(aS x)[10]? = some (.slice .shared 6 (x.args.map eR)):=by simp only[dL];rfl
theorem VI (x:Sm):(aS x)[11]? = some (.slice .shared 13 (x.aM.map aS)):=by simp only[dL];rfl
theorem VJ (x:Sm):(aS x)[12]? = some (.slice .shared 13 (x.aL.map aS)):=by simp only[dL];rfl
theorem YS (x:Sm):List.take 4 (List.drop 5 (aS x))=bQ x.x:=by simp only[dL,iz];rfl
theorem an4 (id_:Int) (GV:Int) (PN:List aF) (pV:aF) (aa1:aF) (x_:Ex) (afS:Bool) (aa2:List Ar) (afT:List Sm) (afU:List Sm):aS ⟨id_,GV,PN,pV,aa1,x_,afS,aa2,afT,afU⟩ = [.int .i64 id_, .int .i64 GV, .slice .shared 1 (PN.map encStr), .str pV, .str aa1, .int .i64 x_.op, .int .i64 x_.n, .str x_.name, .slice .shared 4 (x_.kids.map bQ), .bool afS, .slice .shared 6 (aa2.map eR), .slice .shared 13 (afT.map aS), .slice .shared 13 (afU.map aS)]:=by simp only[dL]
theorem ajU (x:Pm):(gp x).length=2:=nd rfl
theorem afV (x:Pm):List.take 2 (gp x)=gp x:=nd rfl
theorem afW (x:Pm):List.drop 2 (gp x) = []:=nd rfl
theorem YT (x:Pm):(gp x)[0]? = some (.str x.name):=nd rfl
theorem YU (x:Pm):(gp x)[1]? = some (.bool x.ref):=nd rfl
theorem an5 (pV:aF) (MN:Bool):gp ⟨pV,MN⟩ = [.str pV, .bool MN]:=by simp only[gp]
theorem ajV (x:Pc):(bG x).length=5:=nd rfl
theorem afX (x:Pc):List.take 5 (bG x)=bG x:=nd rfl
theorem afY (x:Pc):List.drop 5 (bG x) = []:=nd rfl
theorem YV (x:Pc):(bG x)[0]? = some (.str x.name):=nd rfl
theorem YW (x:Pc):(bG x)[1]? = some (.slice .shared 2 (x.params.map gp)):=nd rfl
theorem YX (x:Pc):(bG x)[2]? = some (.slice .shared 1 (x.vars.map encStr)):=nd rfl
theorem YY (x:Pc):(bG x)[3]? = some (.slice .shared 13 (x.body.map aS)):=nd rfl
theorem YZ (x:Pc):(bG x)[4]? = some (.slice .shared 1 (x.fin.map encStr)):=nd rfl
theorem an6 (pV:aF) (PO:List Pm) (aa3:List aF) (aa4:List Sm) (afZ:List aF):bG ⟨pV,PO,aa3,aa4,afZ⟩ = [.str pV, .slice .shared 2 (PO.map gp), .slice .shared 1 (aa3.map encStr), .slice .shared 13 (aa4.map aS), .slice .shared 1 (afZ.map encStr)]:=by simp only[bG]
theorem ajW (x:Pg):(bJ x).length=2:=nd rfl
theorem af0 (x:Pg):List.take 2 (bJ x)=bJ x:=nd rfl
theorem af1 (x:Pg):List.drop 2 (bJ x) = []:=nd rfl
theorem Y0 (x:Pg):(bJ x)[0]? = some (.slice .shared 1 (x.globals.map encStr)):=nd rfl
theorem Y1 (x:Pg):(bJ x)[1]? = some (.slice .shared 5 (x.procs.map bG)):=nd rfl
theorem an7 (MO:List aF) (VK:List Pc):bJ ⟨MO,VK⟩ = [.slice .shared 1 (MO.map encStr), .slice .shared 5 (VK.map bG)]:=by simp only[bJ]
attribute [go_sem] afJ ac7 ac8 VD VE VF VG ajS aaZ afM afN Yx Yy Yz YA an2 ajT afO afP YB YC YD YE YF YG YH an3 K5 afQ afR YI YJ YK YL YM YN YO YP YQ YR VH VI VJ YS an4 ajU afV afW YT YU an5 ajV afX afY YV YW YX YY YZ an6 ajW af0 af1 Y0 Y1 an7
theorem GX (s:aF):D.bK 0 0 (encStr s)=true:=rfl
theorem aa5 (t:pU):D.bK 0 0 (kJ t)=true:=rfl
mutual
theorem jN : ∀ x,D.bK 0 0 (bQ x)=true
 |⟨op,n,name,kids⟩=>by simp[bQ,D.bK,D.ok,Tag.ok,aa6 kids]
theorem aa6 : ∀ l,D.jd 0 0 (xp l)=true
 | []=>rfl
 |x::l=>by simp[xp,D.jd,jN x,aa6 l]
end
theorem SP (a:Ar):D.bK 0 0 (eR a)=true:=by simp[eR,D.bK,D.ok,Tag.ok,jg jN]
mutual
theorem pI : ∀ x,D.bK 0 0 (aS x)=true
 |⟨id,kind,labels,name,proc,x,has,args,aM,aL⟩=>by simp[aS,D.bK,D.ok,Tag.ok,SQ aM,SQ aL,jg GX,jg jN,jg SP]
theorem SQ : ∀ l,D.jd 0 0 (vx l)=true
 | []=>rfl
 |x::l=>by simp[vx,D.jd,pI x,SQ l]
end
theorem SR (p:Pm):D.bK 0 0 (gp p)=true:=rfl
theorem zl (p:Pc):D.bK 0 0 (bG p)=true:=by simp[bG,D.bK,D.ok,Tag.ok,jg SR,jg GX,jg pI]
theorem jh (p:Pg):D.bK 0 0 (bJ p)=true:=by simp[bJ,D.bK,D.ok,Tag.ok,jg GX,jg zl]
theorem af2 (n m:Nat) (x:pU):D.gT n m (kJ x)=kJ x:=iX n m _ (aa5 x)
theorem ajX (n m:Nat) (x:Ex):D.gT n m (bQ x)=bQ x:=iX n m _ (jN x)
theorem ajY (n m:Nat) (x:Ar):D.gT n m (eR x)=eR x:=iX n m _ (SP x)
theorem ajZ (n m:Nat) (x:Sm):D.gT n m (aS x)=aS x:=iX n m _ (pI x)
theorem aj0 (n m:Nat) (x:Pm):D.gT n m (gp x)=gp x:=iX n m _ (SR x)
theorem aj1 (n m:Nat) (x:Pc):D.gT n m (bG x)=bG x:=iX n m _ (zl x)
theorem aj2 (n m:Nat) (x:Pg):D.gT n m (bJ x)=bJ x:=iX n m _ (jh x)
attribute [go_sem] af2 ajX ajY ajZ aj0 aj1 aj2
theorem fe (l:List aF):D.jd 0 0 (l.map encStr)=true:=jg GX l
theorem aa7 (l:List Ex):D.jd 0 0 (l.map bQ)=true:=jg jN l
theorem K6 (l:List Ar):D.jd 0 0 (l.map eR)=true:=jg SP l
theorem nz (l:List Sm):D.jd 0 0 (l.map aS)=true:=jg pI l
theorem SS (l:List Pm):D.jd 0 0 (l.map gp)=true:=jg SR l
theorem yv (l:List Pc):D.jd 0 0 (l.map bG)=true:=jg zl l
theorem MP (n m:Nat) (l:List aF):D.lC n m (l.map encStr)=l.map encStr:=mZ GX n m l
theorem af3 (n m:Nat) (l:List pU):D.lC n m (l.map kJ)=l.map kJ:=mZ aa5 n m l
theorem aj3 (n m:Nat) (l:List Ex):D.lC n m (l.map bQ)=l.map bQ:=mZ jN n m l
theorem aj4 (n m:Nat) (l:List Ar):D.lC n m (l.map eR)=l.map eR:=mZ SP n m l
theorem aj5 (n m:Nat) (l:List Sm):D.lC n m (l.map aS)=l.map aS:=mZ pI n m l
theorem aj6 (n m:Nat) (l:List Pm):D.lC n m (l.map gp)=l.map gp:=mZ SR n m l
theorem aa8 (n m:Nat) (l:List Pc):D.lC n m (l.map bG)=l.map bG:=mZ zl n m l
theorem af4 (x:Ex) (r:List D):bQ x++r = .int .i64 x.op:: .int .i64 x.n:: .str x.name:: .slice .shared 4 (x.kids.map bQ)::r:=by rw[iz];rfl
theorem ac9 (d:D) (x:Ex):d::bQ x = [d, .int .i64 x.op, .int .i64 x.n, .str x.name, .slice .shared 4 (x.kids.map bQ)]:=by rw[iz]
attribute [go_sem] af4 ac9
theorem aj7:((0:Nat):Int)=0:=nd rfl
theorem aj8:((1:Nat):Int)=1:=nd rfl
theorem aj9:((2:Nat):Int)=2:=nd rfl
attribute [go_sem] aj7 aj8 aj9 PK List.length_append List.map_append encStr qn ar0 Jw pg0 MP af3 aj3 aj4 aj5 aj6 aa8
theorem mx (a b:Nat):(if(b:Int) > (a:Int)then(b:Int)else(a:Int))=((max a b:Nat):Int):=by split<;>omega
theorem eD {x:Int} (h1 : -9223372036854775808≤x) (h2:x<9223372036854775808):IntKind.wrap .i64 x=x:=by
 rw[IntKind.wrap_i64];omega
@[go_sem] theorem aH {n:Nat} (h:n<4611686018427387904):IntKind.wrap .i64 ((n:Int)+1)=((n+1:Nat):Int):=by
 rw[eD]<;>omega
def inc (n:Nat):Option Nat:=if n<4611686018427387904 then some (n+1)else none
def an8 (n:Int):Option Int:=if -4611686018427387904<n∧n<4611686018427387904 then some (n+1)else none
@[go_sem] theorem amE {n:Nat} (h:n+1<4611686018427387904):IntKind.wrap .i64 ((n:Int)+1)=((n+1:Nat):Int):=by
 rw[eD]<;>omega
@[go_sem] theorem amF {n:Nat} (h:n<4611686018427387904):IntKind.wrap .i64 ((n:Int)+2)=((n+2:Nat):Int):=by
 rw[eD]<;>omega
def af5 {α:Type} (l:List α) (i:Nat):Option α:=if i<4611686018427387904 then l[i]? else none
def push {α:Type} (k:Nat) (l:List α) (x:α):Option (List α):=if(l.length+1)*k≤bp then some (l++ [x])else none
end Go.Abs
namespace Go.Abs
mutual
def Ex.size:Ex→Nat
 |⟨_,_,_,kids⟩=>1+Ex.a7 kids
def Ex.a7:List Ex→Nat
 | []=>0
 |x::l=>1+x.size+Ex.a7 l
end
mutual
def Ex.depth:Ex→Nat
 |⟨_,_,_,kids⟩=>Ex.rD kids+1
def Ex.rD:List Ex→Nat
 | []=>0
 |x::l=>max x.depth (Ex.rD l)
end
def af6 (x:Ex):Option Int:=if x.size<4611686018427387904 then some (x.depth:Int)else none
theorem Ex.da {x:Ex} : ∀ {l:List Ex},x∈l→x.size<Ex.a7 l
 |y::l,h=>by
  simp only[Ex.a7]
  rcases List.mem_cons.1 h with rfl|h
  ·omega
  ·have:=Ex.da h;omega
theorem Ex.dJ : ∀ (l:List Ex),l.length≤Ex.a7 l
 | []=>Nat.le_refl _
 |x::l=>by simp only[Ex.a7,List.length_cons];have:=Ex.dJ l;omega
def SU (t:pU):Int×Int:=
 if t.kind != 4 then(0,0)
 else if t.text == [124,124]then(17,1)
 else if t.text == [38,38]then(16,2)
 else if t.text == [61,61]then(14,3)
 else if t.text == [33,61]then(15,3)
 else if t.text == [60]then(10,4)
 else if t.text == [60,61]then(11,4)
 else if t.text == [62]then(12,4)
 else if t.text == [62,61]then(13,4)
 else if t.text == [43]then(8,5)
 else if t.text == [45]then(9,5)
 else if t.text == [42]then(5,6)
 else if t.text == [47]then(6,6)
 else if t.text == [37]then(7,6)
 else(0,0)
structure Rd where
 l:List pU
 i:Nat
 code:Int
 MQ:Int
 n:Nat
abbrev Rd.good (r:Rd):Bool:=r.code==0
def Rd.xq (r:Rd):Option pU:=(af5 r.l r.i).bind fun t=>if decide (0≤t.kind) && decide (t.kind≤4)then some t else none
def Rd.bad (c:Int) (r:Rd):Option Rd:=if r.good then r.xq.bind fun t=>some {r with code:=c,MQ:=t.pos}else some r
def Rd.is (text:aF) (r:Rd):Option Bool:=r.xq.bind fun t=>some ((t.kind==3 ||t.kind==4) && t.text==text)
def Rd.take (text:aF) (r:Rd):Option (Bool×Rd):=
 if !r.good then some (false,r)else(r.is text).bind fun b=>if !b then some (false,r)else some (true,{r with i:=r.i+1})
def Rd.want (text:aF) (r:Rd):Option Rd:=(r.take text).bind fun p=>if !p.1 then p.2.bad 3 else some p.2
def Rd.name (room:Bool) (r:Rd):Option (aF×Rd):=
 r.xq.bind fun t=>if !r.good ||t.kind != 1 then(r.bad 3).bind fun r=>some ([],r)else if !room then(r.bad 4).bind fun r=>some ([],r)else some (t.text,{r with i:=r.i+1})
def Rd.on (r:Rd):Rd:= {r with i:=r.i+1}
mutual
def Rd.one:Nat→Rd→Option (Ex×Rd)
 | 0,_=>none
 | n+1,r=>r.xq.bind fun t=>
  if !r.good then some (qn,r)
  else if t.kind==2 then some (⟨1,t.n,[],[]⟩,{r with i:=r.i+1})
  else if t.kind==1 then some (⟨2,0,t.text,[]⟩,{r with i:=r.i+1})
  else(r.take [40]).bind fun p=>
   if p.1 then(Rd.two n 1 p.2).bind fun x=>(x.2.want [41]).bind fun r=>some (x.1,r)
   else(p.2.take [45]).bind fun p=>
    if p.1 then(Rd.one n p.2).bind fun x=>some (⟨3,0,[],[x.1]⟩,x.2)
    else(p.2.take [33]).bind fun p=>
     if p.1 then(Rd.one n p.2).bind fun x=>some (⟨4,0,[],[x.1]⟩,x.2)
     else(p.2.bad 3).bind fun r=>some (qn,r)
def Rd.two:Nat→Int→Rd→Option (Ex×Rd)
 | 0,_,_=>none
 |n+1,least,r=>(Rd.one n r).bind fun x=>Rd.af7 n least x.1 x.2
def Rd.af7:Nat→Int→Ex→Rd→Option (Ex×Rd)
 | 0,_,_,_=>none
 | n+1,least,x,r=>
  if r.good then r.xq.bind fun t=>
   if decide ((SU t).2<least) ||(SU t).1==0 then some (x,r)
   else(Rd.two n ((SU t).2+1) {r with i:=r.i+1}).bind fun y=>Rd.af7 n least ⟨(SU t).1,0,[],[x,y.1]⟩ y.2
  else some (x,r)
end
def Rd.whole (n:Nat) (r:Rd):Option (Ex×Rd):=
 r.xq.bind fun t=>(Rd.two n 1 r).bind fun x=>
  if x.2.good then(af6 x.1).bind fun d=>if decide (d > 20)then some (x.1,{x.2 with code:=4,MQ:=t.pos})else some (x.1,x.2)
  else some (x.1,x.2)
def Rd.names:Nat→List aF→Int→Rd→Option (List aF×Rd)
 | 0,_,_,_=>none
 | n+1,l,af8,r=>
  if r.good then(r.name (decide ((l.length:Int)<af8))).bind fun p=>(push 17 l p.1).bind fun l=>(p.2.take [44]).bind fun q=>
   if !q.1 then(q.2.want [59]).bind fun r=>some (l,r)else Rd.names n l af8 q.2
  else some (l,r)
def Rd.ahead (sign:aF) (r:Rd):Option Bool:=
 if r.good then r.xq.bind fun t=>if t.kind==1 then(af5 r.l (r.i+1)).bind fun u=>some (u.kind==4 && u.text==sign)else some false
 else some false
def Rd.labels:Nat→List aF→Rd→Option (List aF×Rd)
 | 0,_,_=>none
 |n+1,l,r=>(r.ahead [58]).bind fun b=>if b then r.xq.bind fun t=>(push 17 l t.text).bind fun l=>Rd.labels n l {r with i:=r.i+2}else some (l,r)
def Rd.af9 (r:Rd):Option Bool:=
 r.xq.bind fun t=>some (if t.kind==1 then true else if t.kind != 3 then false
  else t.text == [105,102] ||t.text == [119,104,105,108,101] ||t.text == [98,114,101,97,107] ||t.text == [99,111,110,116,105,110,117,101] ||t.text == [114,101,116,117,114,110] ||t.text == [103,111,116,111] ||t.text == [114,101,97,100] ||t.text == [112,114,105,110,116])
def Rd.SV (m:Nat):Nat→List Ar→Rd→Option (List Ar×Rd)
 | 0,_,_=>none
 | n+1,l,r=>
  if r.good then(r.take [114,101,102]).bind fun p=>
   if p.1 then(p.2.name true).bind fun x=>(push 81 l ⟨true,x.1,qn⟩).bind fun l=>(x.2.take [44]).bind fun c=>if !c.1 then some (l,c.2)else Rd.SV m n l c.2
   else(Rd.whole m p.2).bind fun x=>(push 81 l ⟨false,[],x.1⟩).bind fun l=>(x.2.take [44]).bind fun c=>if !c.1 then some (l,c.2)else Rd.SV m n l c.2
  else some (l,r)
def Rd.other (sign:aF) (r:Rd):Option Bool:=if r.good then(r.is sign).bind fun b=>some !b else some false
def Rd.call (m:Nat) (name proc:aF) (r:Rd):Option (Sm×Rd):=
 (r.want [40]).bind fun r=>(r.other [41]).bind fun b=>
  if b then(Rd.SV m m [] r).bind fun q=>(q.2.want [41]).bind fun r=>(r.want [59]).bind fun r=>some (⟨0,4,[],name,proc,qn,false,q.1,[],[]⟩,r)
  else(r.want [41]).bind fun r=>(r.want [59]).bind fun r=>some (⟨0,4,[],name,proc,qn,false,[],[],[]⟩,r)
def Rd.named (m:Nat) (r:Rd):Option (Sm×Rd):=
 (r.name true).bind fun x=>(x.2.is [40]).bind fun b=>
  if b then Rd.call m [] x.1 x.2
  else(x.2.want [61]).bind fun r=>(r.ahead [40]).bind fun b=>
   if b then(r.name true).bind fun y=>Rd.call m x.1 y.1 y.2
   else(Rd.whole m r).bind fun y=>(y.2.want [59]).bind fun r=>some (⟨0,1,[],x.1,[],y.1,false,[],[],[]⟩,r)
def Rd.plain (m:Nat) (word:aF) (r:Rd):Option (Sm×Rd):=
 if word == [98,114,101,97,107]then some (⟨0,7,[],[],[],qn,false,[],[],[]⟩,r)
 else if word == [99,111,110,116,105,110,117,101]then some (⟨0,8,[],[],[],qn,false,[],[],[]⟩,r)
 else if word == [114,101,116,117,114,110]then(r.is [59]).bind fun b=>
  if !b then(Rd.whole m r).bind fun x=>some (⟨0,9,[],[],[],x.1,true,[],[],[]⟩,x.2)else some (⟨0,9,[],[],[],qn,false,[],[],[]⟩,r)
 else if word == [103,111,116,111]then(r.name true).bind fun x=>some (⟨0,10,[],x.1,[],qn,false,[],[],[]⟩,x.2)
 else if word == [114,101,97,100]then(r.name true).bind fun x=>some (⟨0,2,[],x.1,[],qn,false,[],[],[]⟩,x.2)
 else if word == [112,114,105,110,116]then(Rd.whole m r).bind fun x=>some (⟨0,3,[],[],[],x.1,false,[],[],[]⟩,x.2)
 else some (Jw,r)
def Rd.head (m:Nat) (r:Rd):Option (Ex×Rd):=(r.want [40]).bind fun r=>(Rd.whole m r).bind fun x=>(x.2.want [41]).bind fun r=>some (x.1,r)
mutual
def Rd.rows (m:Nat):Nat→Int→Bool→Rd→Option ((List Sm×List aF)×Rd)
 | 0,_,_,_=>none
 |n+1,nest,body,r=>Rd.aa9 m n nest body [] r
def Rd.aa9 (m:Nat):Nat→Int→Bool→List Sm→Rd→Option ((List Sm×List aF)×Rd)
 | 0,_,_,_,_=>none
 | n+1,nest,body,out,r=>
  if r.good then(Rd.labels m [] r).bind fun l=>(l.2.is [125]).bind fun b=>
   if b && (body ||(l.1.length:Int)==0)then some ((out,l.1),{l.2 with i:=l.2.i+1})
   else(Rd.stmt m n nest l.2).bind fun s=>(push 209 out {s.1 with labels:=l.1}).bind fun out=>Rd.aa9 m n nest body out s.2
  else some (([],[]),r)
def Rd.stmt (m:Nat):Nat→Int→Rd→Option (Sm×Rd)
 | 0,_,_=>none
 | n+1,nest,r=>r.af9.bind fun b=>
  if !b then(r.bad 3).bind fun r=>some (Jw,r)
  else(inc r.n).bind fun k=>
   if decide ((k:Int) > 200) ||decide (nest > 12)then(({r with n:=k} : Rd).bad 4).bind fun r=>some (Jw,r)
   else({r with n:=k} : Rd).xq.bind fun t=>
    if t.kind==1 then Rd.named m {r with n:=k}
    else if t.text == [105,102]then Rd.choice m n nest {r with n:=k,i:=r.i+1}
    else if t.text == [119,104,105,108,101]then(Rd.head m {r with n:=k,i:=r.i+1}).bind fun x=>(Rd.block m n nest x.2).bind fun b=>some (⟨0,6,[],[],[],x.1,false,[],b.1,[]⟩,b.2)
    else(Rd.plain m t.text {r with n:=k,i:=r.i+1}).bind fun s=>(s.2.want [59]).bind fun r=>some (s.1,r)
def Rd.block (m:Nat):Nat→Int→Rd→Option (List Sm×Rd)
 | 0,_,_=>none
 |n+1,nest,r=>(r.want [123]).bind fun r=>(an8 nest).bind fun k=>(Rd.rows m n k false r).bind fun p=>some (p.1.1,p.2)
def Rd.choice (m:Nat):Nat→Int→Rd→Option (Sm×Rd)
 | 0,_,_=>none
 |n+1,nest,r=>(Rd.head m r).bind fun x=>(Rd.block m n nest x.2).bind fun t=>(t.2.take [101,108,115,101]).bind fun q=>
  if q.1 then(Rd.block m n nest q.2).bind fun e=>some (⟨0,5,[],[],[],x.1,false,[],t.1,e.1⟩,e.2)
  else some (⟨0,5,[],[],[],x.1,false,[],t.1,[]⟩,q.2)
end
def Rd.params:Nat→List Pm→Rd→Option (List Pm×Rd)
 | 0,_,_=>none
 | n+1,l,r=>
  if r.good then(r.take [114,101,102]).bind fun q=>(q.2.name (decide ((l.length:Int)<8))).bind fun x=>(push 25 l ⟨x.1,q.1⟩).bind fun l=>(x.2.take [44]).bind fun c=>
   if !c.1 then some (l,c.2)else Rd.params n l c.2
  else some (l,r)
def Rd.vars (m:Nat):Nat→List aF→Rd→Option (List aF×Rd)
 | 0,_,_=>none
 |n+1,l,r=>(r.take [118,97,114]).bind fun q=>if q.1 then(Rd.names m l 16 q.2).bind fun x=>Rd.vars m n x.1 x.2 else some (l,q.2)
def Rd.abb (m:Nat) (name:aF) (ps:List Pm) (r:Rd):Option (Pc×Rd):=
 (Rd.vars m m [] r).bind fun v=>(Rd.rows m m 1 true v.2).bind fun b=>some (⟨name,ps,v.1,b.1.1,b.1.2⟩,b.2)
def Rd.proc (m:Nat) (r:Rd):Option (Pc×Rd):=
 (r.name true).bind fun x=>(x.2.want [40]).bind fun r=>(r.other [41]).bind fun b=>
  if b then(Rd.params m [] r).bind fun q=>(q.2.want [41]).bind fun r=>(r.want [123]).bind fun r=>Rd.abb m x.1 q.1 r
  else(r.want [41]).bind fun r=>(r.want [123]).bind fun r=>Rd.abb m x.1 [] r
def Rd.globals (m:Nat):Nat→List aF→Rd→Option (List aF×Rd)
 | 0,_,_=>none
 |n+1,l,r=>(r.take [103,108,111,98,97,108]).bind fun q=>if q.1 then(Rd.names m l 16 q.2).bind fun x=>Rd.globals m n x.1 x.2 else some (l,q.2)
def Rd.aga (r:Rd):Option Bool:=if r.good then r.is [112,114,111,99]else some false
def Rd.VL (r:Rd):Option Bool:=if r.good then r.xq.bind fun t=>some (t.kind != 0)else some false
def Rd.procs (m:Nat):Nat→List Pc→Rd→Option (List Pc×Rd)
 | 0,_,_=>none
 | n+1,l,r=>r.aga.bind fun b=>
  if b then
   if(l.length:Int)==16 then(r.bad 4).bind fun r=>some (l,r)
   else(Rd.proc m {r with i:=r.i+1}).bind fun x=>(push 113 l x.1).bind fun l=>Rd.procs m n l x.2
  else r.VL.bind fun b=>if b then(r.bad 3).bind fun r=>some (l,r)else some (l,r)
def Rd.program (m:Nat) (r:Rd):Option (Pg×Rd):=(Rd.globals m m [] r).bind fun g=>(Rd.procs m m [] g.2).bind fun q=>some (⟨g.1,q.1⟩,q.2)
mutual
def Ex.beq:Ex→Ex→Bool
 |⟨op,n,name,kids⟩,⟨op',n',SW,abd⟩=>if op != op' ||n != n' || !(name==SW) ||(kids.length:Int) != (abd.length:Int)then false else Ex.rh kids abd
def Ex.rh:List Ex→List Ex→Bool
 | [],_=>true
 |_::_,[]=>true
 |x::l,y::l'=>if !Ex.beq x y then false else Ex.rh l l'
end
def Df (c:UInt8):Bool:=decide ((c.toNat:Int)≥97) && decide ((c.toNat:Int)≤122)
def GY (c:UInt8):Bool:=decide ((c.toNat:Int)≥48) && decide ((c.toNat:Int)≤57)
def isB (c:UInt8):Bool:=(c.toNat:Int)==32 ||(c.toNat:Int)==9 ||(c.toNat:Int)==10 ||(c.toNat:Int)==13
def qo:aF→Nat
 | []=>0
 |c::r=>if Df c ||GY c then qo r+1 else 0
def agb:aF→Nat
 | []=>0
 |c::r=>if GY c then agb r+1 else 0
def SX:aF→Nat
 | []=>0
 |c::r=>if(c.toNat:Int) != 10 then SX r+1 else 0
def isWord (s:aF):Bool:=
 s == [103,108,111,98,97,108] ||s == [112,114,111,99] ||s == [118,97,114] ||s == [114,101,102] ||s == [105,102] ||s == [101,108,115,101] ||s == [119,104,105,108,101] ||s == [98,114,101,97,107] ||s == [99,111,110,116,105,110,117,101] ||s == [114,101,116,117,114,110] ||s == [103,111,116,111] ||s == [114,101,97,100] ||s == [112,114,105,110,116]
def aka (s:aF):Bool:=s == [61,61] ||s == [33,61] ||s == [60,61] ||s == [62,61] ||s == [38,38] ||s == [124,124]
def abe (c:UInt8):Bool:=
 (c.toNat:Int)==40 ||(c.toNat:Int)==41 ||(c.toNat:Int)==123 ||(c.toNat:Int)==125 ||(c.toNat:Int)==44 ||(c.toNat:Int)==59 ||(c.toNat:Int)==58 ||(c.toNat:Int)==61 ||
 (c.toNat:Int)==33 ||(c.toNat:Int)==60 ||(c.toNat:Int)==62 ||(c.toNat:Int)==43 ||(c.toNat:Int)==45 ||(c.toNat:Int)==42 ||(c.toNat:Int)==47 ||(c.toNat:Int)==37
def abf:aF→Nat
 | []=>0
 | [c]=>if abe c then 1 else 0
 |c::d::_=>if aka [c,d]then 2 else if abe c then 1 else 0
def bM:Int→aF→Option Int
 |n,[]=>some n
 |n,c::r=>if n > (9223372036854775807 - ((c.toNat:Int) - 48)) / 10 then none else bM (n*10+((c.toNat:Int) - 48)) r
def an9 (pos:Nat):aF→pU ⊕ Int
 | []=> .inr 2
 | c::r=>
  if Df c then
   let s:=(c::r).take (qo (c::r))
   if s.length > 8 then .inr 4 else .inl ⟨if isWord s then 3 else 1,s,0,pos⟩
  else if GY c then
   let s:=(c::r).take (agb (c::r))
   if s.length > 1∧(c.toNat:Int)=48 then .inr 2 else
   match bM 0 s with
   |some n=> .inl ⟨2,s,n,pos⟩
   |none=> .inr 4
  else
   if abf (c::r)=0 then .inr 2 else .inl ⟨4,(c::r).take (abf (c::r)),0,pos⟩
def MR:Nat→Nat→aF→List pU→List pU×Int×Int
 | 0,_,_,_=>([],0,0)
 |_+1,pos,[],out=>(out++ [⟨0,[],0,pos⟩],0,0)
 | n+1,pos,c::r,out=>
  if isB c then MR n (pos+1) r out
  else if(c.toNat:Int)==35 then MR n (pos+SX (c::r)) ((c::r).drop (SX (c::r))) out
  else match an9 pos (c::r)with
   | .inr e=>([],e,pos)
   | .inl t=>if out.length=2000 then([],4,pos)else MR n (pos+t.text.length) ((c::r).drop t.text.length) (out++ [t])
def Aq (text:aF):List pU×Int×Int:=if text.length > 100000 then([],4,0)else MR (text.length+1) 0 text []
def Ar.a7:List Ar→Nat
 | []=>0
 |a::l=>1+a.x.size+Ar.a7 l
mutual
def Sm.size:Sm→Nat
 |⟨_,_,labels,_,_,x,_,args,aM,aL⟩=>1+labels.length+x.size+Ar.a7 args+Sm.a7 aM+Sm.a7 aL
def Sm.a7:List Sm→Nat
 | []=>0
 |s::l=>1+s.size+Sm.a7 l
end
def Pc.size (f:Pc):Nat:=1+f.params.length+f.vars.length+f.fin.length+Sm.a7 f.body
def Pc.a7:List Pc→Nat
 | []=>0
 |f::l=>1+f.size+Pc.a7 l
def Pg.size (p:Pg):Nat:=1+p.globals.length+Pc.a7 p.procs
mutual
def Sm.num (b:Bool) (n:Nat):Sm→Sm×Nat
 |⟨id,kind,labels,name,proc,x,has,args,aM,aL⟩=>
  (⟨if b then((n+1:Nat):Int)else id,kind,labels,name,proc,x,has,args,(Sm.cW b (n+1) aM).1,(Sm.cW b (Sm.cW b (n+1) aM).2 aL).1⟩,(Sm.cW b (Sm.cW b (n+1) aM).2 aL).2)
def Sm.cW (b:Bool) (n:Nat):List Sm→List Sm×Nat
 | []=>([],n)
 |s::l=>((Sm.num b n s).1::(Sm.cW b (Sm.num b n s).2 l).1,(Sm.cW b (Sm.num b n s).2 l).2)
end
def Pc.cW (n:Nat):List Pc→List Pc
 | []=> []
 |f::l=> {f with body:=(Sm.cW true n f.body).1}::Pc.cW (Sm.cW true n f.body).2 l
def Pg.number (p:Pg):Pg:= {p with procs:=Pc.cW 0 p.procs}
def Pg.As (p:Pg):Option Pg:=if p.size<1073741824 then some p.number else none
mutual
theorem Sm.agc (b:Bool) (n:Nat) : ∀ s:Sm,(Sm.num b n s).2≤n+s.size
 |⟨id,kind,labels,name,proc,x,has,args,aM,aL⟩=>by
  simp only[Sm.num,Sm.size]
  have h1:=Sm.pE b (n+1) aM
  have h2:=Sm.pE b (Sm.cW b (n+1) aM).2 aL
  omega
theorem Sm.pE (b:Bool) (n:Nat) : ∀ l:List Sm,(Sm.cW b n l).2≤n+Sm.a7 l
 | []=>by simp[Sm.cW,Sm.a7]
 |s::l=>by
  simp only[Sm.cW,Sm.a7]
  have h1:=Sm.agc b n s
  have h2:=Sm.pE b (Sm.num b n s).2 l
  omega
end
theorem Sm.dJ : ∀ (l:List Sm),l.length≤Sm.a7 l
 | []=>Nat.le_refl _
 |x::l=>by simp only[Sm.a7,List.length_cons];have:=Sm.dJ l;omega
theorem Ar.dJ : ∀ (l:List Ar),l.length≤Ar.a7 l
 | []=>Nat.le_refl _
 |x::l=>by simp only[Ar.a7,List.length_cons];have:=Ar.dJ l;omega
theorem Pc.dJ : ∀ (l:List Pc),l.length≤Pc.a7 l
 | []=>Nat.le_refl _
 |x::l=>by simp only[Pc.a7,List.length_cons];have:=Pc.dJ l;omega
theorem Ar.da {x:Ar} : ∀ {l:List Ar},x∈l→x.x.size<Ar.a7 l
 |y::l,h=>by
  simp only[Ar.a7]
  rcases List.mem_cons.1 h with rfl|h
  ·omega
  ·have:=Ar.da h;omega
theorem Sm.da {x:Sm} : ∀ {l:List Sm},x∈l→x.size<Sm.a7 l
 |y::l,h=>by
  simp only[Sm.a7]
  rcases List.mem_cons.1 h with rfl|h
  ·omega
  ·have:=Sm.da h;omega
theorem Pc.da {x:Pc} : ∀ {l:List Pc},x∈l→x.size<Pc.a7 l
 |y::l,h=>by
  simp only[Pc.a7]
  rcases List.mem_cons.1 h with rfl|h
  ·omega
  ·have:=Pc.da h;omega
theorem Sm.MS (b:Bool) (n:Nat) : ∀ l:List Sm,(Sm.cW b n l).1.length=l.length
 | []=>rfl
 |s::l=>by simp only[Sm.cW,List.length_cons,Sm.MS b _ l]
def Eg:aF→Bool
 | []=>true
 |c::r=>if !(Df c) && !(GY c)then false else Eg r
def isName:aF→Bool
 | []=>false
 |c::r=>if decide (((r.length+1:Nat):Int) > 8) || !(Df c)then false else if Eg r then !(isWord (c::r))else false
def po (op:Int):Int:=if op==1 ||op==2 then 0 else if op==3 ||op==4 then 1 else if decide (op≥5) && decide (op≤17)then 2 else -1
mutual
def Ex.form:Ex→Bool
 |⟨op,n,name,kids⟩=>
  if po op != (kids.length:Int) ||(op != 1 && n != 0) ||decide (n<0) || !((op==2) == !(name == [])) ||(!(name == []) && !(isName name))then false else Ex.uY kids
def Ex.uY:List Ex→Bool
 | []=>true
 |x::l=>if !(Ex.form x)then false else Ex.uY l
end
mutual
def Ex.texts:Ex→Prop
 |⟨_,_,name,kids⟩=>name.length<4611686018427387904∧Ex.xr kids
def Ex.xr:List Ex→Prop
 | []=>True
 |x::l=>x.texts∧Ex.xr l
end
theorem Ex.GZ {x:Ex} : ∀ {l:List Ex},Ex.xr l→x∈l→x.texts
 |y::l,h,m=>by
  rcases List.mem_cons.1 m with rfl|m
  ·exact h.1
  ·exact Ex.GZ h.2 m
theorem Ex.VM {op n:Int} {name:aF} {kids:List Ex} (h:Ex.texts ⟨op,n,name,kids⟩) {y:Ex} (m:y∈kids):y.texts:=Ex.GZ h.2 m
def Ex.may (x:Ex):Bool:=decide (((min x.depth 21:Nat):Int)≤20) && x.form
def Ex.none (x:Ex):Bool:=x.op==0 && x.n==0 && x.name == [] && (x.kids.length:Int)==0
def dS:List aF→Bool
 | []=>true
 |s::l=>if !(isName s)then false else dS l
def Ar.may (a:Ar):Bool:=if a.ref then isName a.name && a.x.none else a.name == [] && a.x.may
def Ar.fD:List Ar→Bool
 | []=>true
 |a::l=>if !(a.may)then false else Ar.fD l
def Sm.MT (s:Sm):Bool:=s.kind==1 ||s.kind==3 ||s.kind==5 ||s.kind==6 ||(s.kind==9 && s.has)
def Sm.hasName (s:Sm):Bool:=s.kind==1 ||s.kind==2 ||s.kind==10
def Sm.xu (s:Sm):Bool:=s.kind==4
def Sm.one (s:Sm):Bool:=
 if decide (s.kind<1) ||decide (s.kind > 10) || !(dS s.labels) ||(s.MT && !(s.x.may)) ||(!(s.MT) && !(s.x.none)) ||(s.has && s.kind != 9)then false
 else if(s.hasName && !(isName s.name)) ||(!(s.hasName) && !(s.name == []) && !(s.xu && isName s.name))then false
 else if !(s.xu == !(s.proc == [])) ||(s.xu && !(isName s.proc)) ||(!(s.xu) && decide ((s.args.length:Int) > 0))then false
 else if !(Ar.fD s.args)then false
 else((s.aM.length:Int)==0 ||s.kind==5 ||s.kind==6) && ((s.aL.length:Int)==0 ||s.kind==5)
structure It where
 s:Sm
 deep:Int
 cG:Int
 aL:Bool
mutual
def iF (deep cG:Int) (aL:Bool) (out:List It):Sm→List It
 |⟨id,kind,labels,name,proc,x,has,args,aM,e⟩=>
  if decide (deep≤12)then fw (deep+1) id true (fw (deep+1) id false (out++ [⟨⟨id,kind,labels,name,proc,x,has,args,aM,e⟩,deep,cG,aL⟩]) aM) e
  else out++ [⟨⟨id,kind,labels,name,proc,x,has,args,aM,e⟩,deep,cG,aL⟩]
def fw (deep cG:Int) (aL:Bool) (out:List It):List Sm→List It
 | []=>out
 |s::l=>if decide ((out.length:Int)≤200)then fw deep cG aL (iF deep cG aL out s) l else out
end
def Pc.flat (f:Pc):List It:=fw 1 0 false [] f.body
def allM (out:List It):List Pc→List It
 | []=>out
 |f::l=>if decide (((out++f.flat).length:Int) > 200)then out++f.flat else allM (out++f.flat) l
def Pg.all (p:Pg):List It:=allM [] p.procs
def Pm.fD:List Pm→Bool
 | []=>true
 |a::l=>if !(isName a.name)then false else Pm.fD l
def Pc.mQ:List Pc→Bool
 | []=>true
 |f::l=>
  if !(isName f.name) ||decide ((f.params.length:Int) > 8) ||decide ((f.vars.length:Int) > 16) || !(dS f.vars) || !(dS f.fin)then false
  else if !(Pm.fD f.params)then false else Pc.mQ l
def It.fD (n:Nat):List It→Bool
 | []=>true
 |i::l=>if i.s.id != ((n+1:Nat):Int) ||decide (i.deep > 12) || !(i.s.one)then false else It.fD (n+1) l
def Pg.may (p:Pg):Bool:=
 if decide ((p.globals.length:Int) > 16) ||decide ((p.procs.length:Int) > 16) || !(dS p.globals)then false
 else if !(Pc.mQ p.procs)then false
 else if decide ((p.all.length:Int) > 200)then false else It.fD 0 p.all
def Cc (a b t:aF):aF:=if t==a then b else if t==b then a else t
mutual
def Ex.swap (a b:aF):Ex→Ex
 |⟨op,n,name,kids⟩=>⟨op,n,Cc a b name,Ex.Br a b kids⟩
def Ex.Br (a b:aF):List Ex→List Ex
 | []=> []
 |x::l=>x.swap a b::Ex.Br a b l
end
def Ar.swap (a b:aF) (x:Ar):Ar:=⟨x.ref,Cc a b x.name,x.x.swap a b⟩
mutual
def Sm.swap (a b:aF):Sm→Sm
 |⟨id,kind,labels,name,proc,x,has,args,aM,aL⟩=>⟨id,kind,labels.map (Cc a b),Cc a b name,Cc a b proc,x.swap a b,has,args.map (Ar.swap a b),Sm.Br a b aM,Sm.Br a b aL⟩
def Sm.Br (a b:aF):List Sm→List Sm
 | []=> []
 |s::l=>s.swap a b::Sm.Br a b l
end
def Pm.swap (a b:aF) (x:Pm):Pm:=⟨Cc a b x.name,x.ref⟩
def Pc.swap (a b:aF) (f:Pc):Pc:=⟨Cc a b f.name,f.params.map (Pm.swap a b),f.vars.map (Cc a b),Sm.Br a b f.body,f.fin.map (Cc a b)⟩
def Pg.swap (a b:aF) (p:Pg):Pg:=⟨p.globals.map (Cc a b),p.procs.map (Pc.swap a b)⟩
def ada:Nat:=3
def yw:Nat:=4
def abg:Nat:=5
def VN:Nat:=6
def abh:Nat:=7
def zm:Nat:=8
def zn:Nat:=9
def aeI:Nat:=10
def rE:Nat:=11
def aeJ:Nat:=12
def aja:Nat:=13
def akb:Nat:=14
def amG:Nat:=15
def mC:Nat:=16
def rQ:Nat:=17
def rF:Nat:=18
def zo:Nat:=19
def s8:Nat:=20
def qp:Nat:=21
def sy:Nat:=22
def uu:Nat:=23
def agd:Nat:=24
def akc:Nat:=25
def zp:Nat:=26
def zr:Nat:=27
def kx:Nat:=28
def iA:Nat:=29
def lN:Nat:=30
def s9:Nat:=31
def age:Nat:=32
def PQ:Nat:=33
def SY:Nat:=34
def akd:Nat:=35
def adb:Nat:=36
def IB:Nat:=37
def vR:Nat:=38
def ta:Nat:=39
def zt:Nat:=40
def vS:Nat:=41
def qL:Nat:=42
def rR:Nat:=43
def fH:Nat:=44
def uZ:Nat:=45
def oi:Nat:=46
def l8:Nat:=47
def lV:Nat:=48
def jU:Nat:=49
def jl:Nat:=50
def qq:Nat:=51
def pJ:Nat:=52
def sh:Nat:=53
def pK:Nat:=54
def aeK:Nat:=55
def tc:Nat:=56
def l9:Nat:=57
def wO:Nat:=58
def kQ:Nat:=59
def oj:Nat:=60
def o6:Nat:=61
def ake:Nat:=62
def agf:Nat:=63
def ajb:Nat:=64
def aeL:Nat:=65
def Uf:Nat:=66
def PR:Nat:=67
def agh:Nat:=68
def aeM:Nat:=69
def SZ:Nat:=70
def S1:Nat:=71
def PS:Nat:=72
def VO:Nat:=73
def MU:Nat:=74
def na:Nat:=75
def rS:Nat:=76
def xv:Nat:=77
def vT:Nat:=78
def kg:Nat:=79
def om:Nat:=80
def o7:Nat:=81
def ln:Nat:=82
def mL:Nat:=83
def lG:Nat:=84
def rG:Nat:=85
def gU:Nat:=86
def Bs:Nat:=87
def td:Nat:=88
def Bt:Nat:=89
def kR:Nat:=90
def qs:Nat:=91
def ij:Nat:=92
def mR:Nat:=93
def jw:Nat:=94
def kK:Nat:=95
def fc:Nat:=96
def pW:Nat:=97
def rH:Nat:=98
def lO:Nat:=99
def amH:Nat:=100
def Pb:Nat:=101
def oo:Nat:=102
def agi:Nat:=103
def agj:Nat:=104
def agk:Nat:=105
def abi:Nat:=106
def Pe:Nat:=107
def Ug:Nat:=108
def ade:Nat:=109
def agl:Nat:=110
def agm:Nat:=111
def akf:Nat:=112
def akg:Nat:=113
def S2:Nat:=114
def aeN:Nat:=115
def pw:Nat:=116
def gV:Nat:=117
def pX:Nat:=118
def cQ:Nat:=119
def iQ:Nat:=120
def rT:Nat:=121
def xw:Nat:=122
def tf:Nat:=123
def rI:Nat:=124
def xx:Nat:=125
def ti:Nat:=126
def uv:Nat:=127
def qt:Nat:=128
def yx:Nat:=129
def wP:Nat:=130
def vU:Nat:=131
def nN:Nat:=132
def zu:Nat:=133
def kh:Nat:=134
def vV:Nat:=135
def uw:Nat:=136
def nO:Nat:=137
def oq:Nat:=138
def rJ:Nat:=139
def S3:Nat:=140
def MV:Nat:=141
def Uh:Nat:=142
def S4:Nat:=143
def Ui:Nat:=144
def Xw:Nat:=145
def VP:Nat:=146
def Uj:Nat:=147
def Uk:Nat:=148
def ki:Nat:=149
def akh:Nat:=150
def agn:Nat:=151
def ago:Nat:=152
def agp:Nat:=153
def aeO:Nat:=154
def ajc:Nat:=155
def ajd:Nat:=156
def amI:Nat:=157
def abj:Nat:=158
def aeP:Nat:=159
def aeQ:Nat:=160
def agq:Nat:=161
def aje:Nat:=162
def aeR:Nat:=163
def agr:Nat:=164
def aki:Nat:=165
def akj:Nat:=166
def abk:Nat:=167
def adf:Nat:=168
def ags:Nat:=169
def lW:Nat:=170
def tj:Nat:=171
def xy:Nat:=172
def xA:Nat:=173
def vW:Nat:=174
def zv:Nat:=175
def kj:Nat:=176
def kE:Nat:=177
def qu:Nat:=178
def tn:Nat:=179
def vX:Nat:=180
def qv:Nat:=181
def Ul:Nat:=182
def Um:Nat:=183
def Cp:Nat:=184
def agt:Nat:=185
def ajf:Nat:=186
def akk:Nat:=187
def agu:Nat:=188
def adg:Nat:=189
def akl:Nat:=190
def ajg:Nat:=191
def akm:Nat:=192
def ajh:Nat:=193
def aji:Nat:=194
def tq:Nat:=195
def iR:Nat:=196
def pY:Nat:=197
def vY:Nat:=198
def G0:Nat:=199
def abl:Nat:=200
def zw:Nat:=201
def PT:Nat:=202
def Cq:Nat:=203
def agv:Nat:=204
def agw:Nat:=205
def ajj:Nat:=206
def adh:Nat:=207
def ajk:Nat:=208
def akn:Nat:=209
def Pf:Nat:=210
def aeS:Nat:=211
def aeT:Nat:=212
def jE:Nat:=213
def Dg:Nat:=214
def Gm:Nat:=215
def Dh:Nat:=216
def EI:Nat:=217
def Eh:Nat:=218
def zY:Nat:=219
def Xx:Nat:=220
def CA:Nat:=221
def FH:Nat:=222
def Xy:Nat:=223
def Xz:Nat:=224
def PU:Nat:=225
def S5:Nat:=226
def Au:Nat:=227
def Un:Nat:=228
def Bu:Nat:=229
def S6:Nat:=230
def agx:Nat:=231
def ajl:Nat:=232
def ajm:Nat:=233
def aeU:Nat:=234
def agy:Nat:=235
def Gn:Nat:=236
def OA:Nat:=237
def Ph:Nat:=238
def CC:Nat:=239
def Ic:Nat:=240
def VQ:Nat:=241
def Uo:Nat:=242
def S7:Nat:=243
def Ie:Nat:=244
def Di:Nat:=245
def aeV:Nat:=246
def Dj:Nat:=247
def ako:Nat:=248
def Jz:Nat:=249
def EJ:Nat:=250
def JA:Nat:=251
def EK:Nat:=252
def Ku:Nat:=253
def Fc:Nat:=254
def EL:Nat:=255
def A6:Nat:=256
def EM:Nat:=257
def A7:Nat:=258
def Ig:Nat:=259
def Dk:Nat:=260
def K7:Nat:=261
def wZ:Nat:=262
def ux:Nat:=263
def XA:Nat:=264
def Kv:Nat:=265
abbrev AI.o (t:Nat) (a:AO):AI:= .op (some t) none a
abbrev AI.g (t c:Nat) (b:Bool) (a:AO):AI:= .op (some t) (some (c,b)) a
abbrev AI.c (t f:Nat) (l:List X):AI:= .call (some t) none f l
abbrev AI.d (t c:Nat) (b:Bool) (f:Nat) (l:List X):AI:= .call (some t) (some (c,b)) f l
abbrev AI.m (t:Nat) (x:X):AI:= .op (some t) none (.mv x)
abbrev bC:X:= .s 0
abbrev bt:X:= .s 1
abbrev dw:X:= .s 2
abbrev cv:X:= .s 3
abbrev fk:X:= .s 4
abbrev bP:X:= .s 5
abbrev dc:X:= .s 6
abbrev db:X:= .s 7
abbrev cR:X:= .s 8
abbrev dr:X:= .s 9
abbrev bS:X:= .s 10
abbrev cO:X:= .s 11
abbrev cY:X:= .s 12
abbrev c6:X:= .s 13
abbrev cZ:X:= .s 14
abbrev dA:X:= .s 15
abbrev df:X:= .s 16
abbrev dK:X:= .s 17
abbrev dF:X:= .s 18
abbrev dX:X:= .s 19
abbrev ep:X:= .s 20
abbrev dZ:X:= .s 21
abbrev ei:X:= .s 22
abbrev ej:X:= .s 23
abbrev eB:X:= .s 24
abbrev eJ:X:= .s 25
abbrev fb:X:= .s 26
abbrev fu:X:= .s 27
abbrev fJ:X:= .s 28
abbrev fZ:X:= .s 29
abbrev fW:X:= .s 30
abbrev gd:X:= .s 31
abbrev gH:X:= .s 32
abbrev gv:X:= .s 33
abbrev ib:X:= .s 34
abbrev gI:X:= .s 35
abbrev gP:X:= .s 36
abbrev iC:X:= .s 37
abbrev iJ:X:= .s 38
abbrev iT:X:= .s 39
abbrev jm:X:= .s 40
abbrev iY:X:= .s 41
abbrev jO:X:= .s 42
abbrev jA:X:= .s 43
abbrev jP:X:= .s 44
abbrev kB:X:= .s 45
abbrev kS:X:= .s 46
abbrev lq:X:= .s 47
abbrev lr:X:= .s 48
abbrev lu:X:= .s 49
abbrev lH:X:= .s 50
abbrev kT:X:= .s 51
abbrev kU:X:= .s 52
abbrev kV:X:= .s 53
abbrev lI:X:= .s 54
abbrev lx:X:= .s 55
abbrev mW:X:= .s 56
abbrev o8:X:= .s 57
abbrev ou:X:= .s 58
abbrev mM:X:= .s 59
abbrev pL:X:= .s 60
abbrev ri:X:= .s 61
abbrev pM:X:= .s 62
abbrev rj:X:= .s 63
abbrev rk:X:= .s 64
abbrev tr:X:= .s 65
abbrev uy:X:= .s 66
abbrev uz:X:= .s 67
abbrev tt:X:= .s 68
abbrev vZ:X:= .s 69
abbrev v7:X:= .s 70
abbrev zz:X:= .s 71
abbrev xB:X:= .s 72
abbrev xC:X:= .s 73
abbrev zA:X:= .s 74
abbrev zB:X:= .s 75
abbrev xD:X:= .s 76
abbrev zC:X:= .s 77
abbrev xE:X:= .s 78
abbrev Dl:X:= .s 79
abbrev Dm:X:= .s 80
abbrev Dn:X:= .s 81
abbrev FI:X:= .s 82
abbrev FJ:X:= .s 83
abbrev FK:X:= .s 84
abbrev FL:X:= .s 85
abbrev FM:X:= .s 86
abbrev FN:X:= .s 87
abbrev FP:X:= .s 88
abbrev Bv:X:= .s 89
abbrev Dp:X:= .s 90
abbrev FQ:X:= .s 91
abbrev IC:X:= .s 92
abbrev MW:X:= .s 93
abbrev MX:X:= .s 94
abbrev FR:X:= .s 95
abbrev S8:X:= .s 96
abbrev S9:X:= .s 97
abbrev Ta:X:= .s 98
abbrev Tb:X:= .s 99
abbrev K8:X:= .s 100
abbrev K9:X:= .s 101
abbrev La:X:= .s 102
abbrev Lb:X:= .s 103
abbrev Lc:X:= .s 104
abbrev Ld:X:= .s 105
abbrev Lf:X:= .s 106
abbrev Lg:X:= .s 107
abbrev Lh:X:= .s 108
abbrev Tc:X:= .s 109
abbrev Li:X:= .s 110
abbrev Lj:X:= .s 111
abbrev G1:X:= .s 112
abbrev Ll:X:= .s 113
abbrev Lm:X:= .s 114
abbrev Lo:X:= .s 115
abbrev G2:X:= .s 116
abbrev Lp:X:= .s 117
abbrev Lq:X:= .s 118
abbrev Lr:X:= .s 119
abbrev Ls:X:= .s 120
abbrev Lt:X:= .s 121
abbrev Lu:X:= .s 122
abbrev Lv:X:= .s 123
abbrev Lw:X:= .s 124
abbrev Lx:X:= .s 125
abbrev Td:X:= .s 126
abbrev Ly:X:= .s 127
abbrev Bw:X:= .s 128
abbrev Lz:X:= .s 129
abbrev LA:X:= .s 130
abbrev Te:X:= .s 131
abbrev LB:X:= .s 132
abbrev Tf:X:= .s 133
abbrev Tg:X:= .s 134
abbrev Ti:X:= .s 135
abbrev abm:X:= .s 136
abbrev abn:X:= .s 137
abbrev abo:X:= .s 138
abbrev abp:X:= .s 139
abbrev abq:X:= .s 140
abbrev abr:X:= .s 141
abbrev abt:X:= .s 142
abbrev abu:X:= .s 143
abbrev abv:X:= .s 144
abbrev abw:X:= .s 145
abbrev abx:X:= .s 146
abbrev aby:X:= .s 147
abbrev abz:X:= .s 148
abbrev abA:X:= .s 149
abbrev abB:X:= .s 150
abbrev abC:X:= .s 151
abbrev akp:X:= .s 152
abbrev akq:X:= .s 153
abbrev akr:X:= .s 154
abbrev aks:X:= .s 155
abbrev akt:X:= .s 156
abbrev aku:X:= .s 157
abbrev akv:X:= .s 158
abbrev akw:X:= .s 159
abbrev akx:X:= .s 160
abbrev aky:X:= .s 161
abbrev akz:X:= .s 162
abbrev akA:X:= .s 163
abbrev akB:X:= .s 164
abbrev akC:X:= .s 165
abbrev akD:X:= .s 166
abbrev akE:X:= .s 167
abbrev akF:X:= .s 168
abbrev akG:X:= .s 169
abbrev akH:X:= .s 170
abbrev akI:X:= .s 171
abbrev akJ:X:= .s 172
abbrev akK:X:= .s 173
abbrev akL:X:= .s 174
abbrev akM:X:= .s 175
abbrev Q04:AC:= .cond dX (.seq (.run [.o 4 (.mv (.k (.bool false)))]) .ret) .skip
abbrev Q09:AC:= .cond ei (.seq (.run [.o 4 (.mv (.k (.bool true)))]) .ret) .skip
abbrev Q0E:AC:= .cond fW (.seq (.run [.o 4 (.mv (.k (.bool true)))]) .ret) .skip
abbrev Q0W:AC:= .cond v7 (.seq (.run [.o 71 (.aq bS 0), .op none none (.store zz (.k (.int .i64 3)) 1)]) (.exit 0)) .skip
abbrev Q11:AC:= .seq (.seq (.run [.o 66 (.aq bS 2), .o 67 (.load uy false 1), .m 68 bt, .o 69 (.len tt), .o 70 (.bin .eql uz vZ)]) Q0W) (.seq (.run [.m 72 bt, .o 73 (.aq bS 2), .o 74 (.load xC false 1), .o 75 (.cb xB zA 1), .o 76 (.load zB false 1), .m 13 xD]) (.run [.o 77 (.aq bS 2), .o 78 (.load zC false 1), .o 79 (.bin .add xE (.k (.int .i64 1))), .o 80 (.aq bS 2), .op none none (.store Dm Dl 1)]))
abbrev Q13:AC:= .cond tr (.seq (.run [.o 13 (.mv (.k (.int .i64 0))), .o 14 (.mv (.k (.bool true)))]) Q11) .skip
abbrev Q18:AC:= .cond FI (.seq (.run [.o 83 (.aq bS 0), .op none none (.store FJ (.k (.int .i64 4)) 1)]) (.exit 0)) .skip
abbrev Q1I:AC:= .par [.o 98 (.aq cY 1), .o 99 (.load Ta false 1), .o 100 (.bin .neq Tb (.k (.int .i64 3))), .m 101 K8, .g 102 101 true (.mv cR), .g 103 101 true (.mv dA), .g 104 101 true (.cb La Lb 1), .g 105 101 true (.load Lc false 1), .g 106 101 true (.aq cY 3), .g 107 101 true (.load Lf false 1), .g 108 101 true (.bin .eql Ld Lg), .o 109 (.pick K9 Lh (.k (.bool false)))] [(0,0),(1,0),(2,0),(3,0),(4,0),(5,0),(6,0),(7,0),(8,0),(9,0),(10,0),(11,0)]
abbrev Q1N:AC:= .block 3 (.seq (.run [.m 97 FR, .m 15 S9]) (.seq Q1I (.cond Tc (.run [.m 110 dr, .m 111 dA, .m 112 c6, .o 113 (.cb Li Lj 1), .op none none (.store Ll G1 1)]) .skip)))
abbrev Q1Q:AC:= .seq (.cond S8 .skip (.exit 2)) (.seq Q1N (.run [.o 114 (.bin .add FR (.k (.int .i64 1))), .m 95 Lm]))
abbrev Q1U:AC:= .seq (.run [.m 93 cR, .o 94 (.len MW), .o 95 (.mv (.k (.int .i64 0)))]) (.block 2 (.loop (.seq (.run [.o 96 (.bin .lss FR MX)]) Q1Q)))
abbrev Q1V:AC:= .seq (.seq (.run [.o 84 (.aq cY 1), .o 85 (.load FK false 1), .o 86 (.bin .eql FL (.k (.int .i64 3)))]) (.cond FM (.run [.o 87 (.aq bS 3), .o 88 (.load FN false 1), .m 89 c6, .o 90 (.dg [(.int .i64 0)] 1 1 [(0,Bv)]), .o 91 (.app 1 8 FP Dp), .o 92 (.aq bS 3), .op none none (.store IC FQ 1)]) .skip)) Q1U
abbrev Q1X:AC:= .seq (.seq (.run [.o 63 (.aq cY 1), .o 64 (.load rj false 1), .o 65 (.bin .eql rk (.k (.int .i64 2)))]) Q13) (.seq (.seq (.run [.m 81 cZ, .o 82 (.un .not Dn)]) Q18) Q1V)
abbrev Q20:AC:= .seq (.run [.o 49 (.cb kB lq 13), .o 50 (.load lu true 13), .o 12 (.alloc [(.int .i64 0),(.int .i64 0),(.slice .full 0 []),(.str []),(.str []),(.int .i64 0),(.int .i64 0),(.str []),(.slice .full 0 []),(.bool false),(.slice .full 0 []),(.slice .full 0 []),(.slice .full 0 [])]), .op none none (.store cY lH 13)]) (.seq (.run [.o 51 (.aq bS 1), .o 52 (.load kT false 1), .o 53 (.bin .add kU (.k (.int .i64 1))), .o 54 (.aq bS 1), .op none none (.store lI kV 1)]) (.seq (.run [.o 56 (.aq cY 5), .o 57 (.load mW true 4), .m 58 cR, .m 59 dr, .c 60 sy [o8,ou,mM], .m 55 pL, .o 61 (.ext lx 0), .o 62 (.ext lx 1), .m 13 ri, .m 14 pM]) Q1X))
abbrev Q24:AC:= .seq (.cond lr .skip (.exit 0)) (.seq (.block 1 Q20) (.run [.o 115 (.bin .add lq (.k (.int .i64 1))), .m 47 Lo]))
abbrev Q28:AC:= .seq (.run [.o 44 (.aq dc 3), .o 45 (.load jP false 1), .o 46 (.len kB), .o 47 (.mv (.k (.int .i64 0)))]) (.block 0 (.loop (.seq (.run [.o 48 (.bin .lss lq kS)]) Q24)))
abbrev Q2C:AC:= .seq (.run [.o 117 (.load bP true 2), .m 118 bt,(.c 119 uu [Lp,Lq,(.k (.int .i64 300)),(.k (.slice .full 0 []))]), .m 116 Lr, .o 120 (.ext G2 0), .o 121 (.ext G2 1), .o 16 (.alloc [(.int .i64 0),(.int .i64 0),(.int .i64 0),(.slice .full 0 []),(.slice .full 0 [])]), .op none none (.store df Ls 5), .m 17 Lt]) (.seq (.run [.m 122 db, .m 123 Lu, .g 124 123 true (.load bP true 2), .d 125 123 true rF [Lw], .o 126 (.pick Lv Lx (.k (.bool false))), .m 127 Td, .g 128 127 true (.mv dK), .g 129 127 true (.bin .eql Bw (.k (.int .i64 0))), .o 130 (.pick Ly Lz (.k (.bool false))), .m 131 LA, .g 132 131 true (.load df true 5), .g 133 131 true (.load bS true 5), .d 134 131 true rQ [LB,Tf], .o 135 (.pick Te Tg (.k (.bool false))), .m 4 Ti]) .ret)
abbrev Q2E:AC:= .seq (.run [(.o 43 (.build [(.int .i64 0),(.int .i64 0),(.int .i64 0),(.slice .full 0 []),(.slice .full 0 [])] [(0,(1,(.k (.int .i64 1))))])), .o 10 (.alloc [(.int .i64 0),(.int .i64 0),(.int .i64 0),(.slice .full 0 []),(.slice .full 0 [])]), .op none none (.store bS jA 5)]) (.seq Q28 Q2C)
abbrev Q2H:AC:= .seq (.run [.o 34 (.load bP true 2),(.c 35 s8 [ib,(.k (.str [109,97,105,110]))]), .m 33 gI, .o 36 (.ext gv 0), .o 37 (.ext gv 1), .o 6 (.alloc [(.str []),(.slice .full 0 []),(.slice .full 0 []),(.slice .full 0 []),(.slice .full 0 [])]), .op none none (.store dc gP 5), .m 7 iC]) (.seq (.run [.o 38 (.load bP true 2),(.c 39 qp [iJ,(.k (.str [109,97,105,110]))]), .m 8 iT]) (.seq (.run [.m 40 cR, .o 41 (.len jm), .o 42 (.A9 1 8 [(.int .i64 0)] iY iY), .m 9 jO]) Q2E))
abbrev Q2J:AC:= .seq (.seq (.run [.o 23 (.load dw true 2), .c 24 rF [ej], .o 25 (.un .not eB), .m 26 eJ, .g 27 26 false (.mv bt), .g 28 26 false (.len fu), .g 29 26 false (.bin .gtr fJ (.k (.int .i64 100))), .o 30 (.pick fb (.k (.bool true)) fZ)]) Q0E) (.seq (.run [.o 31 (.load dw true 2), .c 32 zo [gd], .o 5 (.alloc [(.slice .full 0 []),(.slice .full 0 [])]), .op none none (.store bP gH 2)]) Q2H)
abbrev Q2M:AC:= .seq (.run [.o 2 (.box bC), .o 4 (.mv (.k (.bool false)))]) (.seq (.seq (.run [.c 18 zm [], .o 19 (.un .not dF)]) Q04) (.seq (.seq (.run [.o 20 (.load dw true 2), .c 21 zn [ep], .o 22 (.un .not dZ)]) Q09) Q2J))
abbrev Q2P:AC:= .run [.m 9 dw, .o 10 (.bin .eql dr (.k (.int .i64 0))), .m 11 bS, .g 12 11 true (.aq bt 0), .g 13 11 true (.load cY false 1), .g 14 11 true (.bin .eql c6 (.k (.int .i64 1))), .o 15 (.pick cO cZ (.k (.bool false))), .m 16 dA, .g 17 16 true (.aq bt 1), .g 18 16 true (.load dK false 1), .g 19 16 true (.bin .eql dF (.k (.int .i64 7))), .o 20 (.pick df dX (.k (.bool false))), .m 21 ep, .g 22 21 true (.aq bt 3), .g 23 21 true (.load ei false 1),(.g 24 21 true (.dg [(.int .i64 0)] 1 2 [(0,(.k (.int .i64 5))),(1,(.k (.int .i64 5)))])), .d 25 21 true mC [ej,eB], .o 26 (.pick dZ eJ (.k (.bool false))), .m 27 fb, .g 28 27 true (.aq bt 4), .g 29 27 true (.load fJ false 1), .g 30 27 true (.len fZ), .g 31 27 true (.bin .eql fW (.k (.int .i64 2))), .o 32 (.pick fu gd (.k (.bool false))), .m 33 gH, .g 34 33 true (.aq bt 4), .g 35 33 true (.load ib false 1), .g 36 33 true (.cb gI (.k (.int .i64 0)) 2), .g 37 33 true (.aq gP 0), .g 38 33 true (.load iC false 1), .g 39 33 true (.bin .eql iJ (.k (.int .i64 2))), .o 40 (.pick gv iT (.k (.bool false))), .m 41 jm, .g 42 41 true (.aq bt 4), .g 43 41 true (.load jO false 1), .g 44 41 true (.cb jA (.k (.int .i64 1)) 2), .g 45 41 true (.aq jP 1), .g 46 41 true (.load kB false 1),(.g 47 41 true (.dg [(.int .i64 0)] 1 1 [(0,(.k (.int .i64 5)))])), .d 48 41 true mC [kS,lq], .o 49 (.pick iY lr (.k (.bool false))), .m 50 lu, .g 51 50 true (.load bt true 5), .d 52 50 true zr [kT], .g 53 50 true (.sI .real kU kU),(.g 54 50 true (.sI .eq kV (.k (.val (.float .f64 4619567317775286272))))), .o 55 (.pick lH lI (.k (.bool false))), .m 0 lx]
abbrev Q2R:AC:= .seq (.run [.c 4 zp [],(.o 5 (.dg [(.int .i64 0)] 1 2 [(0,(.k (.int .i64 5))),(1,(.k (.int .i64 2)))])),(.c 6 uu [fk,(.k (.slice .full 0 [])),(.k (.int .i64 50)),bP]), .m 3 dc, .o 7 (.ext cv 0), .o 8 (.ext cv 1), .o 1 (.alloc [(.int .i64 0),(.int .i64 0),(.int .i64 0),(.slice .full 0 []),(.slice .full 0 [])]), .op none none (.store bt db 5), .m 2 cR]) (.seq Q2P .ret)
abbrev Q2S:AC:= .seq (.run [.o 0 (.mv (.k (.bool false)))]) Q2R
abbrev Q30:AC:= .par [.o 26 (.aq bP 4), .o 27 (.load fb false 1), .o 28 (.aq bP 2), .o 29 (.load fJ false 1), .o 30 (.aq bP 0), .o 31 (.load fW false 1), .m 32 cv, .c 33 iA [gd,gH], .c 34 kx [fZ,gv], .c 35 kx [fu,ib], .m 3 gI] [(4,0),(5,0),(6,0),(7,0),(2,0),(3,1),(8,0),(0,0),(1,2),(9,0),(10,0)]
abbrev Q39:AC:= .seq (.seq (.run [.m 36 dc, .o 37 (.aq bP 1), .o 38 (.load iC false 1), .o 39 (.len iJ), .o 40 (.bin .lss gP iT), .m 41 jm, .g 42 41 true (.mv cv), .g 43 41 true (.bin .leq jO (.k (.int .i64 20000))), .o 44 (.pick iY jA (.k (.bool false)))]) (.cond jP .skip (.exit 2))) (.seq (.block 3 (.run [.o 47 (.aq bP 1), .o 48 (.load lq false 1), .m 49 dc, .o 50 (.cb lr lu 2), .o 51 (.aq lH 0), .o 52 (.load kT false 1), .m 53 cv, .c 54 iA [kU,kV], .m 3 lI])) (.run [.m 45 dc, .o 46 (.bin .add kB (.k (.int .i64 1))), .m 6 kS]))
abbrev Q3E:AC:= .seq (.seq (.run [.o 6 (.mv (.k (.int .i64 0)))]) (.block 2 (.loop Q39))) (.run [.o 55 (.aq bP 3), .o 56 (.load lx false 1), .m 57 cv, .c 58 lN [mW,o8], .m 3 ou])
abbrev Q3J:AC:= .seq (.block 1 (.seq (.run [.o 21 (.aq bt 1), .o 22 (.load dZ false 1), .m 23 fk, .o 24 (.cb ei ej 5), .o 25 (.load eB true 5), .o 5 (.alloc [(.str []),(.slice .full 0 []),(.slice .full 0 []),(.slice .full 0 []),(.slice .full 0 [])]), .op none none (.store bP eJ 5)]) (.seq Q30 Q3E))) (.run [.m 19 fk, .o 20 (.bin .add dX (.k (.int .i64 1))), .m 4 ep])
abbrev Q3K:AC:= .seq (.seq (.run [.m 10 fk, .o 11 (.aq bt 1), .o 12 (.load cO false 1), .o 13 (.len cY), .o 14 (.bin .lss bS c6), .m 15 cZ, .g 16 15 true (.mv cv), .g 17 15 true (.bin .leq df (.k (.int .i64 20000))), .o 18 (.pick dA dK (.k (.bool false)))]) (.cond dF .skip (.exit 0))) Q3J
abbrev Q3Q:AC:= .seq (.seq (.run [.o 4 (.mv (.k (.int .i64 0)))]) (.block 0 (.loop Q3K))) (.seq (.run [.m 59 cv, .o 60 (.bin .leq mM (.k (.int .i64 20000))), .m 2 pL]) .ret)
abbrev Q3S:AC:= .seq (.run [.o 1 (.box bC), .o 2 (.mv (.k (.bool false)))]) (.seq (.run [.o 7 (.aq bt 0), .o 8 (.load db false 1), .c 9 kx [cR,(.k (.int .i64 0))], .m 3 dr]) Q3Q)
abbrev Q3V:AC:= .seq (.run [.o 3 (.load bt true 2),(.o 4 (.build [(.int .i64 0),(.int .i64 0),(.slice .full 0 []),(.str []),(.str []),(.int .i64 0),(.int .i64 0),(.str []),(.slice .full 0 []),(.bool false),(.slice .full 0 []),(.slice .full 0 []),(.slice .full 0 [])] [(0,(1,(.k (.int .i64 (-1)))))])), .c 5 s9 [cv,fk], .op none none (.store dw bP 2)]) .ret
abbrev Q3W:AC:= .seq (.run [.o 1 (.box bC), .o 2 (.alloc [(.slice .full 0 []),(.slice .full 0 [])])]) Q3V
abbrev Q41:AC:= .cond bS (.seq (.run [.o 4 (.mv (.k (.bool false)))]) .ret) .skip
abbrev Q47:AC:= .par [.m 16 bC, .m 17 bP, .o 18 (.cb df dK 1), .o 19 (.load dF false 1), .m 20 bt, .m 21 bP, .o 22 (.cb ep dZ 1), .o 23 (.load ei false 1), .o 24 (.bin .neq dX ej)] [(0,0),(1,0),(2,0),(3,0),(4,0),(5,0),(6,0),(7,0),(8,0)]
abbrev Q4A:AC:= .cond eB (.seq (.run [.o 4 (.mv (.k (.bool false)))]) .ret) .skip
abbrev Q4G:AC:= .seq (.cond cZ .skip (.exit 0)) (.seq (.block 1 (.seq (.run [.m 15 c6, .m 5 dA]) (.seq Q47 Q4A))) (.run [.o 25 (.bin .add c6 (.k (.int .i64 1))), .m 13 eJ]))
abbrev Q4K:AC:= .seq (.run [.m 11 bC, .o 12 (.len cO), .o 13 (.mv (.k (.int .i64 0)))]) (.block 0 (.loop (.seq (.run [.o 14 (.bin .lss c6 cY)]) Q4G)))
abbrev Q4N:AC:= .seq Q4K (.seq (.run [.o 4 (.mv (.k (.bool true)))]) .ret)
abbrev Q4P:AC:= .seq (.run [.o 4 (.mv (.k (.bool false)))]) (.seq (.seq (.run [.m 6 bC, .o 7 (.len dc), .m 8 bt, .o 9 (.len cR), .o 10 (.bin .neq db dr)]) Q41) Q4N)
abbrev Q4T:AC:= .seq (.run [.o 2 (.box bC), .o 3 (.box bt), .o 4 (.mv (.k (.bool false)))]) (.seq (.run [.o 5 (.load dw true 5), .o 6 (.load cv true 5), .c 7 vR [bP,dc], .m 8 db, .g 9 8 true (.aq dw 4), .g 10 8 true (.load dr false 1), .g 11 8 true (.aq cv 4), .g 12 8 true (.load cO false 1), .d 13 8 true ta [bS,cY], .o 14 (.pick cR c6 (.k (.bool false))), .m 4 cZ]) .ret)
abbrev Q4X:AC:= .seq (.run [.o 1 (.box bC), .o 2 (.mv (.k (.bool false)))]) (.seq (.run [.o 3 (.load bt true 2), .c 4 zt [cv], .o 5 (.EZ fk 0 false 1), .o 6 (.bin .eql bP (.k (.int .i64 0))), .m 2 dc]) .ret)
abbrev Q5G:AC:= .cond gP (.seq (.run [.o 37 (.aq db 2), .op none none (.store iC (.k (.slice .full 0 [])) 1)]) (.run [.m 38 bP, .o 39 (.load db true 13), .o 40 (.dg [(.int .i64 0),(.int .i64 0),(.slice .full 0 []),(.str []),(.str []),(.int .i64 0),(.int .i64 0),(.str []),(.slice .full 0 []),(.bool false),(.slice .full 0 []),(.slice .full 0 []),(.slice .full 0 [])] 13 1 [(0,iT)]), .o 41 (.app 13 208 iJ jm), .m 5 iY])) .skip
abbrev Q5I:AC:= .seq (.run [.o 32 (.cb fJ fW 13), .o 33 (.load gH true 13), .o 7 (.alloc [(.int .i64 0),(.int .i64 0),(.slice .full 0 []),(.str []),(.str []),(.int .i64 0),(.int .i64 0),(.str []),(.slice .full 0 []),(.bool false),(.slice .full 0 []),(.slice .full 0 []),(.slice .full 0 [])]), .op none none (.store db gv 13)]) (.seq (.run [.o 34 (.aq db 1), .o 35 (.load ib false 1), .o 36 (.bin .leq gI (.k (.int .i64 3)))]) Q5G)
abbrev Q5M:AC:= .seq (.cond gd .skip (.exit 2)) (.seq (.block 3 Q5I) (.run [.o 42 (.bin .add fW (.k (.int .i64 1))), .m 30 jO]))
abbrev Q5Q:AC:= .seq (.run [.o 23 (.aq cv 1), .o 24 (.load ej false 1), .m 25 fk, .o 26 (.cb eB eJ 5), .o 27 (.aq fb 3), .o 28 (.load fu false 1), .o 29 (.len fJ), .o 30 (.mv (.k (.int .i64 0)))]) (.block 2 (.loop (.seq (.run [.o 31 (.bin .lss fW fZ)]) Q5M)))
abbrev Q5R:AC:= .par [.o 43 (.aq cv 1), .o 44 (.load jA false 1), .m 45 fk, .o 46 (.aq cv 1), .o 47 (.load kS false 1), .m 48 fk, .m 49 bP, .o 50 (.cb jP kB 5), .o 51 (.aq lH 3), .op none none (.store kT lu 1), .o 52 (.cb lq lr 5), .o 53 (.aq kU 4), .op none none (.store kV (.k (.slice .full 0 [])) 1)] [(0,0),(1,0),(2,0),(6,0),(7,0),(8,0),(9,0),(3,0),(4,1),(5,0),(10,0),(11,0),(12,0)]
abbrev Q5U:AC:= .seq (.seq (.run [.o 16 (.aq cv 1), .o 17 (.load df false 1), .m 18 fk, .o 19 (.cb dK dF 5), .o 20 (.aq dX 0), .o 21 (.load ep false 1), .o 22 (.bin .neq dZ (.k (.str [109,97,105,110])))]) (.cond ei (.exit 1) .skip)) (.seq (.run [.o 5 (.mv (.k (.slice .full 0 [])))]) (.seq Q5Q Q5R))
abbrev Q5Z:AC:= .seq (.cond cZ .skip (.exit 0)) (.seq (.block 1 (.seq (.run [.m 15 c6, .m 4 dA]) Q5U)) (.run [.o 54 (.bin .add c6 (.k (.int .i64 1))), .m 13 lI]))
abbrev Q60:AC:= .seq (.run [.o 14 (.bin .lss c6 cY)]) Q5Z
abbrev Q65:AC:= .seq (.run [.o 55 (.load cv true 2), .c 56 vS [lx], .op none none (.store dw mW 2)]) .ret
abbrev Q66:AC:= .seq (.seq (.run [.o 10 (.aq cv 1), .o 11 (.load bS false 1), .o 12 (.len cO), .o 13 (.mv (.k (.int .i64 0)))]) (.block 0 (.loop Q60))) Q65
abbrev Q68:AC:= .seq (.run [.o 1 (.box bC), .o 2 (.alloc [(.slice .full 0 []),(.slice .full 0 [])])]) (.seq (.run [.o 8 (.load bt true 2), .c 9 rE [cR], .o 3 (.alloc [(.slice .full 0 []),(.slice .full 0 [])]), .op none none (.store cv dr 2)]) Q66)
abbrev Q6D:AC:= .cond cO (.seq (.run [.o 12 (.build [(.str []),(.slice .full 0 []),(.slice .full 0 []),(.slice .full 0 []),(.slice .full 0 [])] []), .op none none (.store fk cY 5), .o 5 (.mv (.k (.bool false)))]) .ret) .skip
abbrev Q6N:AC:= .cond eJ (.seq (.run [.o 26 (.load cR true 5), .op none none (.store fk fb 5), .o 5 (.mv (.k (.bool true)))]) .ret) .skip
abbrev Q6S:AC:= .seq (.block 1 (.seq (.run [.o 20 (.cb df dF 5), .o 21 (.load ep true 5), .o 8 (.alloc [(.str []),(.slice .full 0 []),(.slice .full 0 []),(.slice .full 0 []),(.slice .full 0 [])]), .op none none (.store cR dZ 5)]) (.seq (.run [.o 22 (.aq cR 0), .o 23 (.load ei false 1), .m 24 bt, .o 25 (.bin .eql ej eB)]) Q6N))) (.run [.o 27 (.bin .add dF (.k (.int .i64 1))), .m 18 fu])
abbrev Q6W:AC:= .block 0 (.loop (.seq (.run [.o 19 (.bin .lss dF dK)]) (.seq (.cond dX .skip (.exit 0)) Q6S)))
abbrev Q70:AC:= .seq (.seq (.run [.o 15 (.aq dc 1), .o 16 (.load dA false 1), .o 17 (.len df), .o 18 (.mv (.k (.int .i64 0)))]) Q6W) (.seq (.run [.o 28 (.build [(.str []),(.slice .full 0 []),(.slice .full 0 []),(.slice .full 0 []),(.slice .full 0 [])] []), .op none none (.store fk fJ 5), .o 5 (.mv (.k (.bool false)))]) .ret)
abbrev Q73:AC:= .seq (.run [.o 2 (.box bC), .o 4 (.alloc [(.str []),(.slice .full 0 []),(.slice .full 0 []),(.slice .full 0 []),(.slice .full 0 [])]), .o 5 (.mv (.k (.bool false)))]) (.seq (.seq (.run [.o 9 (.load dw true 2), .c 10 qL [dr], .o 11 (.un .not bS)]) Q6D) (.seq (.run [.o 13 (.load dw true 2), .c 14 rR [c6], .o 6 (.alloc [(.slice .full 0 []),(.slice .full 0 [])]), .op none none (.store dc cZ 2)]) Q70))
abbrev Q78:AC:= .cond dr (.seq (.run [.o 4 (.mv (.k (.slice .full 0 [])))]) .ret) .skip
abbrev Q7F:AC:= .par [.o 21 (.aq dw 0), .o 22 (.load dZ false 1), .c 23 fH [ei], .o 24 (.load dc true 5), .c 25 uZ [eB], .o 26 (.app 1 16 ej eJ), .m 4 fb] [(0,0),(1,0),(2,0),(3,1),(4,0),(5,0),(6,0)]
abbrev Q7M:AC:= .seq (.block 1 (.seq (.run [.o 15 (.cb cO c6 5), .o 16 (.load dA true 5), .o 6 (.alloc [(.str []),(.slice .full 0 []),(.slice .full 0 []),(.slice .full 0 []),(.slice .full 0 [])]), .op none none (.store dc df 5)]) (.seq (.run [.o 17 (.aq dc 0), .o 18 (.load dK false 1), .m 19 bt, .o 20 (.bin .eql dF dX)]) (.cond ep (.seq Q7F .ret) .skip)))) (.run [.o 27 (.bin .add c6 (.k (.int .i64 1))), .m 13 fu])
abbrev Q7Q:AC:= .block 0 (.loop (.seq (.run [.o 14 (.bin .lss c6 cY)]) (.seq (.cond cZ .skip (.exit 0)) Q7M)))
abbrev Q7U:AC:= .seq (.seq (.run [.o 10 (.aq dw 1), .o 11 (.load bS false 1), .o 12 (.len cO), .o 13 (.mv (.k (.int .i64 0)))]) Q7Q) (.seq (.run [.o 4 (.mv (.k (.slice .full 0 [])))]) .ret)
abbrev Q7W:AC:= .seq (.run [.o 2 (.box bC), .o 4 (.mv (.k (.slice .full 0 [])))]) (.seq (.seq (.run [.o 7 (.load dw true 2), .c 8 qL [db], .o 9 (.un .not cR)]) Q78) Q7U)
abbrev Q81:AC:= .cond bS (.seq (.run [.o 6 (.mv (.k (.int .i64 0))), .o 7 (.mv (.k (.bool false)))]) .ret) .skip
abbrev Q86:AC:= .seq (.run [.o 3 (.box bC), .o 6 (.mv (.k (.int .i64 0))), .o 7 (.mv (.k (.bool false)))]) (.seq (.seq (.run [.o 8 (.load cv true 4), .c 9 oi [cR], .o 10 (.un .not dr)]) Q81) (.seq (.run [.o 11 (.load cv true 4), .m 12 bt, .m 13 dw, .c 14 l8 [cO,cY,c6], .o 15 (.ext cZ 0), .o 16 (.ext cZ 1), .m 6 dA, .m 7 df]) .ret))
abbrev Q8B:AC:= .cond eB (.seq (.run [.o 25 (.build [(.int .i64 0),(.int .i64 0),(.int .i64 0),(.slice .full 0 []),(.slice .full 0 [])] []), .op none none (.store cR eJ 5), .o 9 (.mv (.k (.int .i64 1)))]) .ret) .skip
abbrev Q8L:AC:= .seq (.cond gP .skip (.exit 0)) (.seq (.block 1 (.run [.m 37 bS, .m 38 bS, .o 39 (.cu iJ), .o 40 (.aq iT 1), .o 41 (.load jm false 1), .o 42 (.alloc [(.int .i64 0)]), .o 43 (.dg [.eI] 1 1 [(0,jO)]), .o 44 (.app 1 8 iY jA), .o 45 (.cu iC), .o 46 (.aq kB 1), .op none none (.store kS jP 1)])) (.run [.o 47 (.bin .add gI (.k (.int .i64 1))), .m 35 lq]))
abbrev Q8M:AC:= .seq (.run [.o 36 (.bin .lss gI ib)]) Q8L
abbrev Q8W:AC:= .cond mW (.seq (.run [.o 12 (.mv (.k (.int .i64 0)))]) (.goto 0)) .skip
abbrev Q8X:AC:= .seq (.run [.m 55 c6,(.o 56 (.bin .eql lx (.k (.int .i64 (-1)))))]) Q8W
abbrev Q91:AC:= .cond rj (.seq (.run [.m 64 bS, .o 65 (.cu rk), .o 66 (.aq tr 6), .o 67 (.aq uy 0), .op none none (.store uz (.k (.int .i64 2)) 1)]) (.goto 2)) .skip
abbrev Q9D:AC:= .seq (.run [.m 102 bS, .o 103 (.aq cO 0), .o 104 (.load Lb true 13), .c 105 pJ [La,Lc], .m 12 Ld]) (.seq (.run [.m 106 bS, .o 107 (.cu Lf), .o 108 (.aq Lg 6), .o 109 (.aq Lh 0), .o 110 (.load Tc false 1), .o 111 (.bin .eql Li (.k (.int .i64 0)))]) (.cond Lj (.goto 0) .skip))
abbrev Q9H:AC:= .cond MX (.run [.m 96 bS, .o 97 (.aq cO 0), .o 98 (.load S9 true 13), .c 99 qq [S8,Ta], .m 13 Tb]) (.seq (.run [.o 101 (.bin .eql Dp (.k (.int .i64 9))), .m 100 K9]) (.cond K8 Q9D (.run [.m 91 bS, .o 92 (.load cO true 17), .c 93 sh [FQ,IC], .m 13 MW])))
abbrev Q9J:AC:= .block 2 (.seq (.run [.o 95 (.bin .eql Dp (.k (.int .i64 4))), .m 94 FR]) Q9H)
abbrev Q9T:AC:= .seq (.run [.m 127 bS, .o 128 (.cu Ly), .o 129 (.aq Bw 6), .o 130 (.load Lz true 5), .op none none (.store cR LA 5), .o 9 (.mv (.k (.int .i64 0)))]) .ret
abbrev Q9V:AC:= .seq (.seq (.run [.m 121 bS, .o 122 (.cu Lt), .o 123 (.aq Lu 6), .o 124 (.aq Lv 0), .o 125 (.load Lw false 1), .o 126 (.bin .eql Lx (.k (.int .i64 0)))]) (.cond Td (.goto 1) .skip)) (.seq (.label 2) Q9T)
abbrev Q9W:AC:= .seq (.run [.m 118 bS, .m 119 cY, .c 120 pK [Lq,Lr], .m 13 Ls]) Q9V
abbrev Q9Z:AC:= .seq (.seq (.run [.m 112 bS, .o 113 (.cu G1), .o 114 (.aq Ll 6), .o 115 (.aq Lm 0), .o 116 (.load Lo false 1), .o 117 (.bin .eql G2 (.k (.int .i64 0)))]) (.cond Lp (.goto 1) .skip)) (.seq (.goto 2) (.seq (.label 0) Q9W))
abbrev QA2:AC:= .seq (.run [.m 68 bS, .o 69 (.cu tt), .o 70 (.aq vZ 6), .o 71 (.aq v7 1), .o 72 (.load zz false 1), .o 73 (.bin .add xB (.k (.int .i64 1))), .o 74 (.cu tt), .o 75 (.aq zA 6), .o 76 (.aq zB 1), .op none none (.store xD xC 1)]) (.seq (.run [.m 77 bS, .o 78 (.cu zC), .o 79 (.aq xE 0), .o 80 (.load Dl false 1), .o 81 (.cu Dm), .o 82 (.aq Dn 2), .o 83 (.load FI false 1), .m 84 c6, .o 85 (.bin .sub FK (.k (.int .i64 1))), .o 86 (.cb FJ FL 17), .o 87 (.load FM true 17), .op none none (.store cO FN 17)]) (.seq (.seq (.run [.o 88 (.aq cO 0), .o 89 (.aq FP 1), .o 90 (.load Bv false 1)]) Q9J) Q9Z))
abbrev QA4:AC:= .seq Q8X (.seq (.seq (.run [.m 57 bS, .o 58 (.cu o8), .o 59 (.aq ou 6), .o 60 (.aq mM 1), .o 61 (.load pL false 1), .m 62 dw, .o 63 (.bin .eql ri pM)]) Q91) QA2)
abbrev QA7:AC:= .seq (.run [.o 12 (.mv (.k (.int .i64 0)))]) (.seq (.run [.m 48 bS, .m 49 bS, .o 50 (.cu lu), .o 51 (.aq lH 0), .o 52 (.load kT false 1),(.c 53 jl [kU,(.k (.str [109,97,105,110]))]),(.c 54 jU [lr,kV,(.k (.slice .full 0 [])),(.k (.int .i64 0))]), .m 13 lI]) (.seq (.label 1) QA4))
abbrev QA8:AC:= .seq (.run [.o 11 (.alloc [(.int .i64 0),(.int .i64 0),(.slice .full 0 []),(.str []),(.str []),(.int .i64 0),(.int .i64 0),(.str []),(.slice .full 0 []),(.bool false),(.slice .full 0 []),(.slice .full 0 []),(.slice .full 0 []),(.int .i64 0),(.int .i64 0),(.int .i64 0),(.int .i64 0)])]) QA7
abbrev QA9:AC:= .seq (.seq (.run [.o 32 (.aq fk 0), .o 33 (.load gH false 1), .o 34 (.len gv), .o 35 (.mv (.k (.int .i64 0)))]) (.block 0 (.loop Q8M))) QA8
abbrev QAB:AC:= .seq (.seq (.run [.m 14 dw, .o 15 (.bin .lss cZ (.k (.int .i64 0))), .m 16 dA, .g 17 16 false (.mv dw), .g 18 16 false (.bin .gtr dK (.k (.int .i64 1000000))), .o 19 (.pick df (.k (.bool true)) dF), .m 20 dX, .g 21 20 false (.load fk true 2), .d 22 20 false rF [dZ], .g 23 20 false (.un .not ei), .o 24 (.pick ep (.k (.bool true)) ej)]) Q8B) (.seq (.run [.o 26 (.load fk true 2), .c 27 lV [fb], .m 28 bt, .m 29 cv, .o 30 (.build [.eI,(.slice .full 0 []),(.slice .full 0 []),(.slice .full 0 []),(.slice .full 0 []),(.slice .full 0 []),(.int .i64 0),(.int .i64 0),(.int .i64 0),(.slice .full 0 []),(.slice .full 0 [])] [(0,(1,fu)),(2,(1,fJ)),(3,(1,fZ))]), .o 31 (.box fW), .m 10 gd]) QA9)
abbrev QAC:AC:= .scope QAB
abbrev QAD:AC:= .seq (.run [.o 4 (.box bC), .o 8 (.alloc [(.int .i64 0),(.int .i64 0),(.int .i64 0),(.slice .full 0 []),(.slice .full 0 [])]), .o 9 (.mv (.k (.int .i64 0)))]) QAC
abbrev QAF:AC:= .run [(.o 3 (.dg [(.str [])] 1 1 [(0,(.k (.str [118])))])), .c 4 tc [(.k (.int .i64 2))],(.o 5 (.build [(.int .i64 0),(.int .i64 0),(.slice .full 0 []),(.str []),(.str []),(.int .i64 0),(.int .i64 0),(.str []),(.slice .full 0 []),(.bool false),(.slice .full 0 []),(.slice .full 0 []),(.slice .full 0 [])] [(0,(1,(.k (.int .i64 1)))),(1,(1,(.k (.int .i64 1)))),(3,(1,(.k (.str [118])))),(5,(4,fk))])), .c 6 tc [(.k (.int .i64 3))], .o 7 (.build [(.bool false),(.str []),(.int .i64 0),(.int .i64 0),(.str []),(.slice .full 0 [])] [(2,(4,dc))]),(.o 8 (.build [(.bool false),(.str []),(.int .i64 0),(.int .i64 0),(.str []),(.slice .full 0 [])] [(0,(1,(.k (.bool true)))),(1,(1,(.k (.str [118]))))])), .o 9 (.dg [(.bool false),(.str []),(.int .i64 0),(.int .i64 0),(.str []),(.slice .full 0 [])] 6 2 [(0,db),(1,cR)]),(.o 10 (.build [(.int .i64 0),(.int .i64 0),(.slice .full 0 []),(.str []),(.str []),(.int .i64 0),(.int .i64 0),(.str []),(.slice .full 0 []),(.bool false),(.slice .full 0 []),(.slice .full 0 []),(.slice .full 0 [])] [(0,(1,(.k (.int .i64 2)))),(1,(1,(.k (.int .i64 4)))),(3,(1,(.k (.str [103])))),(4,(1,(.k (.str [112])))),(10,(1,dr))])),(.c 11 l9 [(.k (.str [118]))]),(.o 12 (.build [(.int .i64 0),(.int .i64 0),(.slice .full 0 []),(.str []),(.str []),(.int .i64 0),(.int .i64 0),(.str []),(.slice .full 0 []),(.bool false),(.slice .full 0 []),(.slice .full 0 []),(.slice .full 0 [])] [(0,(1,(.k (.int .i64 3)))),(1,(1,(.k (.int .i64 3)))),(5,(4,cO))])),(.c 13 l9 [(.k (.str [103]))]),(.o 14 (.build [(.int .i64 0),(.int .i64 0),(.slice .full 0 []),(.str []),(.str []),(.int .i64 0),(.int .i64 0),(.str []),(.slice .full 0 []),(.bool false),(.slice .full 0 []),(.slice .full 0 []),(.slice .full 0 [])] [(0,(1,(.k (.int .i64 4)))),(1,(1,(.k (.int .i64 3)))),(5,(4,c6))])), .o 15 (.dg [(.int .i64 0),(.int .i64 0),(.slice .full 0 []),(.str []),(.str []),(.int .i64 0),(.int .i64 0),(.str []),(.slice .full 0 []),(.bool false),(.slice .full 0 []),(.slice .full 0 []),(.slice .full 0 [])] 13 4 [(0,bP),(1,bS),(2,cY),(3,cZ)]),(.o 16 (.build [(.str []),(.slice .full 0 []),(.slice .full 0 []),(.slice .full 0 []),(.slice .full 0 [])] [(0,(1,(.k (.str [109,97,105,110])))),(2,(1,cv)),(3,(1,dA))])), .o 1 (.alloc [(.str []),(.slice .full 0 []),(.slice .full 0 []),(.slice .full 0 []),(.slice .full 0 [])]), .op none none (.store bt df 5)]
abbrev QAG:AC:= .run [(.o 17 (.build [(.str []),(.bool false)] [(0,(1,(.k (.str [120]))))])),(.o 18 (.build [(.str []),(.bool false)] [(0,(1,(.k (.str [121])))),(1,(1,(.k (.bool true))))])), .o 19 (.dg [(.str []),(.bool false)] 2 2 [(0,dK),(1,dF)]),(.o 20 (.dg [(.str [])] 1 1 [(0,(.k (.str [101])))])),(.c 21 l9 [(.k (.str [121]))]),(.c 22 l9 [(.k (.str [120]))]), .c 23 wO [(.k (.int .i64 8)),dZ,ei],(.o 24 (.build [(.int .i64 0),(.int .i64 0),(.slice .full 0 []),(.str []),(.str []),(.int .i64 0),(.int .i64 0),(.str []),(.slice .full 0 []),(.bool false),(.slice .full 0 []),(.slice .full 0 []),(.slice .full 0 [])] [(0,(1,(.k (.int .i64 5)))),(1,(1,(.k (.int .i64 1)))),(3,(1,(.k (.str [121])))),(5,(4,ej))])),(.c 25 l9 [(.k (.str [121]))]), .c 26 tc [(.k (.int .i64 9))], .c 27 wO [(.k (.int .i64 12)),eJ,fb],(.o 28 (.build [(.int .i64 0),(.int .i64 0),(.slice .full 0 []),(.str []),(.str []),(.int .i64 0),(.int .i64 0),(.str []),(.slice .full 0 []),(.bool false),(.slice .full 0 []),(.slice .full 0 []),(.slice .full 0 [])] [(0,(1,(.k (.int .i64 7)))),(1,(1,(.k (.int .i64 10)))),(3,(1,(.k (.str [101]))))])), .o 29 (.dg [(.int .i64 0),(.int .i64 0),(.slice .full 0 []),(.str []),(.str []),(.int .i64 0),(.int .i64 0),(.str []),(.slice .full 0 []),(.bool false),(.slice .full 0 []),(.slice .full 0 []),(.slice .full 0 [])] 13 1 [(0,fJ)]),(.o 30 (.build [(.int .i64 0),(.int .i64 0),(.slice .full 0 []),(.str []),(.str []),(.int .i64 0),(.int .i64 0),(.str []),(.slice .full 0 []),(.bool false),(.slice .full 0 []),(.slice .full 0 []),(.slice .full 0 [])] [(0,(1,(.k (.int .i64 6)))),(1,(1,(.k (.int .i64 5)))),(5,(4,fu)),(11,(1,fZ))])),(.c 31 l9 [(.k (.str [121]))]),(.o 32 (.build [(.int .i64 0),(.int .i64 0),(.slice .full 0 []),(.str []),(.str []),(.int .i64 0),(.int .i64 0),(.str []),(.slice .full 0 []),(.bool false),(.slice .full 0 []),(.slice .full 0 []),(.slice .full 0 [])] [(0,(1,(.k (.int .i64 8)))),(1,(1,(.k (.int .i64 9)))),(9,(1,(.k (.bool true)))),(5,(4,gd))])), .o 33 (.dg [(.int .i64 0),(.int .i64 0),(.slice .full 0 []),(.str []),(.str []),(.int .i64 0),(.int .i64 0),(.str []),(.slice .full 0 []),(.bool false),(.slice .full 0 []),(.slice .full 0 []),(.slice .full 0 [])] 13 3 [(0,eB),(1,fW),(2,gH)]),(.o 34 (.build [(.str []),(.slice .full 0 []),(.slice .full 0 []),(.slice .full 0 []),(.slice .full 0 [])] [(0,(1,(.k (.str [112])))),(1,(1,dX)),(4,(1,ep)),(3,(1,gv))])), .o 2 (.alloc [(.str []),(.slice .full 0 []),(.slice .full 0 []),(.slice .full 0 []),(.slice .full 0 [])]), .op none none (.store dw ib 5)]
abbrev QAI:AC:= .seq (.run [(.o 35 (.dg [(.str [])] 1 1 [(0,(.k (.str [103])))])), .o 36 (.load bt true 5), .o 37 (.load dw true 5), .o 38 (.dg [(.str []),(.slice .full 0 []),(.slice .full 0 []),(.slice .full 0 []),(.slice .full 0 [])] 5 2 [(0,gP),(1,iC)]), .o 39 (.build [(.slice .full 0 []),(.slice .full 0 [])] [(0,(1,gI)),(1,(1,iJ))]), .op none none (.store bC iT 2)]) .ret
abbrev QAL:AC:= .seq (.run [.o 0 (.alloc [(.slice .full 0 []),(.slice .full 0 [])])]) (.seq QAF (.seq QAG QAI))
abbrev QAP:AC:= .seq (.run [.o 1 (.box bC),(.o 2 (.mv (.k (.val (.complex .f64 0 0)))))]) (.seq (.run [.o 3 (.aq bt 1), .o 4 (.load cv false 1), .o 5 (.sI (.ofInt .f64) fk fk), .o 6 (.aq bt 2), .o 7 (.load dc false 1), .o 8 (.sI (.ofInt .f64) db db), .o 9 (.sI .LN bP cR), .m 2 dr]) .ret)
abbrev QAZ:AC:= .seq (.seq (.run [.m 6 bP, .m 7 bC, .o 8 (.len db), .o 9 (.bin .lss dc cR), .m 10 dr, .g 11 10 true (.mv bt), .g 12 10 true (.bin .leq cO (.k (.int .i64 20000))), .o 13 (.pick bS cY (.k (.bool false)))]) (.cond c6 .skip (.exit 0))) (.seq (.block 1 (.run [.m 16 bC, .m 17 bP, .o 18 (.cb df dK 1), .o 19 (.load dF false 1), .m 20 bt, .c 21 iA [dX,ep], .m 1 dZ])) (.run [.m 14 bP, .o 15 (.bin .add cZ (.k (.int .i64 1))), .m 5 dA]))
abbrev QB5:AC:= .seq (.seq (.run [.o 5 (.mv (.k (.int .i64 0)))]) (.block 0 (.loop QAZ))) (.seq (.run [.m 22 bt, .m 4 ei]) .ret)
abbrev QB6:AC:= .seq (.run [.o 4 (.mv (.k (.int .i64 0)))]) QB5
abbrev QBB:AC:= .cond c6 (.seq (.run [.o 4 (.mv (.k (.int .i64 20001)))]) .ret) .skip
abbrev QBF:AC:= .seq (.seq (.run [.m 5 bt, .o 6 (.bin .gtr bP (.k (.int .i64 20000))), .m 7 dc, .g 8 7 false (.mv bC), .g 9 7 false (.qa cR), .g 10 7 false (.mv bt), .g 11 7 false (.bin .sub (.k (.int .i64 20000)) bS), .g 12 7 false (.bin .geq dr cO), .o 13 (.pick db (.k (.bool true)) cY)]) QBB) (.seq (.run [.m 14 bt, .o 15 (.bin .add cZ (.k (.int .i64 1))), .m 16 bC, .o 17 (.qa df), .o 18 (.bin .add dA dK), .m 4 dF]) .ret)
abbrev QBG:AC:= .seq (.run [.o 4 (.mv (.k (.int .i64 0)))]) QBF
open Go.Proofs
set_option maxRecDepth 20000 in
theorem nW : Has Tryz.prog yw 136 [(4, none)] Q2M := ⟨Tryz.f4, by kernel_rfl, by kernel_rfl⟩
set_option maxRecDepth 20000 in
set_option maxRecDepth 20000 in
theorem Kw : Has Tryz.prog zm 56 [(0, none)] Q2S := ⟨Tryz.f8, by kernel_rfl, by kernel_rfl⟩
theorem Kx:Has Tryz.prog zn 61 [(2,none)] Q3S:=⟨Tryz.f9,by kernel_rfl,by kernel_rfl⟩
theorem Ky:Has Tryz.prog rE 6 [(2,(some (true,2)))] Q3W:=⟨Tryz.f11,by kernel_rfl,by kernel_rfl⟩
theorem xF:Has Tryz.prog mC 26 [(4,none)] Q4P:=⟨Tryz.f16,by kernel_rfl,by kernel_rfl⟩
theorem G3:Has Tryz.prog rQ 15 [(4,none)] Q4T:=⟨Tryz.f17,by kernel_rfl,by kernel_rfl⟩
set_option maxRecDepth 20000 in
theorem Kz : Has Tryz.prog rF 7 [(2, none)] Q4X := ⟨Tryz.f18, by kernel_rfl, by kernel_rfl⟩
theorem KA:Has Tryz.prog zo 57 [(2,(some (true,2)))] Q68:=⟨Tryz.f19,by kernel_rfl,by kernel_rfl⟩
theorem Av:Has Tryz.prog s8 29 [(4,(some (true,5))),(5,none)] Q73:=⟨Tryz.f20,by kernel_rfl,by kernel_rfl⟩
theorem ID:Has Tryz.prog qp 28 [(4,none)] Q7W:=⟨Tryz.f21,by kernel_rfl,by kernel_rfl⟩
theorem Fe:Has Tryz.prog sy 17 [(6,none),(7,none)] Q86:=⟨Tryz.f22,by kernel_rfl,by kernel_rfl⟩
theorem wQ:Has Tryz.prog uu 131 [(8,(some (true,5))),(9,none)] QAD:=⟨Tryz.f23,by kernel_rfl,by kernel_rfl⟩
theorem KB:Has Tryz.prog zp 40 [(0,(some (true,2)))] QAL:=⟨Tryz.f26,by kernel_rfl,by kernel_rfl⟩
theorem KD:Has Tryz.prog zr 10 [(2,none)] QAP:=⟨Tryz.f27,by kernel_rfl,by kernel_rfl⟩
theorem Cr:Has Tryz.prog kx 23 [(4,none)] QB6:=⟨Tryz.f28,by kernel_rfl,by kernel_rfl⟩
theorem qw:Has Tryz.prog iA 19 [(4,none)] QBG:=⟨Tryz.f29,by kernel_rfl,by kernel_rfl⟩
end Go.Abs
