/-
  What is proved here: part 1 of the road to the claim (Frame, Frame2, Walk, Par, Par1, Par2, Par3, Step, Wp, Types, SelA, Lend, Sym, Frz, WpA, Mir, MirTree, Cnt, MirFlat, Nums, Codes0, Have0).
  No conditions.
-/
import Derived.Test.YtpjadlleefgcpaaGreatRnK0
import Derived.Attr
import Derived.Test.YtpjadlleefgcpaaGreatProg
import Derived.KernelRfl

set_option linter.unusedSimpArgs false
set_option linter.unusedVariables false
namespace Go.Abs
def Tag.ok (m:Nat):Tag→Bool
 | .tok t _=>decide (t<m)
 |_=>true
def Tag.cO (ts:List Nat):Tag→Tag
 | .tok t y=>match ts[t]? with|some t'=> .tok t' y|none=> .shared
 |g=>g
mutual
def D.ok (n m:Nat):D→Bool
 | .ptr o _=>decide (o<n)
 | .dN row _=>D.bF n m row
 | .slice g _ rows=>g.ok m && D.jg n m rows
 | .agg cs=>D.bF n m cs
 | .tuple ds=>D.bF n m ds
 | .gb _ o=>decide (o<n)
 | .ix _ cs=>D.bF n m cs
 | .gW o=>decide (o<n)
 | .dH _ o _ _=>decide (o<n)
 | .gd o _ _=>decide (o<n)
 |_=>true
def D.bF (n m:Nat):List D→Bool
 | []=>true
 |d::r=>D.ok n m d && D.bF n m r
def D.jg (n m:Nat):List (List D)→Bool
 | []=>true
 |d::r=>D.bF n m d && D.jg n m r
end
mutual
def D.cO (os ts:List Nat):D→D
 | .ptr o off=>match os[o]? with|some o'=> .ptr o' off|none=> .junk
 | .dN row off=> .dN (D.fc os ts row) off
 | .slice g z rows=> .slice (g.cO ts) z (D.pG os ts rows)
 | .agg cs=> .agg (D.fc os ts cs)
 | .tuple ds=> .tuple (D.fc os ts ds)
 | .junk=> .junk
 | .int k x=> .int k x
 | .bool b=> .bool b
 | .str l=> .str l
 | .eY=> .eY
 | .val v=> .val v
 | .gb T o=>match os[o]? with|some o'=> .gb T o'|none=> .junk
 | .ix f cs=> .ix f (D.fc os ts cs)
 | .gW o=>match os[o]? with|some o'=> .gW o'|none=> .junk
 | .dH z o g len=>match os[o]? with|some o'=> .dH z o' g len|none=> .junk
 | .gd o g off=>match os[o]? with|some o'=> .gd o' g off|none=> .junk
 | .fk z=> .fk z
def D.fc (os ts:List Nat):List D→List D
 | []=> []
 |d::r=>D.cO os ts d::D.fc os ts r
def D.pG (os ts:List Nat):List (List D)→List (List D)
 | []=> []
 |d::r=>D.fc os ts d::D.pG os ts r
end
theorem gN (os ts:List Nat) : ∀ l,D.fc os ts l=l.map (D.cO os ts)
 | []=>by simp[D.fc]
 |d::r=>by simp[D.fc,gN os ts r]
theorem EH (os ts:List Nat) : ∀ l,D.pG os ts l=l.map (D.fc os ts)
 | []=>by simp[D.pG]
 |d::r=>by simp[D.pG,EH os ts r]
theorem AQ (n m:Nat) : ∀ l,D.bF n m l=l.all (D.ok n m)
 | []=>by simp[D.bF]
 |d::r=>by simp[D.bF,AQ n m r]
theorem Hk (n m:Nat) : ∀ l,D.jg n m l=l.all (D.bF n m)
 | []=>by simp[D.jg]
 |d::r=>by simp[D.jg,Hk n m r]
theorem xC {n m:Nat} {l:List D} (h:D.bF n m l=true) {i:Nat} {d:D} (e:l[i]? = some d):D.ok n m d=true:=by
 rw[AQ]at h;exact List.all_eq_true.1 h d (List.mem_of_getElem? e)
theorem ads {n m:Nat} {l:List (List D)} (h:D.jg n m l=true) {i:Nat} {d:List D} (e:l[i]? = some d):D.bF n m d=true:=by
 rw[Hk]at h;exact List.all_eq_true.1 h d (List.mem_of_getElem? e)
section
variable {M M0:Map} {s s0:St} {os ts:List Nat}
theorem jL.BD (l7 : ∀ (i:Nat) t,ts[i]? = some t→M0.be i=M.be t) (ht : ∀ (i t:Nat),ts[i]? = some t→s0.az[i]? = s.az[t]?) (hlen:s0.az.length=ts.length) {g:Tag} {z len cap:Nat} {base:Option (Nat×Nat)} (nU:g.ok ts.length=true) (h:jL M s (g.cO ts) z len base cap):jL M0 s0 g z len base cap:=by
 cases g with
 |full=>exact h
 |shared=>exact h
 |tok t y=>
  have hD:t<ts.length:=by simpa[Tag.ok]using nU
  have e:ts[t]? = some ts[t]:=List.getElem?_eq_getElem hD
  simp only[Tag.cO,e]at h
  obtain⟨h1,h2⟩:=h
  refine⟨by omega,fun n hn=>?_⟩
  rw[ht t _ e]at hn
  rw[l7 t _ e]
  exact h2 n hn
theorem RD.BD (hG:M0.G=M.G) (kA : ∀ (i:Nat) o,os[i]? = some o→M0.loc i=M.loc o) (jB:s0.aj.length=os.length)
 (l7 : ∀ (i:Nat) t,ts[i]? = some t→M0.be i=M.be t) (ht : ∀ (i t:Nat),ts[i]? = some t→s0.az[i]? = s.az[t]?) (hlen:s0.az.length=ts.length) {d:D} {v:Value} (h:RD M s d v) :
 ∀ d0:D,d0.cO os ts=d→d0.ok os.length ts.length=true→RD M0 s0 d0 v:=by
 have oE : ∀ (i:Nat) o,os[i]? = some o→M0.mu i=M.mu o:=fun i o h=>congrArg Prod.fst (kA i o h)
 have tag:=fun {g z len cap base}=>@jL.BD M M0 s s0 ts l7 ht hlen g z len cap base
 induction h with
 | junk v=>
  intro d0 e ok
  cases d0<;>simp only[D.cO]at e<;>try (cases e;done)
  ·exact .junk v
  ·rename_i o off
   have hD:o<os.length:=by simpa[D.ok]using ok
   rw[List.getElem?_eq_getElem hD]at e;cases e
  ·rename_i T o
   have hD:o<os.length:=by simpa[D.ok]using ok
   rw[List.getElem?_eq_getElem hD]at e;cases e
  ·rename_i o
   have hD:o<os.length:=by simpa[D.ok]using ok
   rw[List.getElem?_eq_getElem hD]at e;cases e
  ·rename_i z o g len
   have hD:o<os.length:=by simpa[D.ok]using ok
   rw[List.getElem?_eq_getElem hD]at e;cases e
  ·rename_i o g off
   have hD:o<os.length:=by simpa[D.ok]using ok
   rw[List.getElem?_eq_getElem hD]at e;cases e
 |fk z a=>intro d0 e ok;cases d0<;>simp only[D.cO]at e<;>first|(cases e;exact .fk _ _)|(split at e<;>cases e)|cases e
 |dH z o g len b cap A ho hm ha hl=>
  intro d0 e ok
  cases d0<;>simp only[D.cO]at e<;>first|(cases e;done)|skip
  all_goals try (split at e<;>cases e;done)
  rename_i z0 o0 g0 RO
  have hD:o0<os.length:=by simpa[D.ok]using ok
  rw[List.getElem?_eq_getElem hD]at e
  cases e
  exact RD.dH (s:=s0) z o0 g len b cap A (by omega) ((congrArg Prod.snd (kA o0 _ (List.getElem?_eq_getElem hD))).trans hm) ha hl
 |gd z o g off b cap A ho hm ha=>
  intro d0 e ok
  cases d0<;>simp only[D.cO]at e<;>first|(cases e;done)|skip
  all_goals try (split at e<;>cases e;done)
  rename_i o0 g0 Ys
  have hD:o0<os.length:=by simpa[D.ok]using ok
  rw[List.getElem?_eq_getElem hD]at e
  cases e
  exact RD.gd (s:=s0) z o0 g off b cap A (by omega) ((congrArg Prod.snd (kA o0 _ (List.getElem?_eq_getElem hD))).trans hm) ha
 |val v hv=>intro d0 e ok;cases d0<;>simp only[D.cO]at e<;>first|(cases e;exact .val _ hv)|(split at e<;>cases e)|cases e
 |gb T o v ho ht hv=>
  intro d0 e ok
  cases d0<;>simp only[D.cO]at e<;>first|(split at e<;>cases e;done)|skip
  all_goals try (cases e;done)
  rename_i T0 o0
  have hD:o0<os.length:=by simpa[D.ok]using ok
  rw[List.getElem?_eq_getElem hD]at e
  cases e
  have hl:=kA o0 _ (List.getElem?_eq_getElem hD)
  exact .gb _ o0 v (by omega) ((congrArg (fun x=>x.2.ty?) hl).trans ht) (by rw[oE o0 _ (List.getElem?_eq_getElem hD)];exact hv)
 |int k x=>intro d0 e ok;cases d0<;>simp only[D.cO]at e<;>first|(cases e;exact .int _ _)|(split at e<;>cases e)|cases e
 |bool b=>intro d0 e ok;cases d0<;>simp only[D.cO]at e<;>first|(cases e;exact .bool _)|(split at e<;>cases e)|cases e
 |str l=>intro d0 e ok;cases d0<;>simp only[D.cO]at e<;>first|(cases e;exact .str _)|(split at e<;>cases e)|cases e
 |eY=>intro d0 e ok;cases d0<;>simp only[D.cO]at e<;>first|(cases e;exact .eY)|(split at e<;>cases e)|cases e
 |gW o ho hm=>
  intro d0 e ok
  cases d0<;>simp only[D.cO]at e<;>first|(cases e;done)|skip
  all_goals try (split at e<;>cases e;done)
  rename_i o0
  have hD:o0<os.length:=by simpa[D.ok]using ok
  rw[List.getElem?_eq_getElem hD]at e
  cases e
  rw[← oE o0 _ (List.getElem?_eq_getElem hD)]
  exact RD.gW (s:=s0) o0 (by omega) ((congrArg Prod.snd (kA o0 _ (List.getElem?_eq_getElem hD))).trans hm)
 |ix f ds vs hl _ ih=>
  intro d0 e ok
  cases d0<;>simp only[D.cO]at e<;>first|(split at e<;>cases e;done)|skip
  all_goals try (cases e;done)
  rename_i f0 Vn
  simp only[D.ix.injEq]at e
  obtain⟨rfl,rfl⟩:=e
  simp only[D.ok]at ok
  rw[gN]at hl ih
  refine .ix _ Vn vs (by simpa using hl) (fun i d v e1 e2=>ih i _ v (by rw[List.getElem?_map,e1];rfl) e2 d rfl (xC ok e1))
 |ptr o off ho hm=>
  intro d0 e ok
  cases d0<;>simp only[D.cO]at e<;>first|(cases e;done)|skip
  all_goals try (split at e<;>cases e;done)
  rename_i o0 Ys
  have hD:o0<os.length:=by simpa[D.ok]using ok
  rw[List.getElem?_eq_getElem hD]at e
  cases e
  rw[← oE o0 _ (List.getElem?_eq_getElem hD)]
  exact RD.ptr (s:=s0) o0 _ (by omega) (by rw[show M0.ob o0=_ from congrArg Prod.snd (kA o0 _ (List.getElem?_eq_getElem hD))];exact hm)
 |dN row off b k h1 h2 ih=>
  intro d0 e ok
  cases d0<;>simp only[D.cO]at e<;>first|(split at e<;>cases e;done)|skip
  all_goals try (cases e;done)
  rename_i ao7 Ys
  simp only[D.dN.injEq]at e
  obtain⟨rfl,rfl⟩:=e
  simp only[D.ok]at ok
  rw[gN]at h1 ih
  refine .dN ao7 Ys b k (fun i d e=>?_) (fun i d u e eu=>?_)
  ·rw[hG];exact h1 i _ (by rw[List.getElem?_map,e];rfl)
  ·rw[hG]at eu;exact ih i _ u (by rw[List.getElem?_map,e];rfl) eu d rfl (xC ok e)
 |jH g z cap hc ry=>
  intro d0 e ok
  cases d0<;>simp only[D.cO]at e<;>first|(split at e<;>cases e;done)|skip
  all_goals try (cases e;done)
  rename_i g0 z0 lA
  simp only[D.slice.injEq]at e
  obtain⟨rfl,rfl,e⟩:=e
  have:lA = []:=by cases lA<;>simp[D.pG]at e;rfl
  subst this
  simp only[D.ok,Bool.and_eq_true]at ok
  exact .jH g0 z0 cap hc (tag ok.1 ry)
 | mX z a cap=>
  intro d0 e ok
  cases d0<;>simp only[D.cO]at e<;>first|(split at e<;>cases e;done)|skip
  all_goals try (cases e;done)
  rename_i g0 z0 lA
  simp only[D.slice.injEq]at e
  obtain⟨hg,rfl,e⟩:=e
  have:lA = []:=by cases lA<;>simp[D.pG]at e;rfl
  subst this
  simp only[D.ok,Bool.and_eq_true]at ok
  have:g0 = .shared:=by
   cases g0 with
   |tok t y=>
    have ht:t<ts.length:=by simpa[Tag.ok]using ok.1
    simp[Tag.cO,ht]at hg
   |shared=>rfl
   |_=>simp[Tag.cO]at hg
  subst this
  exact .mX _ a cap
 | slice g z rows b k cap hl hs h1 h2 ry ih=>
  intro d0 e ok
  cases d0<;>simp only[D.cO]at e<;>first|(split at e<;>cases e;done)|skip
  all_goals try (cases e;done)
  rename_i g0 z0 lA
  simp only[D.slice.injEq]at e
  obtain⟨rfl,rfl,rfl⟩:=e
  simp only[D.ok,Bool.and_eq_true]at ok
  rw[EH]at hl hs h1 ih ry
  simp only[EH,List.length_map]at hl ry ⊢
  have eI : ∀ (i:Nat) (row:List D),lA[i]? = some row→(lA.map (D.fc os ts))[i]? = some (D.fc os ts row):=fun i row e=>by rw[List.getElem?_map,e];rfl
  have jA : ∀ (row:List D) (j:Nat) (d:D),row[j]? = some d→(D.fc os ts row)[j]? = some (D.cO os ts d):=fun row j d e=>by rw[gN,List.getElem?_map,e];rfl
  refine .slice g0 z0 lA b k cap hl (fun row hr=>?_) (fun i row j d e1 e2=>?_) (fun i row j d u e1 e2 eu=>?_) (tag ok.1 ry)
  ·have:=hs (D.fc os ts row) (List.mem_map.2 ⟨row,hr,rfl⟩)
   rwa [gN,List.length_map]at this
  ·rw[hG];exact h1 i _ j _ (eI i row e1) (jA row j d e2)
  ·rw[hG]at eu;exact ih i _ j _ u (eI i row e1) (jA row j d e2) eu d rfl (xC (ads ok.2 e1) e2)
 |agg cells vs hl h1 _ ih=>
  intro d0 e ok
  cases d0<;>simp only[D.cO]at e<;>first|(split at e<;>cases e;done)|skip
  all_goals try (cases e;done)
  rename_i Vn
  simp only[D.agg.injEq]at e
  subst e
  simp only[D.ok]at ok
  rw[gN]at hl ih
  refine .agg Vn vs (by simpa using hl) h1 (fun i d v e1 e2=>ih i _ v (by rw[List.getElem?_map,e1];rfl) e2 d rfl (xC ok e1))
 |tuple ds vs hl _ ih=>
  intro d0 e ok
  cases d0<;>simp only[D.cO]at e<;>first|(split at e<;>cases e;done)|skip
  all_goals try (cases e;done)
  rename_i Vn
  simp only[D.tuple.injEq]at e
  subst e
  simp only[D.ok]at ok
  rw[gN]at hl ih
  refine .tuple Vn vs (by simpa using hl) (fun i d v e1 e2=>ih i _ v (by rw[List.getElem?_map,e1];rfl) e2 d rfl (xC ok e1))
theorem RD.cO (hG:M0.G=M.G) (kA : ∀ i,i<s0.aj.length→∃ o,os[i]? = some o∧o<s.aj.length∧M.loc o=M0.loc i)
 (l7 : ∀ i,i<s0.az.length→∃ t,ts[i]? = some t∧t<s.az.length∧s.az[t]? = s0.az[i]? ∧M.be t=M0.be i) {d:D} {v:Value} (h:RD M0 s0 d v):RD M s (d.cO os ts) v:=by
 have tag : ∀ {g:Tag} {z len cap:Nat} {base:Option (Nat×Nat)},jL M0 s0 g z len base cap→jL M s (g.cO ts) z len base cap:=by
  intro g z len cap base h
  cases g with
  |full=>exact h
  |shared=>exact h
  |tok t y=>
   obtain⟨h1,h2⟩:=h
   obtain⟨t',e,hD,Mb,hb⟩:=l7 t h1
   simp only[Tag.cO,e]
   refine⟨hD,fun n hn=>?_⟩
   rw[hb]
   exact h2 n (Mb ▸ hn)
 induction h with
 |junk v=>simp only[D.cO];exact .junk v
 |int k x=>simp only[D.cO];exact .int k x
 |bool b=>simp only[D.cO];exact .bool b
 |str l=>simp only[D.cO];exact .str l
 |eY=>simp only[D.cO];exact .eY
 |ptr o off ho hk=>
  obtain⟨o',e,hD,hm⟩:=kA o ho
  simp only[D.cO,e]
  have hb:M.ob o'=M0.ob o:=congrArg Prod.snd hm
  have hm:M.mu o'=M0.mu o:=congrArg Prod.fst hm
  rw[← hm]
  exact .ptr o' off hD (by rw[hb];exact hk)
 |gW o ho hk=>
  obtain⟨o',e,hD,hm⟩:=kA o ho
  simp only[D.cO,e]
  have hb:M.ob o'=M0.ob o:=congrArg Prod.snd hm
  have hm:M.mu o'=M0.mu o:=congrArg Prod.fst hm
  rw[← hm]
  exact .gW o' hD (by rw[hb];exact hk)
 |fk z a=>simp only[D.cO];exact .fk z a
 |dH z o g len b cap A ho hk ha hl=>
  obtain⟨o',e,hD,hm⟩:=kA o ho
  simp only[D.cO,e]
  exact .dH z o' g len b cap A hD ((congrArg Prod.snd hm).trans hk) ha hl
 |gd z o g off b cap A ho hk ha=>
  obtain⟨o',e,hD,hm⟩:=kA o ho
  simp only[D.cO,e]
  exact .gd z o' g off b cap A hD ((congrArg Prod.snd hm).trans hk) ha
 |ix f ds vs hl _ ih=>
  simp only[D.cO,gN]
  refine .ix f _ vs (by simpa using hl) (fun i d v e1 e2=>?_)
  simp only[List.getElem?_map,Option.map_eq_some_iff]at e1
  obtain⟨d',e1,rfl⟩:=e1
  exact ih i d' v e1 e2
 |val v hv=>simp only[D.cO];exact .val v hv
 |gb T o v ho ht hv=>
  obtain⟨o',e,hD,hm⟩:=kA o ho
  simp only[D.cO,e]
  have h1:M.mu o'=M0.mu o:=congrArg Prod.fst hm
  have h2:M.ty o'=M0.ty o:=congrArg (fun x=>x.2.ty?) hm
  exact .gb T o' v hD (by rw[h2];exact ht) (by rw[h1];exact hv)
 | dN row off b k h1 h2 ih=>
  simp only[D.cO,gN]
  refine .dN _ off b k (fun i d e=>?_) (fun i d u e eu=>?_)
  ·simp only [List.getElem?_map,Option.map_eq_some_iff]at e
   obtain⟨d',e,rfl⟩:=e
   rw[← hG];exact h1 i d' e
  ·simp only [List.getElem?_map,Option.map_eq_some_iff]at e
   obtain⟨d',e,rfl⟩:=e
   rw[← hG]at eu;exact ih i d' u e eu
 |jH g z cap hc ht=>simp only[D.cO,D.pG];exact .jH _ z cap hc (tag ht)
 |mX z a cap=>simp only[D.cO,D.pG,Tag.cO];exact .mX z a cap
 | slice g z rows b k cap hl hs h1 h2 ht ih=>
  simp only[D.cO,EH]
  have hlen:(rows.map (D.fc os ts)).length=rows.length:=by simp
  have key:=RD.slice (M:=M) (s:=s) (g.cO ts) z (rows.map (D.fc os ts)) b k cap (by rw[hlen];exact hl) (fun row hr=>by
   obtain⟨lD,h',rfl⟩:=List.mem_map.1 hr
   rw[gN,List.length_map];exact hs lD h')
   (fun i row j d e1 e2=>by
    simp only[List.getElem?_map,Option.map_eq_some_iff]at e1
    obtain⟨lD,e1,rfl⟩:=e1
    rw[gN]at e2
    simp only[List.getElem?_map,Option.map_eq_some_iff]at e2
    obtain⟨d',e2,rfl⟩:=e2
    rw[← hG];exact h1 i lD j d' e1 e2)
   (fun i row j d u e1 e2 eu=>by
    simp only[List.getElem?_map,Option.map_eq_some_iff]at e1
    obtain⟨lD,e1,rfl⟩:=e1
    rw[gN]at e2
    simp only[List.getElem?_map,Option.map_eq_some_iff]at e2
    obtain⟨d',e2,rfl⟩:=e2
    rw[← hG]at eu;exact ih i lD j d' u e1 e2 eu)
   (by rw[hlen];exact tag ht)
  rw[hlen]at key
  exact key
 |agg cells vs hl h1 _ ih=>
  simp only[D.cO,gN]
  refine .agg _ vs (by simpa using hl) h1 (fun i d v e1 e2=>?_)
  simp only[List.getElem?_map,Option.map_eq_some_iff]at e1
  obtain⟨d',e1,rfl⟩:=e1
  exact ih i d' v e1 e2
 |tuple ds vs hl _ ih=>
  simp only[D.cO,gN]
  refine .tuple _ vs (by simpa using hl) (fun i d v e1 e2=>?_)
  simp only[List.getElem?_map,Option.map_eq_some_iff]at e1
  obtain⟨d',e1,rfl⟩:=e1
  exact ih i d' v e1 e2
def lF {α:Type} : List Nat→List α→List α→List α
 | [],new,l=>l++new
 |_::_,[],l=>l
 |o::os,x::xs,l=>lF os xs (l.set o x)
def kR (os:List Nat) (n k:Nat):List Nat:=os++(List.range k).map (n + ·)
theorem zL {α:Type} : ∀ (os:List Nat) (xs l:List α),os.length≤xs.length→(lF os xs l).length=l.length+(xs.length - os.length)
 | [],xs,l,_=>by simp[lF]
 |o::os,[],l,h=>by simp at h
 |o::os,x::xs,l,h=>by
  simp only[lF]
  rw[zL os xs _ (by simpa using h)]
  simp
theorem F2 {α:Type} : ∀ (os:List Nat) (xs l:List α),os.length≤xs.length→os.Nodup→(∀ o∈os,o<l.length)→
 (∀ (i:Nat) (o:Nat),os[i]? = some o→(lF os xs l)[o]? = xs[i]?)∧(∀ o,o<l.length→o∉os→(lF os xs l)[o]? = l[o]?)∧
 (∀ k,(lF os xs l)[l.length+k]? = xs[os.length+k]?)
 | [],xs,l,_,_,_=>by
  refine⟨by simp,fun o ho _=>by simp only[lF];rw[List.getElem?_append_left ho],fun k=>by simp only[lF];rw[List.getElem?_append_right (by omega)];simp⟩
 |o::os,[],l,h,_,_=>by simp at h
 | o::os,x::xs,l,h,hn,hD=>by
  simp only[List.nodup_cons]at hn
  have yO : ∀ q∈os,q<(l.set o x).length:=fun q hq=>by simpa using hD q (by simp[hq])
  obtain⟨h1,h2,h3⟩:=F2 os xs (l.set o x) (by simpa using h) hn.2 yO
  have ho:o<l.length:=hD o (by simp)
  simp only[lF]
  refine⟨fun i q e=>?_,fun q hq J4=>?_,fun k=>?_⟩
  ·cases i with
   |zero=>
    simp only[List.getElem?_cons_zero,Option.some.injEq]at e
    subst e
    rw[h2 o (by simpa using ho) hn.1]
    simp[ho]
   |succ i=>simpa using h1 i q (by simpa using e)
  ·have vH:q≠o:=fun e=>J4 (by simp [e])
   rw[h2 q (by simpa using hq) (fun h=>J4 (by simp[h])),List.getElem?_set_ne (Ne.symm vH)]
  ·have:=h3 k
   simp only[List.length_set]at this
   rw[this]
   simp only[List.length_cons]
   rw[show os.length+1+k=(os.length+k)+1 by omega];simp
theorem Fw (os:List Nat) (n k i:Nat):(kR os n k)[i]? = if i<os.length then os[i]? else if i<os.length+k then some (n+(i - os.length))else none:=by
 unfold kR
 split
 ·rename_i h;rw[List.getElem?_append_left h]
 ·rename_i h
  rw[List.getElem?_append_right (by omega)]
  split
  ·rename_i h2
   rw[List.getElem?_map,List.getElem?_range (by omega)];rfl
  ·rename_i h2
   rw[List.getElem?_eq_none]
   simp;omega
def posOf:List Nat→Nat→Option Nat
 | [],_=>none
 |x::r,o=>if x=o then some 0 else(posOf r o).map (· + 1)
theorem jN : ∀ {l:List Nat} {o i:Nat},posOf l o=some i→l[i]? = some o
 | x::r,o,i,h=>by
  simp only[posOf]at h
  split at h
  ·rename_i e;cases h;simp[e]
  ·cases hp:posOf r o with
   |none=>rw[hp]at h;cases h
   |some j=>rw[hp]at h;cases h;simpa using jN hp
theorem nV : ∀ {l:List Nat} {o i:Nat},l.Nodup→l[i]? = some o→posOf l o=some i
 | x::r,o,i,hn,h=>by
  simp only[List.nodup_cons]at hn
  simp only[posOf]
  cases i with
  |zero=>simp at h;simp[h]
  |succ i=>
   simp at h
   have:x≠o:=fun e=>hn.1 (by rw[e];exact List.mem_of_getElem? h)
   rw[if_neg this,nV hn.2 h];rfl
end
end Go.Abs
namespace Go.Abs
theorem CC {l:List Nat} {n k:Nat} (h:l.Nodup) (hl : ∀ o∈l,o<n):(kR l n k).Nodup:=by
 unfold kR
 rw[List.nodup_append]
 refine⟨h, ?_,fun a ha b hb=>?_⟩
 ·rw [List.nodup_iff_pairwise_ne,List.pairwise_map]
  exact List.Pairwise.imp (fun h=>by omega) (List.nodup_iff_pairwise_ne.1 List.nodup_range)
 ·obtain⟨c,hc,rfl⟩:=List.mem_map.1 hb
  have:=hl a ha
  omega
def gG (M:Map) (os ts:List Nat):Map:=⟨M.G,fun i=>M.loc (os.getD i 0),fun i=>M.be (ts.getD i 0)⟩
def AR (M M0:Map) (os ts:List Nat):Map:=
 ⟨M0.G,fun o=>match posOf os o with|some i=>M0.loc i|none=>M.loc o,fun t=>match posOf ts t with|some i=>M0.be i|none=>M.be t⟩
section
variable {P:Program} {M:Map} {s s0:St} {w:World} {os ts:List Nat}
theorem uK {l:List Nat} {i o:Nat} (h:l[i]? = some o):l.getD i 0=o:=by simp[List.getD,h]
theorem Rel.sub (r:Rel M s w) (ux:os.Nodup) (xD:ts.Nodup) (jB : ∀ o∈os,o<s.aj.length)
 (ho:s0.aj.length=os.length) (qE : ∀ (i o:Nat) (ds:List D),os[i]? = some o→s0.aj[i]? = some ds→s.aj[o]? = some (D.fc os ts ds)∧D.bF os.length ts.length ds=true)
 (ht:s0.az.length=ts.length) (wb : ∀ (i t:Nat),ts[i]? = some t→s0.az[i]? = s.az[t]?):Rel (gG M os ts) s0 w:=by
 have nth : ∀ i,i<s0.aj.length→∃ o,os[i]? = some o∧o<s.aj.length:=fun i hi=>⟨os[i],List.getElem?_eq_getElem (by omega),jB _ (List.getElem_mem _)⟩
 have loc : ∀ (i:Nat) o,os[i]? = some o→(gG M os ts).loc i=M.loc o:=fun i o h=>by simp only[gG,uK h]
 have mu : ∀ (i:Nat) o,os[i]? = some o→(gG M os ts).mu i=M.mu o:=fun i o h=>congrArg Prod.fst (loc i o h)
 have be : ∀ (i:Nat) t,ts[i]? = some t→(gG M os ts).be i=M.be t:=fun i t h=>by simp only[gG,uK h]
 have tth : ∀ t,s0.live t→∃ t',ts[t]? = some t'∧s.live t':=fun t ⟨n,hn⟩=>by
  have hD:=(List.getElem?_eq_some_iff.1 hn).1
  have e:ts[t]? = some ts[t]:=List.getElem?_eq_getElem (by omega)
  exact⟨_,e,n,by rw[← wb t _ e];exact hn⟩
 refine⟨r.comm,fun i ds e=>?_,fun i hi off=>?_,fun i i' hi iH e=>?_,fun t n e=>?_,fun t b c z i hl e hi=>?_,fun t t' b c z c' z' h h' e e'=>?_⟩
 ·obtain⟨o,h1,_⟩:=nth i (List.getElem?_eq_some_iff.1 e).1
  obtain⟨h2,h3⟩:=qE i o ds h1 e
  obtain⟨vs,T,g1,g2,g3,g4⟩:=r.obj o _ h2
  refine⟨vs,T,by rw[loc i o h1];exact g1,by rw[gN]at g2;simpa using g2,⟨g3.1,by rw[show(gG M os ts).ty i=M.ty o from congrArg (fun x=>x.2.ty?) (loc i o h1)];exact g3.2⟩,fun j d v e1 e2=>?_⟩
  exact RD.BD (M:=M) (M0:=gG M os ts) (s:=s) rfl loc ho be wb ht (g4 j (d.cO os ts) v (by rw[gN,List.getElem?_map,e1];rfl) e2) d rfl (xC h3 e1)
 ·obtain⟨o,h1,h2⟩:=nth i hi
  rw[mu i o h1];exact r.km o h2 off
 ·obtain⟨o,h1,h2⟩:=nth i hi
  obtain⟨o',uy,wK⟩:=nth i' iH
  rw[mu i o h1,mu i' o' uy]at e
  have:=r.inj o o' h2 wK e
  subst this
  have a:=nV ux h1
  have b:=nV ux uy
  rw[a]at b;cases b;rfl
 ·obtain⟨t',h1,h2⟩:=tth t ⟨n,e⟩
  rw[be t t' h1]
  exact r.tok t' n (by rw[← wb t t' h1];exact e)
 ·obtain⟨t',h1,h2⟩:=tth t hl
  obtain⟨o,h3,h4⟩:=nth i hi
  rw[be t t' h1]at e
  rw[mu i o h3]
  exact r.fM t' b c z o h2 e h4
 ·obtain⟨q,h1,h2⟩:=tth t h
  obtain⟨q',uy,wK⟩:=tth t' h'
  rw[be t q h1]at e
  rw[be t' q' uy]at e'
  have:=r.gQ q q' b c z c' z' h2 wK e e'
  subst this
  have a:=nV xD h1
  have b:=nV xD uy
  rw[a]at b;cases b;rfl
end
def St.back (s:St) (os ts:List Nat) (s':St):St:=
 ⟨lF os (s'.aj.map (D.fc (kR os s.aj.length (s'.aj.length - os.length)) (kR ts s.az.length (s'.az.length - ts.length)))) s.aj,lF ts s'.az s.az⟩
def D.back (s:St) (os ts:List Nat) (s':St) (d:D):D:=
 d.cO (kR os s.aj.length (s'.aj.length - os.length)) (kR ts s.az.length (s'.az.length - ts.length))
theorem bS.frame {P:Program} {f:FuncId} {RP args:List D} {s s0:St} {Q0 Q:D→St→Prop} (os ts:List Nat) (h:bS P f RP s0 Q0) (ux:os.Nodup) (xD:ts.Nodup) (jB : ∀ o∈os,o<s.aj.length) (wI : ∀ t∈ts,t<s.az.length)
 (ho:s0.aj.length=os.length) (qE : ∀ (i o:Nat) (ds:List D),os[i]? = some o→s0.aj[i]? = some ds→s.aj[o]? = some (D.fc os ts ds)∧D.bF os.length ts.length ds=true)
 (ht:s0.az.length=ts.length) (wb : ∀ (i t:Nat),ts[i]? = some t→s0.az[i]? = s.az[t]?)
 (BE:args=D.fc os ts RP) (nU:D.bF os.length ts.length RP=true) (k : ∀ d s',Q0 d s'→Q (d.back s os ts s') (s.back os ts s')):bS P f args s Q:=by
 intro M w gw r kX dL ha
 have r0:=r.sub ux xD jB ho qE ht wb
 have loc : ∀ (i:Nat) o,os[i]? = some o→(gG M os ts).loc i=M.loc o:=fun i o h=>by simp only[gG,uK h]
 have mu : ∀ (i:Nat) o,os[i]? = some o→(gG M os ts).mu i=M.mu o:=fun i o h=>congrArg Prod.fst (loc i o h)
 have be : ∀ (i:Nat) t,ts[i]? = some t→(gG M os ts).be i=M.be t:=fun i t h=>by simp only[gG,uK h]
 subst BE
 have aga:Laid (gG M os ts) s0 w:=by
  intro g cs hg
  obtain⟨h1,h2,h3⟩:=kX g cs hg
  refine⟨h1,fun o hD=>?_,fun t c z hl hb=>?_⟩
  ·obtain⟨o',po⟩ : ∃ o',os[o]? = some o':=⟨_,List.getElem?_eq_getElem (by omega)⟩
   rw[mu o o' po]
   exact h2 o' (jB o' (List.mem_of_getElem? po))
  ·obtain⟨n,hn⟩:=hl
   have hD:=(List.getElem?_eq_some_iff.1 hn).1
   obtain⟨t',CD⟩ : ∃ t',ts[t]? = some t':=⟨_,List.getElem?_eq_getElem (by omega)⟩
   rw[be t t' CD]at hb
   exact h3 t' c z ⟨n,by rw[← wb t t' CD];exact hn⟩ hb
 have hc:=h (gG M os ts) w gw r0 aga (by rw[dL,gN,List.length_map]) (fun i d v e1 e2=>
  RD.BD (M:=M) (M0:=gG M os ts) (s:=s) rfl loc ho be wb ht (ha i (d.cO os ts) v (by rw[gN,List.getElem?_map,e1];rfl) e2) d rfl (xC nU e1))
 refine hc.mono ?_
 rintro en w' ⟨AS,d,v,s',rfl,hq,e,r',hv⟩
 have Mg:=e.le.n
 have G5:=e.le.t
 generalize RQ:kR os s.aj.length (s'.aj.length - os.length)=nC
 generalize RR:kR ts s.az.length (s'.az.length - ts.length)=qF
 have nd:nC.Nodup:=by rw[← RQ];exact CC ux jB
 have ndt:qF.Nodup:=by rw[← RR];exact CC xD wI
 have RS : ∀ i,nC[i]? = if i<os.length then os[i]? else if i<s'.aj.length then some (s.aj.length+(i - os.length))else none:=fun i=>by
  rw[← RQ,Fw];split
  ·rfl
  ·rw[show os.length+(s'.aj.length - os.length)=s'.aj.length by omega]
 have RT : ∀ i,qF[i]? = if i<ts.length then ts[i]? else if i<s'.az.length then some (s.az.length+(i - ts.length))else none:=fun i=>by
  rw[← RR,Fw];split
  ·rfl
  ·rw[show ts.length+(s'.az.length - ts.length)=s'.az.length by omega]
 have hsb:s.back os ts s' = ⟨lF os (s'.aj.map (D.fc nC qF)) s.aj,lF ts s'.az s.az⟩:=by simp only[St.back,RQ,RR]
 have hdb:d.back s os ts s'=d.cO nC qF:=by simp only[D.back,RQ,RR]
 have lq:=k d s' hq
 rw[hsb,hdb]at lq
 obtain⟨p1,p2,p3⟩:=F2 os (s'.aj.map (D.fc nC qF)) s.aj (by simp;omega) ux jB
 obtain⟨q1,q2,q3⟩:=F2 ts s'.az s.az (by omega) xD wI
 have Mn:=zL os (s'.aj.map (D.fc nC qF)) s.aj (by simp;omega)
 have Mp:=zL ts s'.az s.az (by omega)
 simp only[List.length_map]at Mn
 generalize Cy:(⟨lF os (s'.aj.map (D.fc nC qF)) s.aj,lF ts s'.az s.az⟩:St)=s2 at lq
 have so:s2.aj=lF os (s'.aj.map (D.fc nC qF)) s.aj:=by rw[← Cy]
 have st:s2.az=lF ts s'.az s.az:=by rw[← Cy]
 -- the framed objects
 have fo : ∀ (i o:Nat),nC[i]? = some o→o<s2.aj.length∧s2.aj[o]? = (s'.aj[i]?).map (D.fc nC qF)∧i<s'.aj.length∧(i<os.length→o<s.aj.length∧os[i]? = some o)∧(os.length≤i→s.aj.length≤o):=by
  intro i o hi
  rw[RS]at hi
  split at hi
  ·rename_i h1
   have hD:=jB o (List.mem_of_getElem? hi)
   refine⟨by rw[so,Mn];omega,by rw[so,p1 i o hi,List.getElem?_map],by omega,fun _=>⟨hD,hi⟩,fun h=>by omega⟩
  ·split at hi
   ·rename_i h1 h2
    cases hi
    refine⟨by rw[so,Mn];omega, ?_,h2,fun h=>by omega,fun _=>by omega⟩
    rw[so,p3,List.getElem?_map,show os.length+(i - os.length)=i by omega]
   ·cases hi
 have ft : ∀ (i t:Nat),qF[i]? = some t→t<s2.az.length∧s2.az[t]? = s'.az[i]? ∧i<s'.az.length∧(i<ts.length→t<s.az.length∧ts[i]? = some t)∧(ts.length≤i→s.az.length≤t):=by
  intro i t hi
  rw[RT]at hi
  split at hi
  ·rename_i h1
   have hD:=wI t (List.mem_of_getElem? hi)
   refine⟨by rw[st,Mp];omega,by rw[st,q1 i t hi],by omega,fun _=>⟨hD,hi⟩,fun h=>by omega⟩
  ·split at hi
   ·rename_i h1 h2
    cases hi
    refine⟨by rw[st,Mp];omega, ?_,h2,fun h=>by omega,fun _=>by omega⟩
    rw[st,q3,show ts.length+(i - ts.length)=i by omega]
   ·cases hi
 -- all others
 have uo : ∀ o,o<s2.aj.length→posOf nC o=none→o<s.aj.length∧o∉os∧s2.aj[o]? = s.aj[o]? :=by
  intro o hD hp
  have pH : ∀ i,nC[i]? ≠some o:=fun i hi=>by rw[nV nd hi]at hp;cases hp
  have h1:o<s.aj.length:=by
   rcases Nat.lt_or_ge o s.aj.length with h|h
   ·exact h
   ·exfalso
    rw[so,Mn]at hD
    refine pH (os.length+(o - s.aj.length)) ?_
    rw[RS,if_neg (by omega),if_pos (by omega)]
    congr 1;omega
  have h2:o∉os:=fun hm=>by
   obtain⟨i,hi⟩:=List.mem_iff_getElem?.1 hm
   have qH:=(List.getElem?_eq_some_iff.1 hi).1
   exact pH i (by rw[RS,if_pos qH];exact hi)
  exact⟨h1,h2,by rw[so,p2 o h1 h2]⟩
 have ut : ∀ t,t<s2.az.length→posOf qF t=none→t<s.az.length∧t∉ts∧s2.az[t]? = s.az[t]? :=by
  intro t hD hp
  have pH : ∀ i,qF[i]? ≠some t:=fun i hi=>by rw[nV ndt hi]at hp;cases hp
  have h1:t<s.az.length:=by
   rcases Nat.lt_or_ge t s.az.length with h|h
   ·exact h
   ·exfalso
    rw[st,Mp]at hD
    refine pH (ts.length+(t - s.az.length)) ?_
    rw[RT,if_neg (by omega),if_pos (by omega)]
    congr 1;omega
  have h2:t∉ts:=fun hm=>by
   obtain⟨i,hi⟩:=List.mem_iff_getElem?.1 hm
   have qH:=(List.getElem?_eq_some_iff.1 hi).1
   exact pH i (by rw[RT,if_pos qH];exact hi)
  exact⟨h1,h2,by rw[st,q2 t h1 h2]⟩
 generalize Vp:AR M AS nC qF=M2
 have mG:AS.G=M2.G:=by rw[← Vp];rfl
 have lo : ∀ (i o:Nat),nC[i]? = some o→M2.loc o=AS.loc i:=fun i o hi=>by rw[← Vp];simp only[AR,nV nd hi]
 have lo0 : ∀ o,posOf nC o=none→M2.loc o=M.loc o:=fun o hp=>by rw[← Vp];simp only[AR,hp]
 have mo : ∀ (i o:Nat),nC[i]? = some o→M2.mu o=AS.mu i:=fun i o hi=>congrArg Prod.fst (lo i o hi)
 have Mq : ∀ o,posOf nC o=none→M2.mu o=M.mu o:=fun o hp=>congrArg Prod.fst (lo0 o hp)
 have mt : ∀ (i t:Nat),qF[i]? = some t→M2.be t=AS.be i:=fun i t hi=>by rw[← Vp];simp only[AR,nV ndt hi]
 have Mr : ∀ t,posOf qF t=none→M2.be t=M.be t:=fun t hp=>by rw[← Vp];simp only[AR,hp]
 have le:Le M s M2 s2:=by
  refine⟨fun b o v hg=>by rw[← mG];exact e.le.G b o v hg,by rw[so,Mn];omega,fun o hD=>?_,by rw[st,Mp];omega,fun t n' hD rr=>?_⟩
  ·cases hp:posOf nC o with
   |none=>rw[lo0 o hp];exact .refl _
   | some i=>
    have hi:=jN hp
    rw[lo i o hi]
    obtain⟨_,_,_,h1,h2⟩:=fo i o hi
    have qH:i<os.length:=by
     rcases Nat.lt_or_ge i os.length with h|h
     ·exact h
     ·have:=h2 h;omega
    have h3:=e.le.loc i (by omega)
    rw[loc i o (h1 qH).2]at h3
    exact h3
  ·cases hp:posOf qF t with
   |none=>
    obtain⟨_,_,h3⟩:=ut t (by rw[st,Mp];omega) hp
    rw[h3]at rr
    exact⟨n',rr,Nat.le_refl _,fun _=>Mr t hp⟩
   | some i=>
    have hi:=jN hp
    obtain⟨_,g1,_,h1,h2⟩:=ft i t hi
    have qH:i<ts.length:=by
     rcases Nat.lt_or_ge i ts.length with h|h
     ·exact h
     ·have:=h2 h;omega
    rw[g1]at rr
    obtain⟨n,h3,h4,h5⟩:=e.le.tk i n' (by omega) rr
    refine⟨n,by rw[← wb i t (h1 qH).2];exact h3,h4,fun eq=>?_⟩
    rw[mt i t hi,h5 eq,be i t (h1 qH).2]
 have agb : ∀ {d:D} {v:Value},RD AS s' d v→RD M2 s2 (d.cO nC qF) v:=fun hd=>RD.cO mG
  (fun i hi=>by
   obtain⟨o,ho⟩ : ∃ o,nC[i]? = some o:=by
    rw[RS];split
    ·rename_i h1;exact⟨_,List.getElem?_eq_getElem h1⟩
    ·exact⟨_,rfl⟩
   exact⟨o,ho,(fo i o ho).1,lo i o ho⟩)
  (fun i hi=>by
   obtain⟨t,ht⟩ : ∃ t,qF[i]? = some t:=by
    rw[RT];split
    ·rename_i h1;exact⟨_,List.getElem?_eq_getElem h1⟩
    ·exact⟨_,rfl⟩
   exact⟨t,ht,(ft i t ht).1,(ft i t ht).2.1,mt i t ht⟩) hd
 -- blocks that the callee did not know
 have LB : ∀ i,s0.live i→∃ t,ts[i]? = some t∧s.live t:=fun i ⟨n,hn⟩=>by
  have hD:=(List.getElem?_eq_some_iff.1 hn).1
  have e1:ts[i]? = some ts[i]:=List.getElem?_eq_getElem (by omega)
  exact⟨_,e1,n,by rw[← wb i _ e1];exact hn⟩
 have RU : ∀ b,b<w.heap.size→(∀ (i o:Nat),os[i]? = some o→M.mu o≠b)→(∀ (i t:Nat) c z,ts[i]? = some t→s.live t→M.be t≠some (b,c,z))→
  w'.heap[b]? = w.heap[b]? ∧∀ off,AS.G b off=M.G b off:=by
  intro b hb h1 h2
  refine⟨e.kept b hb (fun i hi=>?_) (fun i c z hl=>?_),fun off=>?_⟩
  ·have e1:os[i]? = some os[i]:=List.getElem?_eq_getElem (by omega)
   rw[mu i _ e1];exact h1 i _ e1
  ·obtain⟨t,e1,hD⟩:=LB i hl
   rw[be i t e1];exact h2 i t c z e1 hD
  ·apply Classical.byContradiction
   intro fu
   rcases e.sq b off fu with h3|⟨i,c,z,hl,h3⟩
   ·omega
   ·obtain⟨t,e1,hD⟩:=LB i hl
    rw[be i t e1]at h3
    exact h2 i t c z e1 hD h3
 have abz : ∀ o,o<s.aj.length→o∉os→w'.heap[M.mu o]? = w.heap[M.mu o]? ∧∀ off,AS.G (M.mu o) off=M.G (M.mu o) off:=fun o hD pH=>
  RU _ (r.sb hD) (fun i o' h1 h2=>pH (by rw[← r.inj o' o (jB o' (List.mem_of_getElem? h1)) hD h2];exact List.mem_of_getElem? h1))
   (fun i t c z _ hl h2=>r.fM t _ c z o hl h2 hD rfl)
 have akx : ∀ t b c z,s.live t→t∉ts→M.be t=some (b,c,z)→w'.heap[b]? = w.heap[b]? ∧∀ off,AS.G b off=M.G b off:=fun t b c z hl pH hb=>
  RU b (r.u9 hl hb) (fun i o h1=>r.fM t b c z o hl hb (jB o (List.mem_of_getElem? h1)))
   (fun i t' c' z' h1 mZ h2=>pH (by rw[r.gQ t t' b c z c' z' hl mZ hb h2];exact List.mem_of_getElem? h1))
 have lv : ∀ t,s2.live t→(∃ i,qF[i]? = some t∧s'.live i)∨(posOf qF t=none∧s.live t∧t∉ts):=by
  rintro t ⟨n,hn⟩
  cases hp:posOf qF t with
  |none=>
   obtain⟨h1,h2,h3⟩:=ut t (List.getElem?_eq_some_iff.1 hn).1 hp
   exact .inr ⟨rfl,⟨n,by rw[← h3];exact hn⟩,h2⟩
  |some i=>
   have hi:=jN hp
   exact .inl ⟨i,hi,n,by rw[← (ft i t hi).2.1];exact hn⟩
 -- where a framed object lies
 have muc : ∀ (i o:Nat),nC[i]? = some o→(o<s.aj.length∧o∈os∧AS.mu i=M.mu o)∨w.heap.size≤AS.mu i:=by
  intro i o hi
  obtain⟨_,_,h1,h2,h3⟩:=fo i o hi
  rcases e.mo h1 with ⟨h4,h5⟩|h4
  ·have h:i<os.length:=by omega
   exact .inl ⟨(h2 h).1,List.mem_of_getElem? (h2 h).2,by rw[h5,mu i o (h2 h).2]⟩
  ·exact .inr h4
 have bec : ∀ (i t b c z:Nat),qF[i]? = some t→s'.live i→AS.be i=some (b,c,z)→(s.live t∧t∈ts∧∃ c' z',M.be t=some (b,c',z'))∨w.heap.size≤b:=by
  intro i t b c z hi hl hb
  rcases e.rD i b c z hl hb with ⟨h1,c',z',h2⟩|h1
  ·obtain⟨t',e1,hD⟩:=LB i h1
   have qH:=(List.getElem?_eq_some_iff.1 e1).1
   obtain⟨_,_,_,h3,_⟩:=ft i t hi
   have:=(h3 qH).2
   rw[e1]at this;cases this
   rw[be i _ e1]at h2
   exact .inl ⟨hD,List.mem_of_getElem? e1,c',z',h2⟩
  ·exact .inr h1
 refine⟨M2,d.cO nC qF,v,s2,rfl,lq, ?_, ?_,agb hv⟩
 ·-- Ext
  refine⟨le,fun b hb h1 h2=>?_,fun o h1 h2=>?_,fun t b c z hl hb=>?_,fun b off fu=>?_,e.size,e.os,e.tape,e.output⟩
  ·exact(RU b hb (fun i o h3=>h1 o (jB o (List.mem_of_getElem? h3))) (fun i t c z _ hl=>h2 t c z hl)).1
  ·cases hp:posOf nC o with
   |none=>
    have:=(uo o h2 hp).1
    rcases h1 with h1|h1
    ·omega
    ·exact(h1 (Mq o hp)).elim
   | some i=>
    have hi:=jN hp
    rw[mo i o hi]at h1 ⊢
    rcases muc i o hi with ⟨h3,_,h5⟩|h3
    ·rcases h1 with h1 | h1
     ·omega
     ·exact(h1 h5).elim
    ·exact h3
  ·rcases lv t hl with ⟨i,hi,mZ⟩ | ⟨hp,mZ,_⟩
   ·rw [mt i t hi]at hb
    rcases bec i t b c z hi mZ hb with ⟨h1,_,h2⟩|h1
    ·exact .inl ⟨h1,h2⟩
    ·exact .inr h1
   ·rw [Mr t hp]at hb
    exact .inl ⟨mZ,c,z,hb⟩
  ·rw [← mG]at fu
   rcases e.sq b off fu with h1|⟨i,c,z,hl,hb⟩
   ·exact .inl h1
   ·obtain⟨t,e1,hD⟩:=LB i hl
    rw[be i t e1]at hb
    exact .inr ⟨t,c,z,hD,hb⟩
 ·-- Rel
  refine⟨fun b o v hg=>r'.comm b o v (by rw[mG];exact hg),fun o ds DB=>?_,fun o hD off=>?_,fun o o' hD yO heq=>?_,fun t n hn=>?_,fun t b c z o hl hb hD=>?_,fun t t' b c z c' z' hl mZ hb uu=>?_⟩
  ·cases hp:posOf nC o with
   |some i=>
    have hi:=jN hp
    obtain⟨_,g1,_⟩:=fo i o hi
    rw[g1]at DB
    obtain⟨pk,h1,rfl⟩:=Option.map_eq_some_iff.1 DB
    obtain⟨vs,T,h2,h3,h4,h5⟩:=r'.obj i pk h1
    refine⟨vs,T,by rw[lo i o hi];exact h2,by rw[gN];simpa using h3,⟨h4.1,by rw[show M2.ty o=AS.ty i from congrArg (fun x=>x.2.ty?) (lo i o hi)];exact h4.2⟩,fun j d v e1 e2=>?_⟩
    rw[gN]at e1
    simp only[List.getElem?_map,Option.map_eq_some_iff]at e1
    obtain⟨d',e1,rfl⟩:=e1
    exact agb (h5 j d' v e1 e2)
   |none=>
    obtain⟨h1,h2,h3⟩:=uo o (List.getElem?_eq_some_iff.1 DB).1 hp
    rw[h3]at DB
    obtain⟨vs,T,g1,g2,g3,g4⟩:=r.obj o ds DB
    exact⟨vs,T,by rw[lo0 o hp];exact g1.keep (abz o h1 h2).1,g2,⟨g3.1,by rw[show M2.ty o=M.ty o from congrArg (fun x=>x.2.ty?) (lo0 o hp)];exact g3.2⟩,fun j d v e1 e2=>(g4 j d v e1 e2).mono le⟩
  ·cases hp:posOf nC o with
   |some i=>
    have hi:=jN hp
    rw[mo i o hi, ← mG];exact r'.km i (fo i o hi).2.2.1 off
   |none=>
    obtain⟨h1,h2,h3⟩:=uo o hD hp
    rw[Mq o hp, ← mG,(abz o h1 h2).2 off];exact r.km o h1 off
  ·cases hp:posOf nC o with
   | some i=>
    have hi:=jN hp
    rw[mo i o hi]at heq
    cases oA:posOf nC o' with
    |some i'=>
     have iH:=jN oA
     rw[mo i' o' iH]at heq
     have:=r'.inj i i' (fo i o hi).2.2.1 (fo i' o' iH).2.2.1 heq
     subst this
     rw[hi]at iH;cases iH;rfl
    | none=>
     obtain⟨h1,h2,_⟩:=uo o' yO oA
     rw[Mq o' oA]at heq
     rcases muc i o hi with ⟨h3,h4,h5⟩|h3
     ·rw [h5]at heq
      have:=r.inj o o' h3 h1 heq
      subst this;exact(h2 h4).elim
     ·have:=r.sb h1;omega
   | none=>
    obtain⟨h1,h2,_⟩:=uo o hD hp
    rw[Mq o hp]at heq
    cases oA:posOf nC o' with
    | some i'=>
     have iH:=jN oA
     rw[mo i' o' iH]at heq
     rcases muc i' o' iH with ⟨h3,h4,h5⟩|h3
     ·rw [h5]at heq
      have:=r.inj o o' h1 h3 heq
      subst this;exact(h2 h4).elim
     ·have:=r.sb h1;omega
    |none=>
     obtain⟨uy,_,_⟩:=uo o' yO oA
     rw[Mq o' oA]at heq
     exact r.inj o o' h1 uy heq
  ·rcases lv t ⟨n,hn⟩with ⟨i,hi,hl⟩ | ⟨hp,hl,pH⟩
   ·rw [mt i t hi, ← mG]
    exact r'.tok i n (by rw[← (ft i t hi).2.1];exact hn)
   ·obtain⟨_,_,h3⟩:=ut t (List.getElem?_eq_some_iff.1 hn).1 hp
    rw[h3]at hn
    rw[Mr t hp]
    rcases r.tok t n hn with h4|⟨b,cap,size,vs,T,g1,g2,g3,g4,g5⟩
    ·exact .inl h4
    ·obtain⟨k1,k2⟩:=akx t b cap size hl pH g1
     exact .inr ⟨b,cap,size,vs,T,g1,by rw[k1];exact g2,g3,g4,fun off ho=>by rw[← mG,k2 off];exact g5.1 off ho,g5.2⟩
  ·rcases lv t hl with ⟨i,hi,mZ⟩ | ⟨hp,mZ,pH⟩
   ·rw [mt i t hi]at hb
    cases Ms:posOf nC o with
    |some j=>
     have hj:=jN Ms
     rw[mo j o hj]
     exact r'.fM i b c z j mZ hb (fo j o hj).2.2.1
    |none=>
     obtain⟨h1,h2,_⟩:=uo o hD Ms
     rw[Mq o Ms]
     rcases bec i t b c z hi mZ hb with ⟨h3,_,c',z',h4⟩|h3
     ·exact r.fM t b c' z' o h3 h4 h1
     ·have:=r.sb h1;omega
   ·rw [Mr t hp]at hb
    cases Ms:posOf nC o with
    |some j=>
     have hj:=jN Ms
     rw[mo j o hj]
     rcases muc j o hj with ⟨h3,_,h5⟩|h3
     ·rw[h5];exact r.fM t b c z o mZ hb h3
     ·have:=r.u9 mZ hb;omega
    |none=>
     obtain⟨h1,_,_⟩:=uo o hD Ms
     rw[Mq o Ms];exact r.fM t b c z o mZ hb h1
  ·rcases lv t hl with ⟨i,hi,CF⟩ | ⟨hp,hD,pH⟩
   ·rw [mt i t hi]at hb
    rcases lv t' mZ with ⟨i',iH,Yt⟩|⟨oA,yO,abC⟩
    ·rw [mt i' t' iH]at uu
     have:=r'.gQ i i' b c z c' z' CF Yt hb uu
     subst this
     rw[hi]at iH;cases iH;rfl
    ·rw [Mr t' oA]at uu
     rcases bec i t b c z hi CF hb with ⟨h3,h4,c2,z2,h5⟩|h3
     ·have:=r.gQ t t' b c2 z2 c' z' h3 yO h5 uu
      subst this;exact(abC h4).elim
     ·have:=r.u9 yO uu;omega
   ·rw [Mr t hp]at hb
    rcases lv t' mZ with ⟨i',iH,Yt⟩|⟨oA,yO,abC⟩
    ·rw [mt i' t' iH]at uu
     rcases bec i' t' b c' z' iH Yt uu with ⟨h3,h4,c2,z2,h5⟩|h3
     ·have:=r.gQ t t' b c z c2 z2 hD h3 hb h5
      subst this;exact(pH h4).elim
     ·have:=r.u9 hD hb;omega
    ·rw [Mr t' oA]at uu
     exact r.gQ t t' b c z c' z' hD yO hb uu
end Go.Abs
namespace Go.Abs
def Wk (d d':D):Prop:=∀ (M:Map) (s:St) (v:Value),RD M s d v→RD M s d' v
inductive kv:List D→List D→Prop where
 |nil:kv [] []
 |cons {d d':D} {l l':List D} (h:Wk d d') (t:kv l l'):kv (d::l) (d'::l')
inductive iu:List (List D)→List (List D)→Prop where
 |nil:iu [] []
 |cons {r r':List D} {l l':List (List D)} (h:kv r r') (t:iu l l'):iu (r::l) (r'::l')
theorem Wk.refl (d:D):Wk d d:=fun _ _ _ h=>h
theorem Wk.trans {a b c:D} (h:Wk a b) (k:Wk b c):Wk a c:=fun M s v r=>k M s v (h M s v r)
theorem Wk.junk (d:D):Wk d .junk:=fun _ _ v _=> .junk v
theorem kv.refl : ∀ l,kv l l
 | []=> .nil
 |d::l=> .cons (Wk.refl d) (kv.refl l)
theorem iu.refl : ∀ l,iu l l
 | []=> .nil
 |d::l=> .cons (kv.refl d) (iu.refl l)
theorem kv.len {l l':List D} (h:kv l l'):l.length=l'.length:=by
 induction h with
 |nil=>rfl
 |cons _ _ ih=>simp[ih]
theorem iu.len {l l':List (List D)} (h:iu l l'):l.length=l'.length:=by
 induction h with
 |nil=>rfl
 |cons _ _ ih=>simp[ih]
theorem kv.get {l l':List D} (h:kv l l') : ∀ {i:Nat} {d':D},l'[i]? = some d'→∃ d,l[i]? = some d∧Wk d d':=by
 induction h with
 |nil=>intro i d' e;simp at e
 |cons hd _ ih=>
  intro i d' e
  cases i with
  |zero=>simp at e;subst e;exact⟨_,rfl,hd⟩
  |succ i=>simp at e;simpa using ih e
theorem iu.get {l l':List (List D)} (h:iu l l') : ∀ {i:Nat} {d':List D},l'[i]? = some d'→∃ d,l[i]? = some d∧kv d d':=by
 induction h with
 |nil=>intro i d' e;simp at e
 |cons hd _ ih=>
  intro i d' e
  cases i with
  |zero=>simp at e;subst e;exact⟨_,rfl,hd⟩
  |succ i=>simp at e;simpa using ih e
theorem kv.append {a a' b b':List D} (h:kv a a') (k:kv b b'):kv (a++b) (a'++b'):=by
 induction h with
 |nil=>exact k
 |cons hd _ ih=>exact .cons hd ih
theorem iu.append {a a' b b':List (List D)} (h:iu a a') (k:iu b b'):iu (a++b) (a'++b'):=by
 induction h with
 |nil=>exact k
 |cons hd _ ih=>exact .cons hd ih
theorem Wk.agg {l l':List D} (h:kv l l'):Wk (.agg l) (.agg l'):=by
 intro M s v r
 cases r with
 |agg _ vs hl h1 hr=>
  refine .agg _ vs (by rw[← hl,h.len]) h1 fun i d' u e e2=>?_
  obtain⟨d,e1,hw⟩:=h.get e
  exact hw M s u (hr i d u e1 e2)
theorem Wk.tuple {l l':List D} (h:kv l l'):Wk (.tuple l) (.tuple l'):=by
 intro M s v r
 cases r with
 |tuple _ vs hl hr=>
  refine .tuple _ vs (by rw[← hl,h.len]) fun i d' u e e2=>?_
  obtain⟨d,e1,hw⟩:=h.get e
  exact hw M s u (hr i d u e1 e2)
theorem Wk.rows {g:Tag} {z:Nat} {l l':List (List D)} (h:iu l l'):Wk (.slice g z l) (.slice g z l'):=by
 intro M s v r
 cases r with
 |jH _ _ cap hc ht=>cases h;exact .jH _ _ _ hc ht
 |mX _ a cap=>cases h;exact .mX _ a cap
 | slice _ _ _ b k cap hl hs h1 h2 ht=>
  rw[h.len]
  refine .slice g z l' b k cap (by rw[← h.len];exact hl) (fun row hm=>?_) (fun i row j d e e2=>?_) (fun i row j d u e e2 eu=>?_) (by rw[← h.len];exact ht)
  ·obtain⟨i,hi,he⟩:=List.mem_iff_getElem.1 hm
   obtain⟨r0,g1,g2⟩:=h.get (i:=i) (by rw[List.getElem?_eq_getElem hi,he])
   rw[← g2.len];exact hs r0 (List.mem_of_getElem? g1)
  ·obtain⟨r0,g1,g2⟩:=h.get e
   obtain⟨d0,g3,_⟩:=g2.get e2
   exact h1 i r0 j d0 g1 g3
  ·obtain⟨r0,g1,g2⟩:=h.get e
   obtain⟨d0,g3,g4⟩:=g2.get e2
   exact g4 M s u (h2 i r0 j d0 u g1 g3 eu)
theorem Wk.shared (g:Tag) (z:Nat) (l:List (List D)):Wk (.slice g z l) (.slice .shared z l):=by
 intro M s v r
 cases r with
 |jH _ _ cap hc ht=>exact .jH _ _ _ hc trivial
 |mX _ a cap=>exact .mX _ a cap
 |slice _ _ _ b k cap hl hs h1 h2 ht=>exact .slice _ _ _ b k cap hl hs h1 h2 trivial
theorem Wk.slice {g:Tag} {z:Nat} {l l':List (List D)} (h:iu l l'):Wk (.slice g z l) (.slice .shared z l'):=(Wk.shared g z l).trans (Wk.rows h)
theorem Wk.nil (g:Tag) (z z':Nat):Wk (.slice g z []) (.slice .shared z' []):=by
 intro M s v r
 cases r with
 |jH _ _ cap hc ht=>exact .jH _ _ _ hc trivial
 |mX _ a cap=>exact .mX _ a cap
 |slice _ _ _ b k cap hl hs h1 h2 ht=>exact .slice _ _ [] b k cap hl (by simp) (by simp) (by simp) trivial
theorem Wk.ao8 (z z':Nat):Wk (.slice .full z []) (.slice .full z' []):=by
 intro M s v r
 cases r with
 |jH _ _ cap hc ht=>exact .jH _ _ _ hc ht
 |slice _ _ _ b k cap hl hs h1 h2 ht=>exact .slice _ _ [] b k cap hl (by simp) (by simp) (by simp) ht
theorem Rel.sy {M:Map} {s:St} {w:World} {aj:List (List D)} (r:Rel M s w) (h:iu s.aj aj):Rel M ⟨aj,s.az⟩ w∧Le M s M ⟨aj,s.az⟩:=by
 have le:Le M s M ⟨aj,s.az⟩:=⟨fun _ _ _ h=>h,Nat.le_of_eq h.len,fun _ _=> .refl _,Nat.le_refl _,fun t n' _ e=>⟨n',e,Nat.le_refl _,fun _=>rfl⟩⟩
 have hl:=h.len
 refine⟨⟨r.comm,fun o ds e=>?_,fun o ho=>r.km o (by rw[hl];exact ho),fun o o' ho po=>r.inj o o' (by rw[hl];exact ho) (by rw[hl];exact po),r.tok,
  fun t b c z o hv e ho=>r.fM t b c z o hv e (by rw[hl];exact ho),r.gQ⟩,le⟩
 obtain⟨Mt,g1,g2⟩:=h.get e
 obtain⟨vs,T,h1,h2,h3,h4⟩:=r.obj o Mt g1
 refine⟨vs,T,h1,by rw[h2,g2.len],h3,fun i d v e1 e2=>?_⟩
 obtain⟨d0,k1,k2⟩:=g2.get e1
 exact(k2 _ _ _ (h4 i d0 v k1 e2)).mono le
theorem Rel.blank {M:Map} {s:St} {w:World} (r:Rel M s w) :
 Rel (M.fN s.az.length none) {s with az:=s.az++ [some 0]} w∧Le M s (M.fN s.az.length none) {s with az:=s.az++ [some 0]}:=by
 have jz : ∀ t,St.live {s with az:=s.az++ [some 0]} t→s.live t∨t=s.az.length:=by
  rintro t ⟨k,hk⟩
  rcases Nat.lt_or_ge t s.az.length with h|h
  ·rw[List.getElem?_append_left h]at hk;exact .inl ⟨k,hk⟩
  ·have:=(List.getElem?_eq_some_iff.1 hk).1
   simp at this;exact .inr (by omega)
 have hD : ∀ t,s.live t→t<s.az.length:=fun t ⟨k,hk⟩=>(List.getElem?_eq_some_iff.1 hk).1
 have hold : ∀ t,t<s.az.length→(M.fN s.az.length none).be t=M.be t:=fun t h=>by simp[Map.fN];omega
 have dw:(M.fN s.az.length none).be s.az.length=none:=by simp[Map.fN]
 have le:Le M s (M.fN s.az.length none) {s with az:=s.az++ [some 0]}:=
  ⟨fun _ _ _ h=>h,Nat.le_refl _,fun _ _=> .refl _,by simp,fun t k h e=>by
   rw[List.getElem?_append_left h]at e
   exact⟨k,e,Nat.le_refl _,fun _=>hold t h⟩⟩
 refine⟨⟨r.comm,fun o ds e=>?_,r.km,r.inj,fun t k e=>?_,fun t b' c z o hl e po=>?_,fun t t' b' c z c' z' h h' e e'=>?_⟩,le⟩
 ·obtain⟨gv,T',h3,h4,h5,h6⟩:=r.obj o ds e
  exact⟨gv,T',h3,h4,h5,fun i d v e1 e2=>(h6 i d v e1 e2).mono le⟩
 ·rcases Nat.lt_or_ge t s.az.length with h | h
  ·rw [List.getElem?_append_left h]at e
   rw[hold t h];exact r.tok t k e
  ·have:=(List.getElem?_eq_some_iff.1 e).1
   simp at this
   have:t=s.az.length:=by omega
   subst this
   simp at e;subst e
   exact .inl ⟨dw,rfl⟩
 ·rcases jz t hl with h | h
  ·rw[hold t (hD t h)]at e;exact r.fM t b' c z o h e po
  ·subst h;rw[dw]at e;cases e
 ·rcases jz t h with h | h <;> rcases jz t' h' with h' | h'
  ·rw[hold t (hD t h)]at e;rw[hold t' (hD t' h')]at e';exact r.gQ t t' b' c z c' z' h h' e e'
  ·subst h';rw[dw]at e';cases e'
  ·subst h;rw[dw]at e;cases e
  ·omega
theorem RD.own {M:Map} {s:St} {z z':Nat} {v:Value} (h:RD M s (.slice .full z []) v):RD (M.fN s.az.length none) {s with az:=s.az++ [some 0]} (.slice (.tok s.az.length) z' []) v:=by
 have key : ∀ base:Option (Nat×Nat),jL (M.fN s.az.length none) {s with az:=s.az++ [some 0]} (.tok s.az.length) z' 0 base 0:=by
  intro base
  refine⟨by simp,fun n e=>?_⟩
  simp at e
  subst e
  exact⟨Nat.le_refl _,fun _=> .inl ⟨by simp[Map.fN],rfl,fun h=>by cases h⟩⟩
 cases h with
 |jH _ _ cap hc ht=>subst hc;exact .jH _ _ _ rfl (key none)
 |slice _ _ _ b k cap hl hs h1 h2 ht=>
  have:cap=0:=ht
  subst this
  exact .slice _ _ [] b k 0 (Nat.le_refl _) (by simp) (by simp) (by simp) (key _)
section
variable {P:Program} {B:ic} {nt:Nat} {Q:Exit→Tm→St→Prop} {tm:Tm} {s:St}
theorem Sem.wkO {ac:AC} (aj:List (List D)) (hw:iu s.aj aj) (h:Sem P B nt ac Q tm ⟨aj,s.az⟩):Sem P B nt ac Q tm s:=by
 intro c hc act w ⟨M,e,r,ht,h1,h2⟩
 obtain⟨r',le⟩:=r.sy hw
 refine h c hc act w ⟨M,e.trans ⟨le,fun _ _ _ _=>rfl,fun o h1 h2=>?_,fun t b c z hl e=> .inl ⟨hl,c,z,e⟩,fun _ _ h=>(h rfl).elim,Nat.le_refl _,rfl,rfl,rfl⟩,r',fun k=>(ht k).mono le,h1,h2⟩
 simp only[← hw.len]at h2
 exact h1.elim (fun h1=>absurd h2 (Nat.not_lt.2 h1)) fun h1=>(h1 rfl).elim
theorem J5 {M0 M:Map} {s0 s:St} {w0 w:World} (e:Ext M0 s0 w0 M s w) (le:Le M s (M.fN s.az.length none) {s with az:=s.az++ [some 0]}) :
 Ext M0 s0 w0 (M.fN s.az.length none) {s with az:=s.az++ [some 0]} w:=by
 refine e.trans ⟨le,fun _ _ _ _=>rfl,fun o h1 h2=>h1.elim (fun h1=>absurd h2 (Nat.not_lt.2 h1)) (fun h1=>(h1 rfl).elim),fun t b c z hl eq=>?_,fun _ _ h=>(h rfl).elim,Nat.le_refl _,rfl,rfl,rfl⟩
 obtain⟨k,hk⟩:=hl
 rcases Nat.lt_or_ge t s.az.length with h|h
 ·refine .inl ⟨⟨k,by rw [List.getElem?_append_left h]at hk;exact hk⟩,c,z, ?_⟩
  have:(M.fN s.az.length none).be t=M.be t:=by simp[Map.fN];omega
  rw[← this];exact eq
 ·have:=(List.getElem?_eq_some_iff.1 hk).1
  simp at this
  have:t=s.az.length:=by omega
  subst this
  simp[Map.fN]at eq
end
def aH (P:Program) (f:Nat) (args:List D) (s:St) (d:D) (s':St):Prop:=bS P f args s fun x y=>x=d∧y=s'
def rH (n m:Nat) (res:List (Nat×Option (Bool×Nat))) (d:D) (s':St):Exit→Tm→St→Prop
 | .normal,tm,s| .ret,tm,s=>∃ l,cZ res tm s=some l∧Wk ((da l).fg n m) d∧iu (s.cut n m).aj s'.aj∧(s.cut n m).az=s'.az
 |_,_,_=>False
theorem bS.sy {P:Program} {f:FuncId} {args Hl:List D} {s:St} {Q:D→St→Prop} (ha:kv args Hl) (h:bS P f Hl s Q):bS P f args s Q:=
 fun M w gw r kX hl hr=>h M w gw r kX (by rw[hl,ha.len]) fun i d v e1 e2=>by
  obtain⟨d0,g1,g2⟩:=ha.get e1
  exact g2 _ _ _ (hr i d0 v g1 e2)
theorem bS.LC {P:Program} {f:FuncId} {args:List D} {s:St} {Q Q':D→St→Prop} (h:bS P f args s Q) (hq : ∀ d s1,Q d s1→∃ d' s',Wk d d'∧iu s1.aj s'.aj∧s1.az=s'.az∧Q' d' s'):bS P f args s Q':=
 fun M w gw r kX hl ha=>(h M w gw r kX hl ha).mono fun _ _ ⟨M',d,v,s1,h1,h2,h3,h4,h5⟩=>by
  obtain⟨d',s',g1,g2,g3,g4⟩:=hq d s1 h2
  obtain⟨r',le⟩:=h4.sy g2
  have hs:(⟨s'.aj,s1.az⟩:St)=s':=by rw[g3]
  rw[hs]at r' le
  refine⟨M',d',v,s',h1,g4,h3.trans ⟨le,fun _ _ _ _=>rfl,fun o h1 h2=>?_,fun t b c z hl e=> .inl ⟨by obtain⟨n,hn⟩:=hl;exact⟨n,by rw[g3];exact hn⟩,c,z,e⟩,fun _ _ h=>(h rfl).elim,Nat.le_refl _,rfl,rfl,rfl⟩,r',(g1 _ _ _ h5).mono le⟩
  rw[← g2.len]at h2
  exact h1.elim (fun h1=>absurd h2 (Nat.not_lt.2 h1)) fun h1=>(h1 rfl).elim
theorem aH.intro {P:Program} {f:FuncId} {af:AF} {args:List D} {s:St} {d:D} {s':St} (h0 : ∃ fn,P.funcs[f]? = some fn∧cF P fn=some af) (hl:args.length≤af.ntmps)
 (h : ∀ B:ic,B.s=s→Sem P B af.ntmps af.body (rH s.aj.length s.az.length af.results d s') (ow 0 args) s):aH P f args s d s':=by
 obtain⟨fn,hf,hc⟩:=h0
 refine bS.LC (bS.intro (Q:=fun d1 s1=>Wk d1 d∧iu s1.aj s'.aj∧s1.az=s'.az) hf hc hl fun B hB=>(h B hB).mono fun e tm s1 hr=>?_) fun d1 s1 ⟨h1,h2,h3⟩=>⟨d,s',h1,h2,h3,rfl,rfl⟩
 subst hB
 cases e with
 |normal=>obtain⟨l,h1,h2,h3,h4⟩:=hr;exact⟨l,h1,_,_,Nat.le_refl _,Nat.le_refl _,h2,h3,h4⟩
 |ret=>obtain⟨l,h1,h2,h3,h4⟩:=hr;exact⟨l,h1,_,_,Nat.le_refl _,Nat.le_refl _,h2,h3,h4⟩
 |exit id=>exact hr.elim
 |goto l=>exact hr.elim
 |panic ch=>exact hr.elim
 |outgrown=>exact hr.elim
theorem aH.use {P:Program} {f:FuncId} {args:List D} {s:St} {d:D} {s':St} {Q:D→St→Prop} (h:aH P f args s d s') (hq:Q d s'):bS P f args s Q:=
 bS.mono h fun x y ⟨h1,h2⟩=>by subst h1;subst h2;exact hq
mutual
theorem sA (os ts:List Nat) : ∀ d,D.ok 0 0 d=true→D.cO os ts d=d
 | .junk,_=>by simp[D.cO]
 | .int k n,_=>by simp[D.cO]
 | .bool b,_=>by simp[D.cO]
 | .str l,_=>by simp[D.cO]
 | .eY,_=>by simp[D.cO]
 | .val v,_=>by simp[D.cO]
 | .gb T o,h=>by simp[D.ok]at h
 | .gW o,h=>by simp[D.ok]at h
 | .dH z o g len,h=>by simp[D.ok]at h
 | .gd o g off,h=>by simp[D.ok]at h
 | .fk z,_=>by simp[D.cO]
 | .ix f cs,h=>by
  simp only[D.ok]at h
  simp only[D.cO,fW os ts cs h]
 | .ptr o f,h=>by simp[D.ok]at h
 | .dN r f,h=>by
  simp only[D.ok]at h
  simp only[D.cO,fW os ts r h]
 | .slice g z rows,h=>by
  simp only[D.ok,Bool.and_eq_true]at h
  simp only[D.cO,ke os ts rows h.2]
  cases g with
  |tok t y=>simp[Tag.ok]at h
  |full=>rfl
  |shared=>rfl
 | .agg cs,h=>by
  simp only[D.ok]at h
  simp only[D.cO,fW os ts cs h]
 | .tuple cs,h=>by
  simp only[D.ok]at h
  simp only[D.cO,fW os ts cs h]
theorem fW (os ts:List Nat) : ∀ l,D.bF 0 0 l=true→D.fc os ts l=l
 | [],_=>by simp[D.fc]
 |d::r,h=>by
  simp only[D.bF,Bool.and_eq_true]at h
  simp only[D.fc,sA os ts d h.1,fW os ts r h.2]
theorem ke (os ts:List Nat) : ∀ l,D.jg 0 0 l=true→D.pG os ts l=l
 | [],_=>by simp[D.pG]
 |d::r,h=>by
  simp only[D.jg,Bool.and_eq_true]at h
  simp only[D.pG,fW os ts d h.1,ke os ts r h.2]
end
mutual
theorem I8 {n m n' m':Nat} (hn:n≤n') (hm:m≤m') : ∀ d,D.ok n m d=true→D.ok n' m' d=true
 | .junk,_=>rfl
 | .int k n,_=>rfl
 | .bool b,_=>rfl
 | .str l,_=>rfl
 | .eY,_=>rfl
 | .val v,_=>rfl
 | .gb T o,h=>by simp[D.ok]at h ⊢;omega
 | .gW o,h=>by simp[D.ok]at h ⊢;omega
 | .dH z o g len,h=>by simp[D.ok]at h ⊢;omega
 | .gd o g off,h=>by simp[D.ok]at h ⊢;omega
 | .fk z,_=>rfl
 | .ix f cs,h=>by
  simp only[D.ok]at h ⊢
  exact jt hn hm cs h
 | .ptr o f,h=>by simp only[D.ok,decide_eq_true_eq]at h ⊢;omega
 | .dN r f,h=>by
  simp only[D.ok]at h ⊢
  exact jt hn hm r h
 | .slice g z rows,h=>by
  simp only[D.ok,Bool.and_eq_true]at h ⊢
  refine⟨?_,oa hn hm rows h.2⟩
  cases g with
  |tok t y=>simp only[Tag.ok,decide_eq_true_eq]at h ⊢;omega
  |full=>rfl
  |shared=>rfl
 | .agg cs,h=>by
  simp only[D.ok]at h ⊢
  exact jt hn hm cs h
 | .tuple cs,h=>by
  simp only[D.ok]at h ⊢
  exact jt hn hm cs h
theorem jt {n m n' m':Nat} (hn:n≤n') (hm:m≤m') : ∀ l,D.bF n m l=true→D.bF n' m' l=true
 | [],_=>rfl
 |d::r,h=>by
  simp only[D.bF,Bool.and_eq_true]at h ⊢
  exact⟨I8 hn hm d h.1,jt hn hm r h.2⟩
theorem oa {n m n' m':Nat} (hn:n≤n') (hm:m≤m') : ∀ l,D.jg n m l=true→D.jg n' m' l=true
 | [],_=>rfl
 |d::r,h=>by
  simp only[D.jg,Bool.and_eq_true]at h ⊢
  exact⟨jt hn hm d h.1,oa hn hm r h.2⟩
end
def S0:St:=⟨[],[]⟩
section
variable {P:Program} {f:Nat}
theorem aH.pure {args:List D} {d:D} (h:aH P f args S0 d S0) (ha:D.bF 0 0 args=true) (hd:D.ok 0 0 d=true) (s:St):aH P f args s d s:=by
 refine bS.frame [] [] h List.nodup_nil List.nodup_nil (by simp) (by simp) rfl (by simp) rfl (by simp) (by rw[fW _ _ _ ha]) ha ?_
 rintro _ _ ⟨rfl,rfl⟩
 refine⟨sA _ _ _ hd, ?_⟩
 simp[St.back,lF,S0]
theorem aH.Yu {args row lD:List D} {d:D} (h:aH P f (.ptr 0 0::args) ⟨[row],[]⟩ d ⟨[lD],[]⟩) (ha:D.bF 0 0 args=true) (hr:D.bF 0 0 row=true) (U5:D.bF 0 0 lD=true) (hd:D.ok 0 0 d=true)
 {s:St} {o:Nat} (ho:s.aj[o]? = some row):aH P f (.ptr o 0::args) s d ⟨s.aj.set o lD,s.az⟩:=by
 refine bS.frame [o] [] h (by simp) List.nodup_nil (by simpa using (List.getElem?_eq_some_iff.1 ho).1) (by simp) rfl (fun i o' ds e1 e2=>?_) rfl (by simp) (by simp[D.fc,D.cO,fW _ _ _ ha])
  (by simp[D.bF,D.ok,jt (Nat.zero_le 1) (Nat.le_refl 0) _ ha]) ?_
 ·cases i with
  |zero=>simp at e1 e2;subst e1;subst e2;exact⟨by rw[fW _ _ _ hr];exact ho,jt (Nat.zero_le 1) (Nat.le_refl 0) _ hr⟩
  |succ i=>simp at e1
 ·rintro _ _ ⟨rfl,rfl⟩
  refine⟨sA _ _ _ hd, ?_⟩
  simp[St.back,lF,fW _ _ _ U5]
end
end Go.Abs
namespace Go.Abs
theorem X.ct {x:X} {tm bE:Tm} (h : ∀ t∈x.reads,tm.get t=bE.get t):x.ev tm=x.ev bE:=by
 cases x with
 |s t=>exact h t (by simp[X.reads])
 |k d=>rfl
theorem tr {t:Nat} {x:X} : ∀ {l:List X},x∈l→t∈x.reads→t∈pT l
 | [],h,_=>by cases h
 |y::r,h,ht=>by
  simp only[pT,List.mem_append]
  rcases List.mem_cons.1 h with rfl|h
  ·exact .inl ht
  ·exact .inr (tr h ht)
theorem yP {x:Option X} {tm bE:Tm} (h : ∀ t∈Dj x,tm.get t=bE.get t):x.map (·.ev tm)=x.map (·.ev bE):=by
 cases x with
 |none=>rfl
 |some y=>simp only[Option.map_some];rw[X.ct h]
theorem Fx {o:AO} {tm bE:Tm} {s:St} (h : ∀ t∈o.reads,tm.get t=bE.get t):aY o tm s=aY o bE s:=by
 cases o with
 |mv x=>
  have hx:x.ev tm=x.ev bE:=X.ct fun t ht=>h t (by simp[AO.reads,ht])
  simp only[aY,hx]
 |pick c a b=>
  have hc:c.ev tm=c.ev bE:=X.ct fun t ht=>h t (by simp[AO.reads,ht])
  have ha:a.ev tm=a.ev bE:=X.ct fun t ht=>h t (by simp[AO.reads,ht])
  have hb:b.ev tm=b.ev bE:=X.ct fun t ht=>h t (by simp[AO.reads,ht])
  simp only[aY,hc,ha,hb]
 |alloc z=>
  rfl
 |vy z T=>rfl
 |Dg x T=>
  have hx:x.ev tm=x.ev bE:=X.ct fun t ht=>h t (by simp[AO.reads,ht])
  simp only[aY,hx]
 |Dh x y=>
  have hx:x.ev tm=x.ev bE:=X.ct fun t ht=>h t (by simp[AO.reads,ht])
  have hy:y.ev tm=y.ev bE:=X.ct fun t ht=>h t (by simp[AO.reads,ht])
  simp only[aY,hx,hy]
 |apps x y=>
  have hx:x.ev tm=x.ev bE:=X.ct fun t ht=>h t (by simp[AO.reads,ht])
  have hy:y.ev tm=y.ev bE:=X.ct fun t ht=>h t (by simp[AO.reads,ht])
  simp only[aY,hx,hy]
 |box x=>
  have hx:x.ev tm=x.ev bE:=X.ct fun t ht=>h t (by simp[AO.reads,ht])
  simp only[aY,hx]
 |Dd x=>
  have hx:x.ev tm=x.ev bE:=X.ct fun t ht=>h t (by simp[AO.reads,ht])
  simp only[aY,hx]
 |load x g n=>
  have hx:x.ev tm=x.ev bE:=X.ct fun t ht=>h t (by simp[AO.reads,ht])
  simp only[aY,hx]
 |store p x n=>
  have hp:p.ev tm=p.ev bE:=X.ct fun t ht=>h t (by simp[AO.reads,ht])
  have hx:x.ev tm=x.ev bE:=X.ct fun t ht=>h t (by simp[AO.reads,ht])
  simp only[aY,hp,hx]
 |cm x=>
  have hx:x.ev tm=x.ev bE:=X.ct fun t ht=>h t (by simp[AO.reads,ht])
  simp only[aY,hx]
 |bin op x y=>
  have hx:x.ev tm=x.ev bE:=X.ct fun t ht=>h t (by simp[AO.reads,ht])
  have hy:y.ev tm=y.ev bE:=X.ct fun t ht=>h t (by simp[AO.reads,ht])
  simp only[aY,hx,hy]
 |JP n x y=>
  have hx:x.ev tm=x.ev bE:=X.ct fun t ht=>h t (by simp[AO.reads,ht])
  have hy:y.ev tm=y.ev bE:=X.ct fun t ht=>h t (by simp[AO.reads,ht])
  simp only[aY,hx,hy]
 |eqs n ks x y=>
  have hx:x.ev tm=x.ev bE:=X.ct fun t ht=>h t (by simp[AO.reads,ht])
  have hy:y.ev tm=y.ev bE:=X.ct fun t ht=>h t (by simp[AO.reads,ht])
  simp only[aY,hx,hy]
 |JQ n x y=>
  have hx:x.ev tm=x.ev bE:=X.ct fun t ht=>h t (by simp[AO.reads,ht])
  have hy:y.ev tm=y.ev bE:=X.ct fun t ht=>h t (by simp[AO.reads,ht])
  simp only[aY,hx,hy]
 |un op x=>
  have hx:x.ev tm=x.ev bE:=X.ct fun t ht=>h t (by simp[AO.reads,ht])
  simp only[aY,hx]
 |conv k x=>
  have hx:x.ev tm=x.ev bE:=X.ct fun t ht=>h t (by simp[AO.reads,ht])
  simp only[aY,hx]
 |GY x=>
  have hx:x.ev tm=x.ev bE:=X.ct fun t ht=>h t (by simp[AO.reads,ht])
  simp only[aY,hx]
 |Au x=>
  have hx:x.ev tm=x.ev bE:=X.ct fun t ht=>h t (by simp[AO.reads,ht])
  simp only[aY,hx]
 |av x n=>
  have hx:x.ev tm=x.ev bE:=X.ct fun t ht=>h t (by simp[AO.reads,ht])
  simp only[aY,hx]
 |De x n g m=>
  have hx:x.ev tm=x.ev bE:=X.ct fun t ht=>h t (by simp[AO.reads,ht])
  simp only[aY,hx]
 |bZ x i n=>
  have hx:x.ev tm=x.ev bE:=X.ct fun t ht=>h t (by simp[AO.reads,ht])
  have hi:i.ev tm=i.ev bE:=X.ct fun t ht=>h t (by simp[AO.reads,ht])
  simp only[aY,hx,hi]
 |Df x i=>
  have hx:x.ev tm=x.ev bE:=X.ct fun t ht=>h t (by simp[AO.reads,ht])
  have hi:i.ev tm=i.ev bE:=X.ct fun t ht=>h t (by simp[AO.reads,ht])
  simp only[aY,hx,hi]
 |ext x i=>
  have hx:x.ev tm=x.ev bE:=X.ct fun t ht=>h t (by simp[AO.reads,ht])
  simp only[aY,hx]
 |len x=>
  have hx:x.ev tm=x.ev bE:=X.ct fun t ht=>h t (by simp[AO.reads,ht])
  simp only[aY,hx]
 |xo x=>
  have hx:x.ev tm=x.ev bE:=X.ct fun t ht=>h t (by simp[AO.reads,ht])
  simp only[aY,hx]
 |app a b x y=>
  have hx:x.ev tm=x.ev bE:=X.ct fun t ht=>h t (by simp[AO.reads,ht])
  have hy:y.ev tm=y.ev bE:=X.ct fun t ht=>h t (by simp[AO.reads,ht])
  simp only[aY,hx,hy]
 |mm b x y=>
  have hx:x.ev tm=x.ev bE:=X.ct fun t ht=>h t (by simp[AO.reads,ht])
  have hy:y.ev tm=y.ev bE:=X.ct fun t ht=>h t (by simp[AO.reads,ht])
  simp only[aY,hx,hy]
 | build z ps=>
  have hp:(ps.map fun p=>(p.1,p.2.1,p.2.2.ev tm))=ps.map fun p=>(p.1,p.2.1,p.2.2.ev bE):=List.map_congr_left fun p hp=>by
   have:p.2.2.ev tm=p.2.2.ev bE:=X.ct fun t ht=>h t (by simp only[AO.reads];exact tr (List.mem_map_of_mem hp) ht)
   rw[this]
  simp only[aY,hp]
 | dm z m n ps=>
  have hp:(ps.map fun p=>(p.1,p.2.ev tm))=ps.map fun p=>(p.1,p.2.ev bE):=List.map_congr_left fun p hp=>by
   have:p.2.ev tm=p.2.ev bE:=X.ct fun t ht=>h t (by simp only[AO.reads];exact tr (List.mem_map_of_mem hp) ht)
   rw[this]
  simp only[aY,hp]
 | xn z m n ps=>
  have hp:(ps.map fun p=>(p.1,p.2.ev tm))=ps.map fun p=>(p.1,p.2.ev bE):=List.map_congr_left fun p hp=>by
   have:p.2.ev tm=p.2.ev bE:=X.ct fun t ht=>h t (by simp only[AO.reads];exact tr (List.mem_map_of_mem hp) ht)
   rw[this]
  simp only[aY,hp]
 |GZ n x lo hi=>
  have hx:x.ev tm=x.ev bE:=X.ct fun t ht=>h t (by simp[AO.reads,ht])
  have hl:lo.map (·.ev tm)=lo.map (·.ev bE):=yP fun t ht=>h t (by simp[AO.reads,ht])
  have hh:hi.map (·.ev tm)=hi.map (·.ev bE):=yP fun t ht=>h t (by simp[AO.reads,ht])
  simp only[aY,hx,hl,hh]
 |LQ x lo hi=>
  have hx:x.ev tm=x.ev bE:=X.ct fun t ht=>h t (by simp[AO.reads,ht])
  have hl:lo.map (·.ev tm)=lo.map (·.ev bE):=yP fun t ht=>h t (by simp[AO.reads,ht])
  have hh:hi.map (·.ev tm)=hi.map (·.ev bE):=yP fun t ht=>h t (by simp[AO.reads,ht])
  simp only[aY,hx,hl,hh]
 |wV f xs=>
  have hp:(xs.map fun x=>x.ev tm)=xs.map fun x=>x.ev bE:=List.map_congr_left fun x hx=>X.ct fun t ht=>h t (by simp only[AO.reads];exact tr hx ht)
  simp only[aY,hp]
 |wW=>rfl
 |Bp m k v=>
  have hm:m.ev tm=m.ev bE:=X.ct fun t ht=>h t (by simp[AO.reads,ht])
  have hk:k.ev tm=k.ev bE:=X.ct fun t ht=>h t (by simp[AO.reads,ht])
  have hv:v.ev tm=v.ev bE:=X.ct fun t ht=>h t (by simp[AO.reads,ht])
  simp only[aY,hm,hk,hv]
 |Di a b z l c=>
  have hl:l.ev tm=l.ev bE:=X.ct fun t ht=>h t (by simp[AO.reads,ht])
  have hk:c.ev tm=c.ev bE:=X.ct fun t ht=>h t (by simp[AO.reads,ht])
  simp only[aY,hl,hk]
 |sX o x y=>
  have hx:x.ev tm=x.ev bE:=X.ct fun t ht=>h t (by simp[AO.reads,ht])
  have hy:y.ev tm=y.ev bE:=X.ct fun t ht=>h t (by simp[AO.reads,ht])
  simp only[aY,hx,hy]
 |yD m k z=>
  have hm:m.ev tm=m.ev bE:=X.ct fun t ht=>h t (by simp[AO.reads,ht])
  have hk:k.ev tm=k.ev bE:=X.ct fun t ht=>h t (by simp[AO.reads,ht])
  simp only[aY,hm,hk]
theorem OZ {x d:D} {agg:Bool} {size:Nat} {s s':St} (h:Br x agg size s=some (d,s')):s'=s:=by
 unfold Br at h
 (repeat' (split at h))<;>first|(cases h;rfl)|cases h
theorem O0 {o:AO} (ho:iT o.kind=false) {tm:Tm} {s s':St} {d:D} (h:aY o tm s=some (d,s')):s'=s:=by
 cases o<;>simp only[AO.kind,iT]at ho<;>first|cases ho|skip
 all_goals
  simp only[aY]at h
  first
   |(cases h;rfl)
   |(repeat' (split at h))<;>first|exact OZ h|(cases h;rfl)|cases h
theorem RV {o:AO} (ho:o.kind = .pure) {tm:Tm} {s s':St} : (aY o tm s).map (·.1)=(aY o tm s').map (·.1):=by
 cases o<;>simp only[AO.kind]at ho<;>first|cases ho|skip
 all_goals
  simp only[aY]
  first
   |rfl
   |(repeat' split)<;>rfl
def la (ai:AI) (tm:Tm) (s:St):Option D:=
 match ai with
 | .op _ none o=>(aY o tm s).map (·.1)
 | .op _ (some (t,want)) o=>
  match tm.get t with
  | .bool b=>if b=want then(aY o tm s).map (·.1)else some (.tuple [])
  | .tuple _=>some (.tuple [])
  |_=>none
 |_=>none
def vf (P:Program) (ai:AI) (tm:Tm) (s:St) (d:D) (s':St):Prop:=
 match ai with
 | .op _ g o=>guarded g tm (aY o tm s=some (d,s')) (d = .tuple []∧s'=s)
 | .call _ g f xs=>guarded g tm (bS P f (xs.map (·.ev tm)) s fun x y=>x=d∧y=s') (d = .tuple []∧s'=s)
 | .nil .. =>False
 | .ky .. =>False
def mw (P:Program) (is:List AI) (K:Tm→St→Prop):List (Nat×Nat)→List St→Tm→St→Prop
 | [],_,tm,s=>K tm s
 | (q,b)::r,bO,tm,s=>
  match is[q]? with
  |none=>False
  |some ai=>
   match iT ai.kind with
   |true=>∃ d s',vf P ai tm s d s'∧mw P is K r (s::bO) (tm.put ai.dst d) s'
   |false=>∃ d,la ai tm s=some d∧(ai.kind = .load→∀ s'∈bO.take b,la ai tm s'=some d)∧mw P is K r bO (tm.put ai.dst d) s
def Tm.eqv (a b:Tm):Prop:=∀ t,a.get t=b.get t
theorem Tm.mU (tm:Tm) (dst:Option Nat) (d:D) (t:Nat):(tm.put dst d).get t=if dst=some t then d else tm.get t:=by
 cases dst with
 |none=>simp[Tm.put]
 |some u=>
  simp only[Tm.put,Tm.I1,Option.some.injEq]
  by_cases h:t=u
  ·subst h;simp
  ·rw[if_neg h,if_neg (fun e=>h e.symm)]
theorem Tm.eqv.put {a b:Tm} (h:a.eqv b) (dst:Option Nat) (d:D):(a.put dst d).eqv (b.put dst d):=fun t=>by
 rw[Tm.mU,Tm.mU,h t]
theorem Tm.Mu (tm:Tm) {x y:Option Nat} (h : ∀ t,x=some t→y≠some t) (d e:D):((tm.put x d).put y e).eqv ((tm.put y e).put x d):=fun t=>by
 simp only[Tm.mU]
 by_cases h1:x=some t
 ·simp only[h1,h t h1,if_true,if_false]
 ·simp only[h1,if_false]
theorem CG {g:Option (Nat×Bool)} {tm bE:Tm} {A A' C:Prop} (h : ∀ t∈xp g,tm.get t=bE.get t) (ha:A→A') (hh:guarded g tm A C):guarded g bE A' C:=by
 cases g with
 |none=>exact ha hh
 | some p=>
  obtain⟨t,want⟩:=p
  unfold guarded at *
  simp only at *
  rw[← h t (by simp[xp])]
  split
  ·rename_i b hb
   rw[hb]at hh
   exact⟨fun e=>ha (hh.1 e),hh.2⟩
  ·rename_i hb
   rw[hb]at hh
   exact hh
  ·rename_i x h1 h2
   split at hh
   ·exact h1 _ ‹_›
   ·exact h2 _ ‹_›
   ·exact hh
theorem J6 {tm bE:Tm} : ∀ {l:List X},(∀ t∈pT l,tm.get t=bE.get t)→l.map (·.ev tm)=l.map (·.ev bE)
 | [],_=>rfl
 |x::r,h=>by
  simp only[List.map_cons]
  rw[X.ct fun t ht=>h t (by simp[pT,ht]),J6 (l:=r) fun t ht=>h t (by simp[pT,ht])]
theorem zM {P:Program} {ai:AI} {tm bE:Tm} {s s':St} {d:D} (h : ∀ t∈ai.reads,tm.get t=bE.get t) (hh:vf P ai tm s d s'):vf P ai bE s d s':=by
 cases ai with
 |op dst g o=>
  simp only[AI.reads,List.mem_append]at h
  exact CG (fun t ht=>h t (.inl ht)) (fun e=>by rw[← Fx fun t ht=>h t (.inr ht)];exact e) hh
 |call dst g f xs=>
  simp only[AI.reads,List.mem_append]at h
  exact CG (fun t ht=>h t (.inl ht)) (fun e=>by rw[← J6 fun t ht=>h t (.inr ht)];exact e) hh
 |nil dst g n x=>exact hh
 |ky dst g t xs=>exact hh
theorem sO {ai:AI} {tm bE:Tm} {s:St} (h : ∀ t∈ai.reads,tm.get t=bE.get t):la ai tm s=la ai bE s:=by
 cases ai with
 | op dst g o=>
  simp only[AI.reads,List.mem_append]at h
  have he:=Fx (s:=s) fun t ht=>h t (.inr ht)
  cases g with
  |none=>simp only[la,he]
  |some p=>
   obtain⟨t,want⟩:=p
   simp only[la,he,h t (.inl (by simp[xp]))]
 |call dst g f xs=>rfl
 |nil dst g n x=>rfl
 |ky dst g t xs=>rfl
theorem P4 {dst:Option Nat} {g:Option (Nat×Bool)} {o:AO} (h:iT (AI.op dst g o).kind=false):(AI.op dst g o).kind=o.kind:=by
 unfold AI.kind at *
 split at h
 ·cases h
 ·rename_i heq;cases heq;rfl
 ·cases h
theorem Yv {ai:AI} (hk:ai.kind = .pure) {tm:Tm} {s s':St} : la ai tm s=la ai tm s':=by
 cases ai with
 |op dst g o=>
  have ho:o.kind = .pure:=by rw[← hk];exact(P4 (by rw[hk];rfl)).symm
  have he:=RV ho (tm:=tm) (s:=s) (s':=s')
  cases g with
  |none=>simp only[la,he]
  |some p=>simp only[la,he]
 |call dst g f xs=>rfl
 |nil dst g n x=>rfl
 |ky dst g t xs=>rfl
theorem apart_spec {a q:AI} (h:a.apart q=true):(∀ t,a.dst=some t→t∉q.reads)∧(∀ t,q.dst=some t→t∉a.reads)∧(∀ t,a.dst=some t→q.dst≠some t):=by
 unfold AI.apart at h
 simp only[Bool.and_eq_true]at h
 obtain⟨⟨h1,h2⟩,h3⟩:=h
 refine⟨fun t e=>?_,fun t e=>?_,fun t e e'=>?_⟩
 ·rw[e]at h1;simpa[G1]using h1
 ·rw[e]at h2;simpa[G1]using h2
 ·rw[e,e']at h3;simp at h3
theorem vg {tm:Tm} {dst:Option Nat} {d:D} {l:List Nat} (h : ∀ t,dst=some t→t∉l) : ∀ t∈l,tm.get t=(tm.put dst d).get t:=fun t ht=>by
 rw[Tm.mU,if_neg fun e=>h t e ht]
section
variable {P:Program} {is:List AI} {K:Tm→St→Prop}
theorem vh (hK : ∀ tm bE s,Tm.eqv tm bE→K tm s→K bE s) : ∀ (R:List (Nat×Nat)) (bO:List St) (tm bE:Tm) (s:St),tm.eqv bE→mw P is K R bO tm s→mw P is K R bO bE s
 | [],_,tm,bE,s,e,h=>hK tm bE s e h
 | (q,b)::R,bO,tm,bE,s,e,h=>by
  unfold mw at *
  split at h
  ·exact h.elim
  ·rename_i ai yN
   split at h
   ·rename_i hc
    obtain⟨d,s',h1,h2⟩:=h
    exact⟨d,s',zM (fun t _=>e t) h1,vh hK R _ _ _ _ (e.put _ d) h2⟩
   ·rename_i hc
    obtain⟨d,h1,h2,h3⟩:=h
    refine⟨d, ?_,fun hl s' oI=>?_,vh hK R _ _ _ _ (e.put _ d) h3⟩
    ·rw[← sO fun t _=>e t];exact h1
    ·rw[← sO fun t _=>e t];exact h2 hl s' oI
theorem Mv (i:Nat) (l:List Nat):kQ is (i::l)=(if iT (kz is i)then 1 else 0)+kQ is l:=by
 unfold kQ
 rw[List.filter_cons]
 split<;>simp<;>omega
theorem zN (hK : ∀ tm bE s,Tm.eqv tm bE→K tm s→K bE s) {q b:Nat} {ai:AI} (hq:is[q]? = some ai) (hm:iT ai.kind=false) (Y:List (Nat×Nat)) :
 ∀ (X:List (Nat×Nat)) (bO:List St) (tm:Tm) (s:St),(∀ a∈X,mP is a.1 q=true)→(ai.kind = .load→kQ is (X.map (·.1))≤b)→
  mw P is K (X++(q,b)::Y) bO tm s→
  ∃ d,la ai tm s=some d∧(ai.kind = .load→∀ s'∈bO.take (b - kQ is (X.map (·.1))),la ai tm s'=some d)∧mw P is K (X++Y) bO (tm.put ai.dst d) s
 | [],bO,tm,s,_,_,h=>by
  simp only[List.nil_append,mw,hq,hm]at h
  obtain⟨d,h1,h2,h3⟩:=h
  exact⟨d,h1,fun hl s' oI=>h2 hl s' (by simpa[kQ]using oI),h3⟩
 | (a,c)::X,bO,tm,s,fP,hb,h=>by
  have RW:=fP (a,c) (by simp)
  unfold mP at RW
  split at RW
  ·rename_i ia iq hia wL
   rw[hq]at wL
   cases wL
   obtain⟨p1,p2,p3⟩:=apart_spec RW
   have J1:kz is a=ia.kind:=by simp[kz,hia]
   have LA : ∀ x∈X,mP is x.1 q=true:=fun x hx=>fP x (List.mem_cons_of_mem _ hx)
   rw[List.map_cons,Mv,J1]at hb ⊢
   simp only[List.cons_append,mw,hia]at h ⊢
   cases hc:iT ia.kind
   ·simp only [hc,Bool.false_eq_true,if_false,Nat.zero_add]at h hb ⊢
    obtain⟨d,h1,h2,h3⟩:=h
    obtain⟨e,g1,g2,g3⟩:=zN hK hq hm Y X bO _ s LA hb h3
    have cg : ∀ s,la ai tm s=la ai (tm.put ia.dst d) s:=fun s=>sO (vg p1)
    have cg' : ∀ s,la ia tm s=la ia (tm.put ai.dst e) s:=fun s=>sO (vg p2)
    refine⟨e,by rw[cg];exact g1,fun hl s' oI=>by rw[cg];exact g2 hl s' oI,d,by rw[← cg'];exact h1,fun hl s' oI=>by rw[← cg'];exact h2 hl s' oI, ?_⟩
    exact vh hK _ _ _ _ _ (Tm.Mu tm p3 d e) g3
   ·simp only [hc,if_true]at h hb ⊢
    obtain⟨d,s1,h1,h3⟩:=h
    obtain⟨e,g1,g2,g3⟩:=zN hK hq hm Y X (s::bO) _ s1 LA (fun hl=>by have:=hb hl;omega) h3
    have cg : ∀ s,la ai tm s=la ai (tm.put ia.dst d) s:=fun s=>sO (vg p1)
    have se:la ai tm s=some e:=by
     cases hk:ai.kind with
     |pure=>rw[cg,Yv hk (s':=s1)];exact g1
     |load=>
      have:=hb hk
      rw[cg]
      refine g2 hk s ?_
      rw[show b - kQ is (X.map (·.1))=(b - (1+kQ is (X.map (·.1))))+1 by omega,List.take_succ_cons]
      exact List.mem_cons_self
     |alloc=>rw[hk]at hm;cases hm
     |core=>rw[hk]at hm;cases hm
    refine⟨e,se,fun hl s' oI=>?_,d,s1,zM (vg p2) h1,vh hK _ _ _ _ _ (Tm.Mu tm p3 d e) g3⟩
    have:=hb hl
    rw[cg]
    refine g2 hl s' ?_
    rw[show b - kQ is (X.map (·.1))=(b - (1+kQ is (X.map (·.1))))+1 by omega,List.take_succ_cons]
    exact List.mem_cons_of_mem _ oI
  ·cases RW
end
end Go.Abs
namespace Go.Abs
section
variable {P:Program}
theorem Vr {o:Oper} {z:List D} (h:G3 P o=some (.alloc z)) : ∃ t,o.op = .alloc t∧zeroOf P t=some z:=by
 obtain⟨dst,op,type,pos,after,guard⟩:=o
 unfold G3 at h
 simp only at h
 split at h
 case h_4 t=>
  split at h
  ·obtain⟨z',h1,h2⟩:=map_some h;cases h2
  ·obtain⟨z',h1,h2⟩:=map_some h;cases h2;exact⟨t,rfl,h1⟩
 all_goals
  first
   |(rw[Option.map_eq_some_iff]at h;obtain⟨_,_,h⟩:=h;cases h)
   |skip
 all_goals
  (repeat' (split at h))<;>first|(cases h;done)|(rw[Option.map_eq_some_iff]at h;obtain⟨_,_,h⟩:=h;cases h)
theorem DH {nt:Nat} {ops:Array Oper} {o:Oper} {ai:AI} (h:cI P nt ops o=some ai) :
 ∃ g,xq ops o.guard=some g∧(∀ t,o.dst=some t→t<nt)∧u7 P ops o g=some ai:=by
 have h2:=AP h
 unfold cI at h
 split at h
 ·cases h
 ·rename_i g hg
  split at h
  ·exact⟨g,hg,h2,h⟩
  ·cases h
theorem vJ {ops:Array Oper} {o:Oper} {g:Option (Nat×Bool)} {ai:AI} (h:u7 P ops o g=some ai):ai.dst=o.dst:=by
 unfold u7 at h
 split at h
 ·split at h
  ·obtain⟨xs,_,rfl⟩:=map_some h;rfl
  ·cases h
 ·obtain⟨xs,_,rfl⟩:=map_some h;rfl
 ·split at h
  ·cases h;rfl
  ·split at h
   ·cases h;rfl
   ·cases h;rfl
   ·cases h
theorem vK {nt:Nat} {ops:Array Oper} {o:Oper} {ai:AI} (h:cI P nt ops o=some ai):ai.dst=o.dst:=by
 obtain⟨g,_,_,h⟩:=DH h
 exact vJ h
theorem zO {nt:Nat} {ops:Array Oper} {i:Nat} {o:Oper} {ai:AI} (hi:ops[i]? = some o) (hc:cI P nt ops o=some ai)
 {M:Map} {s:St} {w:World} {tm:Tm} {act:Act} (r:Rel M s w) (kX:Laid M s w) (ht:nP M s tm act.tmps) {K':Tm→St→Prop} (h:jT P [ai] K' tm s)
 {K:Act→World→Prop} {Q:Exit→Act→World→Prop}
 (hK : ∀ d v s1 w1 M1,K' (tm.put ai.dst d) s1→Ext M s w M1 s1 w1→Rel M1 s1 w1→RD M1 s1 d v→K (act.put o.dst v) w1):wpOp P ops Q i K act w:=by
 obtain⟨g,hg,_,hb⟩:=DH hc
 rw[vJ hb]at hK
 simp only[wpOp,hi]
 have skip:K' (tm.put o.dst (.tuple [])) s→K (act.put o.dst Go.undef) w:=fun hk=>hK _ _ _ _ _ hk (Ext.refl M s w) r .undef
 unfold u7 at hb
 split at hb
 ·rename_i f args oj oi
  split at hb
  ·rename_i Bz
   obtain⟨xs,qo,rfl⟩:=map_some hb
   simp only[jT]at h
   rcases ly hg ht h with ⟨hw,hA⟩|⟨hw,hB⟩
   ·simp only [hw,if_true]
    left
    have hex:(execOp act.eval o).run P w = .ok (.enter f (args.map act.eval)) w:=by
     obtain⟨dst,op,type,pos,after,guard⟩:=o
     simp only at oi
     subst oi
     exact zK act.eval dst f args oj type pos after guard rfl Bz w
    obtain⟨c1,c2⟩:=yM ht qo
    unfold Oper.wp
    rw[hex,Oper.upon_enter]
    refine(hA M w (args.map act.eval) r kX (by simp[c1]) (fun i d v e1 e2=>c2 i d v e1 (by simpa using e2))).mono ?_
    rintro en w' ⟨M',d,v,s',rfl,hk,e',r',hv⟩
    exact hK _ _ _ _ _ hk e' r' hv
   ·simp only [hw]
    exact skip hB
  ·cases hb
 ·rename_i t args oj oi
  obtain⟨xs,qo,rfl⟩:=map_some hb
  simp only[jT]at h
  rcases ly hg ht h with ⟨hw,hA⟩|⟨hw,hB⟩
  ·simp only [hw,if_true]
   left
   split at hA
   ·rename_i f pC nB
    obtain⟨Bz,hA⟩:=hA
    have Vh:=ht t
    rw[nB]at Vh
    obtain⟨vs,pW,hlen,Hj⟩:=Vh.PX
    have hex:(execOp act.eval o).run P w = .ok (.enter f (args.map act.eval++vs)) w:=by
     obtain⟨dst,op,type,pos,after,guard⟩:=o
     simp only at oi
     subst oi
     exact DD act.eval dst (.tmp t) f vs args oj type pos after guard pW Bz w
    have cc:=J2 qo ht hlen Hj
    unfold Oper.wp
    rw[hex,Oper.upon_enter]
    refine(hA M w (args.map act.eval++vs) r kX cc.1 cc.2).mono ?_
    rintro en w' ⟨M',d,v,s',rfl,hk,e',r',hv⟩
    exact hK _ _ _ _ _ hk e' r' hv
   ·exact hA.elim
  ·simp only [hw]
   exact skip hB
 ·split at hb
  ·rename_i neg x F0
   cases hb
   simp only[jT]at h
   rcases ly hg ht h with ⟨hw,hA⟩|⟨hw,hB⟩
   ·simp only [hw,if_true]
    left
    split at hA
    ·rename_i g' z rows hx
     obtain⟨b,hb,hex⟩:=CA (w:=w) F0 ht hx
     unfold Oper.wp
     rw[hex,Oper.upon_value]
     exact hK _ _ _ _ _ (hA b hb) (Ext.refl M s w) r (.bool _)
    ·exact hA.elim
   ·simp only [hw]
    exact skip hB
  ·have fin : ∀ ao,ai = .op o.dst g ao→(∀ d s',aY ao tm s=some (d,s')→dj P M s w (execOp act.eval o) d s')→
    (if Region.wanted o (yielded ops act.tmps)=true then o.wp P act w K Q∨(o.asks P act w∧LetsOut Q)else K (act.put o.dst Go.undef) w):=by
    intro ao yN hdo
    subst yN
    simp only[jT]at h
    rcases ly hg ht h with ⟨hw,hA⟩|⟨hw,hB⟩
    ·simp only [hw,if_true]
     left
     split at hA
     ·rename_i d s' sN
      obtain⟨v,w',M',ew,r',hv,e'⟩:=hdo d s' sN
      unfold Oper.wp
      rcases ew with ew|⟨ew,rfl⟩
      ·rw [ew,Oper.upon_value]
       exact hK _ _ _ _ _ hA e' r' hv
      ·rw [ew,Oper.upon_skip]
       exact hK _ _ _ _ _ hA e' r' hv
     ·exact hA.elim
    ·simp only [hw]
     exact skip hB
   split at hb
   ·rename_i z k n ps pX
    cases hb
    refine fin _ rfl (fun d s' sN=>?_)
    split at sN
    ·exact By pX r ht sN
    ·exact ve pX r ht sN
   ·rename_i ao pX
    cases hb
    exact fin _ rfl (fun d s' sN=>ve pX r ht sN)
   ·cases hb
structure P5 (M:Map) (s:St) (b:Nat):Prop where
 o : ∀ o,o<s.aj.length→M.mu o≠b
 t : ∀ t c z,s.live t→M.be t≠some (b,c,z)
 g : ∀ off,M.G b off=none
theorem P5.mono {M M':Map} {s s':St} {w w':World} {b:Nat} (h:P5 M s b) (e:Ext M s w M' s' w') (hb:b<w.heap.size):P5 M' s' b:=by
 refine⟨fun o ho=>?_,fun t c z hl he=>?_,fun off=>?_⟩
 ·rcases e.mo ho with ⟨h1,h2⟩ | h1
  ·rw[h2];exact h.o o h1
  ·omega
 ·rcases e.rD t b c z hl he with ⟨h1,c',z',h2⟩ | h1
  ·exact h.t t c' z' h1 h2
  ·omega
 ·by_cases hg:M'.G b off=M.G b off
  ·rw[hg];exact h.g off
  ·rcases e.sq b off hg with h1 | ⟨t,c,z,h1,h2⟩
   ·omega
   ·exact(h.t t c z h1 h2).elim
theorem Rel.idle {M:Map} {s:St} {w:World} (r:Rel M s w) (x:Obj):Rel M s (w.alloc x)∧Ext M s w M s (w.alloc x)∧P5 M s w.heap.size:=by
 refine⟨⟨fun b o v e=>?_,fun o ds e=>?_,r.km,r.inj,fun t n e=>?_,r.fM,r.gQ⟩, ?_,⟨fun o ho=>?_,fun t c z hl e=>?_,fun off=>r.Rg (Nat.le_refl _) off⟩⟩
 ·obtain⟨h3,h4⟩:=r.comm b o v e
  refine⟨?_,h4⟩
  rw[World.cell?_alloc_lt]
  ·exact h3
  ·exact r.Dn e
 ·obtain⟨vs,T,h3,h4,h5,h6⟩:=r.obj o ds e
  exact⟨vs,T,h3.keep (heap_alloc_old w _ _ h3.lt),h4,h5,h6⟩
 ·rcases r.tok t n e with h3 | ⟨b,cap,size,gv,T',h3,h4,h5⟩
  ·exact .inl h3
  ·exact .inr ⟨b,cap,size,gv,T',h3,by rw[heap_alloc_old w _ _ (lu h4)];exact h4,h5⟩
 ·exact⟨Le.refl M s,fun b hb _ _=>heap_alloc_old w _ b hb,fun o h3 h4=>by rcases h3 with h3|h3;omega;exact(h3 rfl).elim,fun t b c z h e=> .inl ⟨h,c,z,e⟩,fun _ _ h=>(h rfl).elim,by simp,rfl,rfl,rfl⟩
 ·have:=r.sb ho;omega
 ·have:=r.u9 hl e;omega
theorem Rel.aky {M:Map} {s:St} {w:World} (r:Rel M s w) {B:ic} (e:Ext B.M B.s B.w M s w) {b:Nat} (u:P5 M s b) (hb:B.w.heap.size≤b)
 (ds:List D) (vs:Array Value) (T:TypeId) (hh:w.heap[b]? = some (.cells vs T (0,0))) (hl:vs.size=ds.length) (h1 : ∀ v∈vs,v.oneCell'=true)
 (h2 : ∀ (i:Nat) (d:D) (v:Value),ds[i]? = some d→vs[i]? = some v→RD M s d v) :
 Rel (M.eJ s.aj.length b) {s with aj:=s.aj++ [ds]} w∧Ext B.M B.s B.w (M.eJ s.aj.length b) {s with aj:=s.aj++ [ds]} w∧
 Le M s (M.eJ s.aj.length b) {s with aj:=s.aj++ [ds]}:=by
 have le:=uC (M:=M) s b ds
 have oE : ∀ o,o<s.aj.length→(M.eJ s.aj.length b).mu o=M.mu o:=fun o ho=>congrArg Prod.fst (vB M b .any ho)
 have dw:(M.eJ s.aj.length b).mu s.aj.length=b:=by simp[Map.eJ,Map.mu]
 refine⟨⟨r.comm,fun o pk e'=>?_,fun o ho off=>?_,fun o o' ho po e'=>?_,r.tok,fun t b' c z o hl e' ho=>?_,r.gQ⟩, ?_,le⟩
 ·rcases Nat.lt_or_ge o s.aj.length with ho | ho
  ·rw [List.getElem?_append_left ho]at e'
   obtain⟨gv,T',h3,h4,h5,h6⟩:=r.obj o pk e'
   refine⟨gv,T', ?_,h4,⟨h5.1,by rw[le.ty o ho];exact h5.2⟩,fun i d v e1 e2=>(h6 i d v e1 e2).mono le⟩
   rw[vB M b .any ho];exact h3
  ·rw [List.getElem?_append_right ho]at e'
   have:o=s.aj.length:=by
    have:=(List.getElem?_eq_some_iff.1 e').1
    simp at this;omega
   subst this
   simp at e';subst e'
   refine⟨vs,T, ?_,hl,⟨h1,fun T' h=>by simp[Map.eJ,Map.ty,Ob.ty?]at h⟩,fun i d v e1 e2=>(h2 i d v e1 e2).mono le⟩
   have hl:(M.eJ s.aj.length b).loc s.aj.length=(b, .any):=by simp[Map.eJ]
   rw[hl];exact jx.of hh trivial
 ·simp at ho
  rcases Nat.lt_or_ge o s.aj.length with h3|h3
  ·rw[oE o h3];exact r.km o h3 off
  ·have:o=s.aj.length:=by omega
   subst this
   rw[dw];exact u.g off
 ·simp at ho po
  rcases Nat.lt_or_ge o s.aj.length with h3|h3<;>rcases Nat.lt_or_ge o' s.aj.length with h4|h4
  ·rw[oE o h3,oE o' h4]at e';exact r.inj o o' h3 h4 e'
  ·have:o'=s.aj.length:=by omega
   subst this
   rw[oE o h3,dw]at e'
   exact(u.o o h3 e').elim
  ·have:o=s.aj.length:=by omega
   subst this
   rw[oE o' h4,dw]at e'
   exact(u.o o' h4 e'.symm).elim
  ·omega
 ·simp at ho
  rcases Nat.lt_or_ge o s.aj.length with h3|h3
  ·rw[oE o h3];exact r.fM t b' c z o hl e' h3
  ·have:o=s.aj.length:=by omega
   subst this
   rw[dw]
   intro he
   subst he
   exact u.t t c z hl e'
 ·refine⟨e.le.trans le,e.kept,fun o h3 h4=> ?_,e.rD,e.sq,e.size,e.os,e.tape,e.output⟩
  simp at h4
  rcases Nat.lt_or_ge o s.aj.length with h5|h5
  ·rw[oE o h5]at h3 ⊢;exact e.sn o h3 h5
  ·have:o=s.aj.length:=by omega
   subst this
   rw[dw];exact hb
theorem O1 {nt:Nat} {ops:Array Oper} {i:Nat} {o:Oper} {t:Nat} {z:List D} (hi:ops[i]? = some o) (hc:cI P nt ops o=some (.op (some t) none (.alloc z)))
 {w:World} {act:Act} {K:Act→World→Prop} {Q:Exit→Act→World→Prop}
 (hK : ∀ vs T,vs.size=z.length→(∀ v∈vs,v.oneCell'=true)→(∀ (M:Map) (s:St) (i:Nat) (d:D) (v:Value),z[i]? = some d→vs[i]? = some v→RD M s d v)→
  K (act.put (some t) (.pointer (some ⟨w.heap.size,0,none⟩))) (w.alloc (.cells vs T))):wpOp P ops Q i K act w:=by
 obtain⟨g,hg,_,hb⟩:=DH hc
 have sx:=vJ hb
 simp only[AI.dst]at sx
 simp only[wpOp,hi]
 have oi:g=none∧G3 P o=some (.alloc z):=by
  unfold u7 at hb
  split at hb
  ·split at hb
   ·obtain⟨xs,_,h⟩:=map_some hb;cases h
   ·cases hb
  ·obtain⟨xs,_,h⟩:=map_some hb;cases h
  ·split at hb
   ·cases hb
   ·split at hb
    ·rename_i pX
     simp only[Option.some.injEq,AI.op.injEq]at hb
     obtain⟨_,_,h⟩:=hb
     split at h<;>cases h
    ·rename_i ao pX
     simp only[Option.some.injEq,AI.op.injEq]at hb
     obtain⟨_,h1,h2⟩:=hb
     subst h2
     exact⟨h1,pX⟩
    ·cases hb
 obtain⟨rfl,pX⟩:=oi
 obtain⟨T,hT,hz⟩:=Vr pX
 have hw:Region.wanted o (yielded ops act.tmps)=true:=by
  have:o.guard=none:=by
   cases JU:o.guard with
   |none=>rfl
   |some p=>
    obtain⟨j,b⟩:=p
    rw[JU]at hg
    unfold xq at hg
    simp only at hg
    split at hg<;>cases hg
  simp[Region.wanted,this]
 simp only[hw,if_true]
 left
 unfold zeroOf at hz
 split at hz
 ·rename_i inf RM
  split at hz
  ·rename_i v hv
   split at hz
   ·have ew:(execOp act.eval o).run P w = .ok (.value (.pointer (some ⟨w.heap.size,0,none⟩))) (w.alloc (.cells v.cells T)):=by
     obtain⟨dst,op,type,pos,after,guard⟩:=o
     simp only at hT
     subst hT
     simp[execOp,Instr.alloc,zeroValue,gZ P RM,hv,newVar,newRow]
    have h3:=fun M s=>mS (M:=M) (s:=s) hz
    obtain⟨h1,h2,_⟩:=h3 ⟨fun _ _=>none,fun _=>(0, .any),fun _=>none⟩ ⟨[],[]⟩
    unfold Oper.wp
    rw[ew,Oper.upon_value, ← sx]
    exact hK _ _ (by rw[h1];simp) (fun u hu=>h2 u (by simpa using hu)) (fun M s i d u e1 e2=>(h3 M s).2.2 i d u e1 (by simpa using e2))
   ·cases hz
  ·cases hz
 ·cases hz
end
end Go.Abs
namespace Go.Abs
section
variable {is:List AI} {af pt:List (List Nat)}
theorem CH {pq:List Nat} {l l':List Nat} (h:l'.Sublist l) (hb:mI is pq l=true):mI is pq l'=true:=by
 induction h with
 |slnil=>rfl
 |cons a h ih=>
  simp only[mI,Bool.and_eq_true]at hb
  exact ih hb.2
 |cons_cons a h ih=>
  simp only[mI,Bool.and_eq_true,Bool.or_eq_true]at hb ⊢
  refine⟨hb.1.imp id fun h1=>?_,ih hb.2⟩
  rw[List.all_eq_true]at h1 ⊢
  exact fun x hx=>h1 x (h.subset hx)
theorem EI {f:Nat→Bool} {l l':List Nat} (h:l'.Sublist l) (ha:l.all f=true):l'.all f=true:=by
 rw[List.all_eq_true]at ha ⊢
 exact fun x hx=>ha x (h.subset hx)
theorem O2 {l l':List Nat} (h:l'.Sublist l):kQ is l'≤kQ is l:=(h.filter _).length_le
theorem RX {pre I9:List Nat} {q b:Nat} (h:I9.Sublist pre) (hs:qA is pt pre q b=true):qA is pt I9 q b=true:=by
 unfold qA at *
 split at hs
 ·exact EI h hs
 ·exact EI h hs
 ·simp only [Bool.and_eq_true]at hs ⊢
  exact⟨EI h hs.1,CH h hs.2⟩
 ·simp only [Bool.and_eq_true,decide_eq_true_eq]at hs ⊢
  exact⟨⟨EI h hs.1.1,CH h hs.1.2⟩,Nat.le_trans (O2 (h.filter _)) hs.2⟩
theorem Mw : ∀ {R:List (Nat×Nat)} {pre I9:List Nat},I9.Sublist pre→wH is af pt pre R=true→wH is af pt I9 R=true
 | [],_,_,_,_=>rfl
 |(q,b)::R,pre,I9,h,ho=>by
  simp only[wH,Bool.and_eq_true,Bool.not_eq_true']at ho ⊢
  obtain⟨⟨⟨h1,h2⟩,h3⟩,h4⟩:=ho
  refine⟨⟨⟨RX h h1, ?_⟩,h3⟩,Mw (h.cons_cons q) h4⟩
  rw[← Bool.not_eq_true,List.contains_iff_mem]at h2 ⊢
  exact fun hm=>h2 (h.subset hm)
theorem Ja : ∀ {X:List (Nat×Nat)} {e:Nat×Nat} {Y:List (Nat×Nat)} {pre:List Nat},wH is af pt pre (X++e::Y)=true→wH is af pt pre (X++Y)=true
 | [],(q,b),Y,pre,h=>by
  simp only[List.nil_append,wH,Bool.and_eq_true]at h
  exact Mw (List.sublist_cons_self q pre) h.2
 |(a,c)::X,e,Y,pre,h=>by
  simp only[List.cons_append,wH,Bool.and_eq_true]at h ⊢
  obtain⟨⟨⟨h1,h2⟩,h3⟩,h4⟩:=h
  refine⟨⟨⟨h1,h2⟩, ?_⟩,Ja h4⟩
  rw[List.all_eq_true]at h3 ⊢
  intro j hj
  have:=h3 j hj
  simp only[Bool.and_eq_true,Bool.not_eq_true']at this ⊢
  refine⟨this.1, ?_⟩
  have h5:=this.2
  rw[← Bool.not_eq_true,List.contains_iff_mem]at h5 ⊢
  refine fun hm=>h5 ?_
  simp only[List.map_append,List.map_cons,List.mem_append,List.mem_cons]at hm ⊢
  exact hm.imp id .inr
theorem vL : ∀ {X:List (Nat×Nat)} {q b:Nat} {Y:List (Nat×Nat)} {pre:List Nat},wH is af pt pre (X++(q,b)::Y)=true→
 qA is pt ((X.map (·.1)).reverse++pre) q b=true∧q∉X.map (·.1)∧q∉pre∧(∀ j∈ji af q,j≠q∧j∉Y.map (·.1))∧wH is af pt (q::((X.map (·.1)).reverse++pre)) Y=true
 | [],q,b,Y,pre,h=>by
  simp only[List.nil_append,wH,Bool.and_eq_true,Bool.not_eq_true']at h
  obtain⟨⟨⟨h1,h2⟩,h3⟩,h4⟩:=h
  rw[← Bool.not_eq_true,List.contains_iff_mem]at h2
  refine⟨h1,by simp,h2,fun j hj=>?_,h4⟩
  rw[List.all_eq_true]at h3
  have:=h3 j hj
  simp only[Bool.and_eq_true,bne_iff_ne,Bool.not_eq_true', ← Bool.not_eq_true,List.contains_iff_mem]at this
  exact this
 |(a,c)::X,q,b,Y,pre,h=>by
  simp only[List.cons_append,wH,Bool.and_eq_true]at h
  obtain⟨_,h4⟩:=h
  obtain⟨g1,g2,g3,g4,g5⟩:=vL h4
  simp only[List.map_cons,List.reverse_cons,List.append_assoc,List.singleton_append]
  refine⟨g1, ?_,fun h=>g3 (List.mem_cons_of_mem _ h),g4,g5⟩
  intro hm
  rcases List.mem_cons.1 hm with rfl|hm
  ·exact g3 (by simp)
  ·exact g2 hm
theorem EJ : ∀ {Y:List (Nat×Nat)} {pre:List Nat},wH is af pt pre Y=true→∀ x∈Y,x.1∉pre∧(kz is x.1 = .alloc→∀ a∈pre,mP is a x.1=true)
 | [],_,_,x,hx=>by cases hx
 | (q,b)::Y,pre,h,x,hx=>by
  simp only[wH,Bool.and_eq_true,Bool.not_eq_true']at h
  obtain⟨⟨⟨h1,h2⟩,_⟩,h4⟩:=h
  rw[← Bool.not_eq_true,List.contains_iff_mem]at h2
  rcases List.mem_cons.1 hx with rfl|hx
  ·refine⟨h2,fun hk a ha=> ?_⟩
   unfold qA at h1
   simp only[hk]at h1
   rw[List.all_eq_true]at h1
   exact h1 a ha
  ·obtain⟨g1,g2⟩:=EJ h4 x hx
   exact⟨fun h=>g1 (List.mem_cons_of_mem _ h),fun hk a ha=>g2 hk a (List.mem_cons_of_mem _ ha)⟩
theorem Fy : ∀ {n:Nat},Av af pt n=true→∀ i,i<n→∀ j∈ji pt i,j∈ji af i∨∃ k∈ji af i,j∈ji pt k
 | 0,_,i,hi=>by omega
 | n+1,h,i,hi=>by
  simp only[Av,Bool.and_eq_true]at h
  rcases Nat.lt_or_ge i n with h1|h1
  ·exact Fy h.2 i h1
  ·have:i=n:=by omega
   subst this
   intro j hj
   have:=h.1
   rw[List.all_eq_true]at this
   have:=this j hj
   simp only[Bool.or_eq_true,List.contains_iff_mem,List.any_eq_true]at this
   exact this
theorem AT {pq:List Nat} : ∀ {l:List Nat},mI is pq l=true→∀ (x:Nat) (l1 l2:List Nat),l=l1++x::l2→kz is x = .alloc→x∈pq→∀ y∈l2,y∈pq
 | [],_,x,l1,l2,h=>by simp at h
 | a::l,hb,x,l1,l2,h=>by
  simp only[mI,Bool.and_eq_true,Bool.or_eq_true,Bool.not_eq_true',Bool.and_eq_false_iff]at hb
  intro hk hx y hy
  cases l1 with
  | nil=>
   simp only[List.nil_append,List.cons.injEq]at h
   obtain⟨rfl,rfl⟩:=h
   rcases hb.1 with h1|h1
   ·rcases h1 with h1 | h1
    ·simp[hk]at h1
    ·rw [← Bool.not_eq_true,List.contains_iff_mem]at h1
     exact(h1 hx).elim
   ·rw [List.all_eq_true]at h1
    have:=h1 y hy
    rwa [List.contains_iff_mem]at this
  |cons b l1=>
   simp only[List.cons_append,List.cons.injEq]at h
   exact AT hb.2 x l1 l2 h.2 hk hx y hy
end
structure Pd where
 q:Nat
 t:Nat
 z:List D
 b:Nat
structure agc (is:List AI) (R:List (Nat×Nat)) (B:ic) (M:Map) (s:St) (act:Act) (w:World) (p:Pd):Prop where
 mem:p.q∈R.map (·.1)
 ai:is[p.q]? = some (.op (some p.t) none (.alloc p.z))
 cells : ∃ (vs:Array Value) (T:TypeId),w.heap[p.b]? = some (.cells vs T (0,0))∧vs.size=p.z.length∧(∀ v∈vs,v.oneCell'=true)∧
  ∀ (M:Map) (s:St) (i:Nat) (d:D) (v:Value),p.z[i]? = some d→vs[i]? = some v→RD M s d v
 unk:P5 M s p.b
 base:B.w.heap.size≤p.b
 slot:act.tmps.getD p.t Go.undef = .pointer (some ⟨p.b,0,none⟩)
def BF (P:Program) (is:List AI) (K:Tm→St→Prop) (B:ic) (nt:Nat) (R:List (Nat×Nat)) (fm:List Pd) (act:Act) (w:World):Prop:=
 ∃ (M:Map) (s:St) (tm vM:Tm) (bO:List St),Ext B.M B.s B.w M s w∧Rel M s w∧nP M s vM act.tmps∧(∀ t,(∀ p∈fm,p.t≠t)→vM.get t=tm.get t)∧
  act.tmps.size=nt∧act.defers = []∧mw P is K R bO tm s∧(∀ p∈fm,agc is R B M s act w p)∧
  (∀ p∈fm,∀ p'∈fm,p.q=p'.q∨p.t=p'.t∨p.b=p'.b→p=p')
structure tt (is:List AI) (af pt:List (List Nat)) (dJ:Array Bool) (R:List (Nat×Nat)) (fm:List Pd):Prop where
 ok:wH is af pt [] R=true
 J7 : ∀ i,i<is.length→(dJ.getD i false=true↔(i∉R.map (·.1)∨∃ p∈fm,p.q=i))
 cl : ∀ i,i<is.length→dJ.getD i false=true→∀ j∈ji pt i,dJ.getD j false=true
 size:dJ.size=is.length
 lt : ∀ x∈R,x.1<is.length
section
variable {P:Program} {is:List AI} {af pt:List (List Nat)} {K:Tm→St→Prop} {B:ic} {nt:Nat}
theorem agd {dJ:Array Bool} {q b:Nat} {R:List (Nat×Nat)} {fm:List Pd} {act:Act} {w:World} (hs:tt is af pt dJ ((q,b)::R) fm) (h:BF P is K B nt ((q,b)::R) fm act w)
 {p:Pd} (hp:p∈fm) (sP:p.q=q) :
 tt is af pt dJ R (fm.filter fun p'=>decide (p'.q≠q))∧BF P is K B nt R (fm.filter fun p'=>decide (p'.q≠q)) act w:=by
 have iO : ∀ p',p'∈(fm.filter fun p'=>decide (p'.q≠q))↔p'∈fm∧p'.q≠q:=fun p'=>by simp
 constructor
 ·have nU:=hs.ok
  have BG:=vL (X:= []) nU
  refine⟨Ja (X:= []) nU,fun i hi=>?_,hs.cl,hs.size,fun x hx=>hs.lt x (List.mem_cons_of_mem _ hx)⟩
  rw[hs.J7 i hi]
  simp only[List.map_cons,List.mem_cons,not_or]
  have hqR:q∉R.map (·.1):=fun hm=>by
   obtain⟨x,hx,rfl⟩:=List.mem_map.1 hm
   exact(EJ BG.2.2.2.2 x hx).1 (by simp)
  constructor
  ·rintro(⟨h1,h2⟩ | ⟨p',h1,h2⟩)
   ·exact .inl h2
   ·by_cases hq:i=q
    ·subst hq;exact .inl hqR
    ·exact .inr ⟨p',(iO p').2 ⟨h1,by rw[h2];exact hq⟩,h2⟩
  ·rintro(h1 | ⟨p',h1,h2⟩)
   ·by_cases hq:i=q
    ·subst hq;exact .inr ⟨p,hp,sP⟩
    ·exact .inl ⟨hq,h1⟩
   ·exact .inr ⟨p',((iO p').1 h1).1,h2⟩
 ·obtain⟨M,s,tm,vM,bO,e,r,ht,se,hn,hd,hg,yQ,vi⟩:=h
  have hk:=yQ p hp
  obtain⟨vs,T,hh,hl,h1,h2⟩:=hk.cells
  have yN:=hk.ai
  rw[sP]at yN
  simp only[mw,yN,AI.kind,iT]at hg
  obtain⟨d,s',iL,hg⟩:=hg
  have sN:aY (.alloc p.z) tm s=some (d,s'):=iL
  simp only[aY,Option.some.injEq,Prod.mk.injEq]at sN
  obtain⟨rfl,rfl⟩:=sN
  obtain⟨r',e',le⟩:=r.aky e hk.unk hk.base p.z vs T hh hl h1 (h2 M s)
  refine⟨_,_,_,vM.put (some p.t) (.ptr s.aj.length 0),_,e',r',fun u=>?_,fun t P6=>?_,hn,hd,hg,fun p' oA=>?_,fun p1 h1 p2 h2=>vi p1 ((iO p1).1 h1).1 p2 ((iO p2).1 h2).1⟩
  ·rw [Tm.mU]
   split
   ·rename_i heq
    cases heq
    rw[hk.slot]
    have:(M.eJ s.aj.length p.b).mu s.aj.length=p.b:=by simp[Map.eJ,Map.mu]
    have h5:=RD.ptr (M:=M.eJ s.aj.length p.b) (s:= {s with aj:=s.aj++ [p.z]}) s.aj.length 0 (by simp) (by simp[Map.eJ,Map.ob,Ob.plain])
    rw[this]at h5
    exact h5
   ·exact(ht u).mono le
  ·simp only [AI.dst]
   rw[Tm.mU,Tm.mU]
   split
   ·rfl
   ·rename_i fu
    refine se t fun p' oA=>?_
    by_cases hq:p'.q=q
    ·have:=vi p' oA p hp (.inl (hq.trans sP.symm))
     subst this
     exact fun h=>fu (by rw[h])
    ·exact P6 p' ((iO p').2 ⟨oA,hq⟩)
  ·obtain⟨hp1,hp2⟩:=(iO p').1 oA
   have wG:=yQ p' hp1
   refine⟨?_,wG.ai,wG.cells,⟨fun o ho=>?_,wG.unk.t,wG.unk.g⟩,wG.base,wG.slot⟩
   ·have:=wG.mem
    simp only[List.map_cons,List.mem_cons]at this
    exact this.resolve_left hp2
   ·simp at ho
    rcases Nat.lt_or_ge o s.aj.length with h5|h5
    ·rw[show(M.eJ s.aj.length p.b).mu o=M.mu o from congrArg Prod.fst (vB M p.b .any h5)];exact wG.unk.o o h5
    ·have:o=s.aj.length:=by omega
     subst this
     have:(M.eJ s.aj.length p.b).mu s.aj.length=p.b:=by simp[Map.eJ,Map.mu]
     rw[this]
     intro hb
     have:=vi p hp p' hp1 (.inr (.inr hb))
     subst this
     exact hp2 sP
theorem norm {dJ:Array Bool} {act:Act} {w:World} : ∀ (R:List (Nat×Nat)) (fm:List Pd),tt is af pt dJ R fm→BF P is K B nt R fm act w→
 ∃ R' yR,tt is af pt dJ R' yR∧BF P is K B nt R' yR act w∧∀ x l,R'=x::l→∀ p∈yR,p.q≠x.1
 | [],fm,hs,h=>⟨[],fm,hs,h,fun _ _ he=>by cases he⟩
 | (q,b)::R,fm,hs,h=>by
  by_cases hp : ∃ p∈fm,p.q=q
  ·obtain⟨p,hp,sP⟩:=hp
   obtain⟨h1,h2⟩:=agd hs h hp sP
   exact norm R _ h1 h2
  ·refine⟨(q,b)::R,fm,hs,h,fun x l he p hpm sP=>hp ⟨p,hpm, ?_⟩⟩
   cases he
   exact sP
theorem abD {ops:Array Oper} {q:Nat} {o:Oper} {ai:AI} (hi:ops[q]? = some o) (hc:cI P nt ops o=some ai) {R R':List (Nat×Nat)} {fm:List Pd} {act:Act} {w:World} {M:Map} {s s1:St} {tm vM:Tm} {d:D} {abE:List St}
 (e:Ext B.M B.s B.w M s w) (r:Rel M s w) (ht:nP M s vM act.tmps) (se : ∀ t,(∀ p∈fm,p.t≠t)→vM.get t=tm.get t) (hn:act.tmps.size=nt) (hd:act.defers = [])
 (yQ : ∀ p∈fm,agc is R B M s act w p) (vi : ∀ p∈fm,∀ p'∈fm,p.q=p'.q∨p.t=p'.t∨p.b=p'.b→p=p')
 (hv:jT P [ai] (fun a b=>a=vM.put ai.dst d∧b=s1) vM s) (hg:mw P is K R' abE (tm.put ai.dst d) s1)
 (iO : ∀ p∈fm,p.q∈R'.map (·.1)) (sx : ∀ p∈fm,ai.dst≠some p.t) {Q:Exit→Act→World→Prop} :
 wpOp P ops Q q (BF P is K B nt R' fm) act w:=by
 refine zO hi hc r (B.laid.ext e) ht hv fun d' v s2 w1 M1 hk e1 r1 jI=>?_
 obtain⟨yG,rfl⟩:=hk
 have hde:=vK hc
 have hD : ∀ t,o.dst=some t→t<act.tmps.size:=fun t h=>by rw[hn];exact AP hc t h
 refine⟨M1,s2,tm.put ai.dst d,vM.put ai.dst d,abE,e.trans e1,r1, ?_,fun t P6=>?_, ?_, ?_,hg,fun p hp=>?_,vi⟩
 ·rw [← yG,hde]
  exact(ht.mono e1.le).put hD jI
 ·rw[Tm.mU,Tm.mU,se t P6]
 ·cases ho:o.dst<;>simp[Act.put,hn]
 ·cases ho:o.dst<;>simp[Act.put,hd]
 ·have hk:=yQ p hp
  obtain⟨vs,T,hh,hl,h1,h2⟩:=hk.cells
  have hb:=lu hh
  refine⟨iO p hp,hk.ai,⟨vs,T,by rw[e1.kept p.b hb hk.unk.o hk.unk.t];exact hh,hl,h1,h2⟩,hk.unk.mono e1 hb,hk.base, ?_⟩
  rw[← hk.slot]
  have:=sx p hp
  rw[hde]at this
  cases ho:o.dst with
  |none=>rfl
  |some t=>
   rw[ho]at this
   have fu:t≠p.t:=fun h=>this (by rw[h])
   simp[Act.put,Array.getElem?_setIfInBounds_ne fu]
theorem RY {ai:AI} (hm:iT ai.kind=false) {tm:Tm} {s:St} {d:D} (h:la ai tm s=some d):jT P [ai] (fun a b=>a=tm.put ai.dst d∧b=s) tm s:=by
 cases ai with
 | op dst g o=>
  have hko:=P4 hm
  have key : ∀ {d},(aY o tm s).map (·.1)=some d→aY o tm s=some (d,s):=by
   intro d h
   cases he:aY o tm s with
   |none=>rw[he]at h;cases h
   |some p=>
    obtain⟨d',s'⟩:=p
    rw[he]at h
    simp only[Option.map_some,Option.some.injEq]at h
    subst h
    rw[O0 (by rw[← hko];exact hm) he]
  simp only[jT,AI.dst]
  cases g with
  |none=>
   simp only[la]at h
   simp only[guarded,key h,and_self]
  | some p=>
   obtain⟨t,want⟩:=p
   simp only[la]at h
   simp only[guarded]
   split at h
   ·rename_i b hb
    simp only[hb]
    split at h
    ·rename_i heq
     refine⟨fun _=>by simp only[key h,and_self],fun fu=>?_⟩
     subst heq
     cases b<;>cases fu
    ·rename_i fu
     cases h
     exact⟨fun heq=>(fu heq).elim,fun _=>by simp⟩
   ·rename_i ds hb
    cases h
    simp only[hb,and_self]
   ·cases h
 |call dst g f xs=>cases hm
 |nil dst g n x=>cases hm
 |ky dst g t xs=>cases hm
theorem DI {g:Option (Nat×Bool)} {tm:Tm} {A A' C C':Prop} (ha:A→A') (hc:C→C') (hh:guarded g tm A C):guarded g tm A' C':=by
 cases g with
 |none=>exact ha hh
 | some p=>
  obtain⟨t,want⟩:=p
  unfold guarded at *
  simp only at *
  split
  ·rename_i b hb;rw[hb]at hh;exact⟨fun e=>ha (hh.1 e),fun e=>hc (hh.2 e)⟩
  ·rename_i hb;rw[hb]at hh;exact hc hh
  ·rename_i x h1 h2
   split at hh
   ·exact h1 _ ‹_›
   ·exact h2 _ ‹_›
   ·exact hh
theorem Mx {ai:AI} {tm:Tm} {s s1:St} {d:D} (h:vf P ai tm s d s1):jT P [ai] (fun a b=>a=tm.put ai.dst d∧b=s1) tm s:=by
 cases ai with
 |op dst g o=>
  refine DI (fun e=>?_) (fun e=>?_) h
  ·rw[e];exact⟨rfl,rfl⟩
  ·obtain⟨rfl,rfl⟩:=e;exact⟨rfl,rfl⟩
 |call dst g f xs=>
  refine DI (fun e=>?_) (fun e=>?_) h
  ·exact e.mono fun x y hxy=>by obtain⟨rfl,rfl⟩:=hxy;exact⟨rfl,rfl⟩
  ·obtain⟨rfl,rfl⟩:=e;exact⟨rfl,rfl⟩
 |nil dst g n x=>exact h.elim
 |ky dst g t xs=>exact h.elim
end
end Go.Abs
namespace Go.Abs
section
variable {P:Program} {is:List AI} {af pt:List (List Nat)} {K:Tm→St→Prop} {B:ic} {nt:Nat}
theorem EK {ops:Array Oper} : ∀ {ol:List Oper} {is:List AI},s5 P nt ops ol=some is→is.length=ol.length∧∀ (i:Nat) (o:Oper),ol[i]? = some o→∃ ai,is[i]? = some ai∧cI P nt ops o=some ai
 | [],is,h=>by cases h;exact⟨rfl,by simp⟩
 | o::ol,is,h=>by
  unfold s5 at h
  split at h
  ·rename_i ai Vg h1 h2
   cases h
   obtain⟨g1,g2⟩:=EK h2
   refine⟨by simp[g1],fun i o' ho=>?_⟩
   cases i with
   |zero=>simp at ho;subst ho;exact⟨ai,rfl,h1⟩
   |succ i=>exact g2 i o' (by simpa using ho)
  ·cases h
theorem vj {dJ:Array Bool} {i:Nat} (h:i<dJ.size):dJ.getD i true=dJ.getD i false:=by
 simp[h]
theorem tt.done {dJ:Array Bool} {X Y:List (Nat×Nat)} {q b:Nat} {fm:List Pd} (hs:tt is af pt dJ (X++(q,b)::Y) fm) (hq:q<is.length)
 (kV : ∀ j∈ji pt q,dJ.getD j false=true):tt is af pt (dJ.setIfInBounds q true) (X++Y) fm:=by
 obtain⟨g1,g2,g3,g4,g5⟩:=vL hs.ok
 have hqY:q∉Y.map (·.1):=fun hm=>by
  obtain⟨x,hx,rfl⟩:=List.mem_map.1 hm
  exact(EJ g5 x hx).1 (by simp)
 refine⟨Ja hs.ok,fun i hi=>?_,fun i hi hl j hj=>?_,by simp[hs.size],fun x hx=>hs.lt x (by simp at hx ⊢;exact hx.imp id .inr)⟩
 ·by_cases wL:i=q
  ·subst wL
   have:i<dJ.size:=by rw[hs.size];exact hq
   simp only[List.map_append,List.mem_append,g2,hqY,or_self,not_false_eq_true,true_or,iff_true]
   simp[this]
  ·rw [getD_set_ne false (Ne.symm wL),hs.J7 i hi]
   simp[wL]
 ·by_cases wL:i=q
  ·subst wL;exact getD_set_true (kV j hj)
  ·rw [getD_set_ne false (Ne.symm wL)]at hl
   exact getD_set_true (hs.cl i hi hl j hj)
theorem tt.flag {dJ:Array Bool} {R:List (Nat×Nat)} {fm:List Pd} (hs:tt is af pt dJ R fm) {p:Pd} (hq:p.q<is.length)
 (kV : ∀ j∈ji pt p.q,dJ.getD j false=true):tt is af pt (dJ.setIfInBounds p.q true) R (p::fm):=by
 refine⟨hs.ok,fun i hi=>?_,fun i hi hl j hj=>?_,by simp[hs.size],hs.lt⟩
 ·by_cases wL:i=p.q
  ·subst wL
   have:p.q<dJ.size:=by rw[hs.size];exact hq
   simp[this]
  ·rw [getD_set_ne false (Ne.symm wL),hs.J7 i hi]
   have fu:p.q≠i:=fun h=>wL h.symm
   simp[fu]
 ·by_cases wL:i=p.q
  ·subst wL;exact getD_set_true (kV j hj)
  ·rw [getD_set_ne false (Ne.symm wL)]at hl
   exact getD_set_true (hs.cl i hi hl j hj)
theorem RZ {ai:AI} (h:ai.kind = .alloc) : ∃ t z,ai = .op (some t) none (.alloc z):=by
 cases ai with
 | op dst g o=>
  unfold AI.kind at h
  split at h
  ·rename_i heq;cases heq;exact⟨_,_,rfl⟩
  ·rename_i heq
   cases heq
   exfalso
   revert h
   cases o<;>simp[AO.kind]
  ·cases h
 |call dst g f xs=>cases h
 |nil dst g n x=>cases h
 |ky dst g t xs=>cases h
theorem R0 {ops:Array Oper} (zP:s5 P nt ops ops.toList=some is) (R3:Av af pt is.length=true)
 (hK : ∀ tm bE s,Tm.eqv tm bE→K tm s→K bE s) {dJ:Array Bool} {R:List (Nat×Nat)} {fm:List Pd} {act:Act} {w:World} (hs:tt is af pt dJ R fm) (h:BF P is K B nt R fm act w)
 (akA : ∀ x l,R=x::l→∀ p∈fm,p.q≠x.1) {q:Nat} (hq:q<is.length) (Ho:dJ.getD q false=false) (jI : ∀ j∈ji af q,j<is.length∧dJ.getD j false=true)
 {Q:Exit→Act→World→Prop} {K2:Act→World→Prop} (hK2 : ∀ R' yR a' w',tt is af pt (dJ.setIfInBounds q true) R' yR→BF P is K B nt R' yR a' w'→K2 a' w'):wpOp P ops Q q K2 act w:=by
 obtain⟨hlen,gA⟩:=EK zP
 have vH:q<ops.size:=by rw[hlen]at hq;simpa using hq
 obtain⟨ai,yN,Vt⟩:=gA q ops[q] (by simp[vH])
 have hi:ops[q]? = some ops[q]:=by simp[vH]
 have kV : ∀ j∈ji pt q,dJ.getD j false=true:=fun j hj=>by
  rcases Fy R3 q hq j hj with h1|⟨k,h1,h2⟩
  ·exact(jI j h1).2
  ·exact hs.cl k (jI k h1).1 (jI k h1).2 j h2
 have Vu : ∀ p∈fm,p.q≠q:=fun p hp sP=>by
  have:=(hs.J7 q hq).2 (.inr ⟨p,hp,sP⟩)
  rw[Ho]at this;cases this
 have hqR:q∈R.map (·.1):=by
  by_cases hm:q∈R.map (·.1)
  ·exact hm
  ·have:=(hs.J7 q hq).2 (.inl hm)
   rw[Ho]at this;cases this
 obtain⟨⟨q',b⟩,hx,hqq⟩:=List.mem_map.1 hqR
 simp only at hqq
 subst hqq
 obtain⟨X,Y,rfl⟩:=List.append_of_mem hx
 obtain⟨g1,g2,g3,g4,g5⟩:=vL hs.ok
 rw[List.append_nil]at g1 g5
 obtain⟨M,s,tm,vM,bO,e,r,ht,se,hn,hd,hg,yQ,vi⟩:=h
 have Vv:kz is q'=ai.kind:=by simp[kz,yN]
 -- what must have come up ahead of it, is not here any more, but for what was allocated early
 have abF : ∀ a∈X.map (·.1),a∈ji pt q'→∃ p∈fm,p.q=a:=fun a ha fP=>by
  have h1:=kV a fP
  obtain⟨x,hxX,rfl⟩:=List.mem_map.1 ha
  rcases(hs.J7 x.1 (hs.lt x (by simp[hxX]))).1 h1 with h2|h2
  ·exact(h2 (by simp;exact .inl ⟨x.2,hxX⟩)).elim
  ·exact h2
 have abG : ∀ x l,X=x::l→x.1∉ji pt q':=fun x l hX hxp=>by
  obtain⟨p,hp,sP⟩:=abF x.1 (by simp[hX]) hxp
  exact akA x (l++(q',b)::Y) (by simp[hX]) p hp sP
 have hpk : ∀ p∈fm,kz is p.q = .alloc:=fun p hp=>by simp[kz,(yQ p hp).ai,AI.kind]
 have BG : ∀ p∈fm,(p.q∈X.map (·.1)→mP is p.q q'=true)→(∀ t,ai.dst=some t→t≠p.t)∧p.t∉ai.reads:=fun p hp hX=>by
  have hk:=yQ p hp
  have hm:=hk.mem
  simp only[List.map_append,List.map_cons,List.mem_append,List.mem_cons]at hm
  rcases hm with hm|hm|hm
  ·have:=hX hm
   simp only[mP,hk.ai,yN]at this
   obtain⟨p1,p2,p3⟩:=apart_spec this
   exact⟨fun t ht he=>p3 p.t rfl (by rw[ht,he]),p1 p.t rfl⟩
  ·exact(Vu p hp hm).elim
  ·obtain⟨x,hxY,hxq⟩:=List.mem_map.1 hm
   have:=(EJ g5 x hxY).2 (by rw[hxq];exact hpk p hp) q' (by simp)
   rw[hxq]at this
   simp only[mP,hk.ai,yN]at this
   obtain⟨p1,p2,p3⟩:=apart_spec this
   exact⟨fun t ht he=>p3 t ht (by rw[he];rfl),p2 p.t rfl⟩
 have Vw:(∀ p∈fm,p.t∉ai.reads)→∀ t∈ai.reads,tm.get t=vM.get t:=fun hp t ht=>(se t fun p hpm he=>hp p hpm (by rw[he];exact ht)).symm
 have abI : ∀ p∈fm,p.q∈(X++Y).map (·.1):=fun p hp=>by
  have hm:=(yQ p hp).mem
  have:=Vu p hp
  simp only[List.map_append,List.map_cons,List.mem_append,List.mem_cons]at hm ⊢
  rcases hm with hm|hm|hm
  ·exact .inl hm
  ·exact(this hm).elim
  ·exact .inr hm
 by_cases sQ:ai.kind = .alloc
 ·-- an allocation
  obtain⟨t,z,rfl⟩:=RZ sQ
  have fP : ∀ a∈X.map (·.1),mP is a q'=true:=fun a ha=>by
   unfold qA at g1
   rw[Vv,sQ]at g1
   simp only[List.all_reverse,List.all_eq_true]at g1
   exact g1 a ha
  have uz:=fun p hp=>BG p hp (fP p.q)
  refine O1 hi Vt fun vs T hl h1 h2=>?_
  obtain⟨r1,e1,u1⟩:=r.idle (.cells vs T)
  have agj:t<act.tmps.size:=by
   rw[hn]
   exact AP Vt t (by rw[← vK Vt];rfl)
  have:=hs.flag (p:=⟨q',t,z,w.heap.size⟩) hq kV
  refine hK2 _ _ _ _ this ⟨M,s,tm,vM.put (some t) .junk,bO,e.trans e1,r1,nP.put ht (dst:=some t) (fun u hu=>by cases hu;exact agj) (.junk _),fun u hu=>?_,by simp[Act.put,hn],by simp[Act.put,hd],hg,fun p hp=>?_,fun p hp p' oA he=>?_⟩
  ·have h3:=hu ⟨q',t,z,w.heap.size⟩ (by simp)
   rw[Tm.mU,if_neg (by simpa using h3)]
   exact se u fun p hp=>hu p (List.mem_cons_of_mem _ hp)
  ·rcases List.mem_cons.1 hp with rfl | hp
   ·refine⟨by simp,yN,⟨vs,T,heap_alloc_new w _,hl,h1,h2⟩,u1,e.size, ?_⟩
    simp[Act.put,agj]
   ·have hk:=yQ p hp
    obtain⟨gv,T',lr,mZ,uy,wK⟩:=hk.cells
    refine⟨hk.mem,hk.ai,⟨gv,T',by rw[heap_alloc_old w _ _ (lu lr)];exact lr,mZ,uy,wK⟩,hk.unk,hk.base, ?_⟩
    rw[← hk.slot]
    have fu:t≠p.t:=(uz p hp).1 t rfl
    simp[Act.put,Array.getElem?_setIfInBounds_ne fu]
  ·have dw : ∀ p∈fm,¬ (q'=p.q∨t=p.t∨w.heap.size=p.b):=fun p hp h=>by
    rcases h with h|h|h
    ·exact Vu p hp h.symm
    ·exact(uz p hp).1 t rfl h
    ·obtain⟨gv,T',lr,_⟩:=(yQ p hp).cells
     have:=lu lr
     omega
   rcases List.mem_cons.1 hp with rfl|hp<;>rcases List.mem_cons.1 oA with rfl|oA
   ·rfl
   ·exact(dw p' oA he).elim
   ·exact(dw p hp (he.imp Eq.symm (Or.imp Eq.symm Eq.symm))).elim
   ·exact vi p hp p' oA he
 ·by_cases pX:iT ai.kind=true
  ·-- a step that changes something: it stands first
   have hkc:ai.kind = .core:=by
    cases hk:ai.kind<;>simp_all [iT]
   have hX:X = []:=by
    cases X with
    |nil=>rfl
    |cons x l=>
     refine(abG x l rfl ?_).elim
     unfold qA at g1
     rw[Vv,hkc]at g1
     simp only[List.all_reverse,List.all_eq_true]at g1
     have:=g1 x.1 (by simp)
     rwa [List.contains_iff_mem]at this
   subst hX
   have uz:=fun p hp=>BG p hp (fun h=>by simp at h)
   simp only[List.nil_append,mw,yN,pX]at hg
   obtain⟨d,s1,iL,hg⟩:=hg
   have ao9:=zM (Vw fun p hp=>(uz p hp).2) iL
   refine wpOp_mono (fun a' w' hr=>hK2 _ _ _ _ (hs.done hq kV) hr) ?_
   exact abD hi Vt e r ht se hn hd yQ vi (Mx ao9) hg abI (fun p hp he=>(uz p hp).1 _ he rfl)
  ·-- a step that changes nothing
   have hm:iT ai.kind=false:=by simpa using pX
   have pH : ∀ a∈X.map (·.1),a∉ji pt q':=fun a ha fP=>by
    obtain⟨p,hp,sP⟩:=abF a ha fP
    have J1:kz is a = .alloc:=by rw[← sP];exact hpk p hp
    have l7:mI is (ji pt q') (X.map (·.1)).reverse=true:=by
     unfold qA at g1
     rw[Vv]at g1
     cases hk:ai.kind with
     |pure=>simp only[hk,Bool.and_eq_true]at g1;exact g1.2
     |load=>simp only[hk,Bool.and_eq_true]at g1;exact g1.1.2
     |alloc=>exact(sQ hk).elim
     |core=>rw[hk]at hm;cases hm
    cases X with
    |nil=>simp at ha
    | cons x l=>
     have ha2:a∈((x::l).map (·.1)).reverse:=List.mem_reverse.2 ha
     obtain⟨l1,l2,yS⟩:=List.append_of_mem ha2
     have BH:=AT l7 a l1 l2 yS J1 fP
     refine abG x l rfl ?_
     cases ku:l2.reverse with
     |nil=>
      have h3:l2 = []:=by simpa using ku
      subst h3
      have:=congrArg List.reverse yS
      simp at this
      rw[this.1];exact fP
     |cons y l3=>
      have:=congrArg List.reverse yS
      simp only[List.reverse_reverse,List.map_cons,List.reverse_append,List.reverse_cons,List.reverse_nil,List.append_assoc,ku,List.cons_append,List.nil_append,List.cons.injEq]at this
      rw[this.1]
      exact BH y (by rw[← List.mem_reverse,ku];simp)
   have fP : ∀ a∈X,mP is a.1 q'=true:=fun a ha=>by
    have h3 : ∀ x∈(X.map (·.1)).reverse,((ji pt q').contains x ||mP is x q')=true:=by
     unfold qA at g1
     rw[Vv]at g1
     cases hk:ai.kind with
     |pure=>simp only[hk,Bool.and_eq_true]at g1;exact List.all_eq_true.1 g1.1
     |load=>simp only[hk,Bool.and_eq_true]at g1;exact List.all_eq_true.1 g1.1.1
     |alloc=>exact(sQ hk).elim
     |core=>rw[hk]at hm;cases hm
    have:=h3 a.1 (List.mem_reverse.2 (List.mem_map_of_mem ha))
    simp only[Bool.or_eq_true,List.contains_iff_mem]at this
    exact this.resolve_left (pH a.1 (List.mem_map_of_mem ha))
   have agk:ai.kind = .load→kQ is (X.map (·.1))≤b:=fun hk=>by
    unfold qA at g1
    rw[Vv,hk]at g1
    simp only[Bool.and_eq_true,decide_eq_true_eq]at g1
    have h3:=g1.2
    have h4:(X.map (·.1)).reverse.filter (fun a=> !(ji pt q').contains a)=(X.map (·.1)).reverse:=by
     rw[List.filter_eq_self]
     intro a ha
     have:=pH a (List.mem_reverse.1 ha)
     simpa using this
    rw[h4]at h3
    unfold kQ at h3 ⊢
    rw[List.filter_reverse,List.length_reverse]at h3
    exact h3
   have uz:=fun p hp=>BG p hp (fun h=>by
    obtain⟨x,hx,hxq⟩:=List.mem_map.1 h
    rw[← hxq];exact fP x hx)
   obtain⟨d,h1,_,nT⟩:=zN hK yN hm Y X bO tm s fP agk hg
   have uy:la ai vM s=some d:=by rw[← sO (Vw fun p hp=>(uz p hp).2)];exact h1
   refine wpOp_mono (fun a' w' hr=>hK2 _ _ _ _ (hs.done hq kV) hr) ?_
   exact abD hi Vt e r ht se hn hd yQ vi (RY hm uy) nT abI (fun p hp he=>(uz p hp).1 _ he rfl)
theorem Fz {o:Oper} {j:Nat} : j∈oB o↔∃ e∈o.after,Region.binds .any e=true∧e.on=j:=by
 simp only[oB,List.mem_map,List.mem_filter,Array.mem_toList_iff]
 constructor
 ·rintro⟨e,⟨h1,h2⟩,h3⟩;exact⟨e,h1,h2,h3⟩
 ·rintro⟨e,h1,h2,h3⟩;exact⟨e,⟨h1,h2⟩,h3⟩
theorem R4 {ops:Array Oper} (zP:s5 P nt ops ops.toList=some is) (R3:Av (ops.toList.map oB) pt is.length=true)
 (agl : ∀ i,i<is.length→∀ j∈ji (ops.toList.map oB) i,j<is.length) {Q:Exit→Tm→St→Prop} (hK : ∀ tm bE s,Tm.eqv tm bE→K tm s→K bE s)
 (hKQ : ∀ tm s act w,K tm s→Holds B nt tm s act w→rG B nt Q .normal act w) :
 ∀ (fuel:Nat) (dJ:Array Bool) (R:List (Nat×Nat)) (fm:List Pd) (act:Act) (w:World) (U:List Nat),U.length≤fuel→(∀ j,j<is.length→dJ.getD j false=false→j∈U)→
  tt is (ops.toList.map oB) pt dJ R fm→BF P is K B nt R fm act w→wpAny P .any ops (rG B nt Q) fuel dJ act w:=by
 obtain⟨hlen,_⟩:=EK zP
 have vb:is.length=ops.size:=by rw[hlen];simp
 have agm : ∀ (j:Nat) (o:Oper),ops[j]? = some o→ji (ops.toList.map oB) j=oB o:=fun j o h=>by
  simp[ji,List.getD,h]
 have fin : ∀ {dJ:Array Bool} {fm:List Pd} {act:Act} {w:World},BF P is K B nt [] fm act w→rG B nt Q .normal act w:=by
  intro dJ fm act w h
  obtain⟨M,s,tm,vM,bO,e,r,ht,se,hn,hd,hg,yQ,vi⟩:=h
  have F0 : ∀ p∈fm,False:=fun p hp=>by have:=(yQ p hp).mem;simp at this
  exact hKQ vM s act w (hK tm vM s (fun t=>(se t fun p hp=>(F0 p hp).elim).symm) hg) ⟨M,e,r,ht,hn,hd⟩
 have Vx : ∀ {dJ:Array Bool} {R:List (Nat×Nat)} {fm:List Pd} {x:Nat×Nat} {l:List (Nat×Nat)},tt is (ops.toList.map oB) pt dJ R fm→R=x::l→(∀ p∈fm,p.q≠x.1)→
  x.1∈Region.ready .any ops dJ:=by
  intro dJ R fm x l hs hR Vu
  subst hR
  have hx:=hs.lt x (by simp)
  rw[mem_ready]
  have Ho:dJ.getD x.1 false=false:=by
   cases hl:dJ.getD x.1 false with
   |false=>rfl
   |true=>
    rcases(hs.J7 x.1 hx).1 hl with h1|⟨p,hp,sP⟩
    ·exact(h1 (by simp)).elim
    ·exact(Vu p hp sP).elim
  have hxo:x.1<ops.size:=by rw[← vb];exact hx
  refine⟨by rw[vj (by rw[hs.size];exact hx)];exact Ho,ops[x.1],by simp[hxo],fun e he hb=>?_⟩
  have hm:e.on∈ji (ops.toList.map oB) x.1:=by rw[agm x.1 ops[x.1] (by simp[hxo])];exact Fz.2 ⟨e,he,hb,rfl⟩
  obtain⟨_,_,_,g4,_⟩:=vL (X:= []) (q:=x.1) (b:=x.2) hs.ok
  obtain⟨h1,h2⟩:=g4 _ hm
  refine(hs.J7 e.on (agl x.1 hx _ hm)).2 (.inl ?_)
  simp only[List.map_cons,List.mem_cons,not_or]
  exact⟨h1,h2⟩
 intro fuel
 induction fuel with
 | zero=>
  intro dJ R fm act w U hU Ho hs h
  obtain⟨R',yR,oI,h',hn⟩:=norm R fm hs h
  have hUn:U = []:=List.length_eq_zero_iff.1 (by omega)
  have BH : ∀ j,j<is.length→dJ.getD j false=true:=fun j hj=>by
   cases hl:dJ.getD j false with
   |true=>rfl
   |false=>have:=Ho j hj hl;rw[hUn]at this;cases this
  have hR:R' = []:=by
   cases hR:R' with
   |nil=>rfl
   |cons x l=>
    have hx:=oI.lt x (by simp[hR])
    have:=Vx oI hR (hn x l hR)
    rw[mem_ready,vj (by rw[oI.size];exact hx),BH x.1 hx]at this
    cases this.1
  subst hR
  refine⟨?_,fin (dJ:=dJ) h'⟩
  cases hr:Region.ready .any ops dJ with
  |nil=>rfl
  |cons j js=>
   have hj:j∈Region.ready .any ops dJ:=by rw[hr];simp
   rw[mem_ready]at hj
   obtain⟨h1,o,ho,_⟩:=hj
   have P7:j<is.length:=by rw[vb];exact(Array.getElem?_eq_some_iff.1 ho).1
   rw[vj (by rw[hs.size];exact P7),BH j P7]at h1
   cases h1
 | succ fuel ih=>
  intro dJ R fm act w U hU Ho hs h
  obtain⟨R',yR,oI,h',hn⟩:=norm R fm hs h
  refine⟨fun hr=>?_,fun i hi=>?_⟩
  ·cases hR:R' with
   |nil=>subst hR;exact fin (dJ:=dJ) h'
   |cons x l=>
    have:=Vx oI hR (hn x l hR)
    rw[hr]at this
    cases this
  ·rw [mem_ready]at hi
   obtain⟨h1,o,ho,apa⟩:=hi
   have qH:i<is.length:=by rw[vb];exact(Array.getElem?_eq_some_iff.1 ho).1
   rw[vj (by rw[hs.size];exact qH)]at h1
   refine R0 zP R3 hK oI h' hn qH h1 (fun j hj=>⟨agl i qH j hj, ?_⟩) fun R2 akD a2 w2 Cy h2=>?_
   ·rw [agm i o ho]at hj
    obtain⟨e,he,hb,rfl⟩:=Fz.1 hj
    exact apa e he hb
   ·refine ih _ R2 akD a2 w2 (U.erase i) ?_ (fun j hj hl=> ?_) Cy h2
    ·have:=List.length_erase_of_mem (Ho i qH h1)
     omega
    ·have hji:j≠i:=fun e=>by
      subst e
      have:j<dJ.size:=by rw[hs.size];exact qH
      simp[this]at hl
     rw[getD_set_ne false (Ne.symm hji)]at hl
     exact(List.mem_erase_of_ne hji).2 (Ho j hj hl)
theorem Sem.par {is:List AI} {nE:List (Nat×Nat)} {Q:Exit→Tm→St→Prop} {tm:Tm} {s:St} (h:mw P is (Q .normal) nE [] tm s):Sem P B nt (.par is nE) Q tm s:=by
 intro c hc act w hh
 obtain⟨id,ops,rfl,hi,hm,pt,hp⟩:=ng hc
 simp only[LR,Bool.and_eq_true,List.all_eq_true,List.mem_range,List.contains_iff_mem,decide_eq_true_eq]at hp
 obtain⟨⟨⟨⟨h1,h2⟩,h3⟩,h4⟩,h5⟩:=hp
 obtain⟨hlen,_⟩:=EK hi
 have vb:is.length=ops.size:=by rw[hlen];simp
 refine wp_region_any hm ?_
 obtain⟨M,e,r,ht,hn,hd⟩:=hh
 have key : ∀ (R:List (Nat×Nat)) (bO:List St) (tm:Tm) (s:St),mw P is (Q .normal) R bO tm s→mw P is (fun tm s=>∃ bE,tm.eqv bE∧Q .normal bE s) R bO tm s:=by
  intro R
  induction R with
  |nil=>intro bO tm s h;exact⟨tm,fun _=>rfl,h⟩
  | cons x R ih=>
   obtain⟨q,b⟩:=x
   intro bO tm s h
   unfold mw at h ⊢
   split at h
   ·exact h.elim
   ·split at h
    ·obtain⟨d,s',h1,h2⟩:=h;exact⟨d,s',h1,ih _ _ _ h2⟩
    ·obtain⟨d,h1,h2,h3⟩:=h;exact⟨d,h1,h2,ih _ _ _ h3⟩
 have hg:=key _ _ _ _ h
 refine R4 (K:=fun tm s=>∃ bE,tm.eqv bE∧Q .normal bE s) hi h1 h5 (fun tm bE s he ⟨t2,h3,h4⟩=>⟨t2,fun t=>(he t).symm.trans (h3 t),h4⟩)
  (fun tm s act w ⟨t2,h3,h4⟩ ⟨M,e,r,ht,hn,hd⟩=>⟨t2,s,h4,M,e,r,fun t=>by rw[← h3 t];exact ht t,hn,hd⟩) ops.size _ nE [] act _ (List.range is.length) (by simp[vb]) (fun j hj _=>by simpa using hj)
  ⟨h2,fun i hi=>?_,fun i hi hl=>?_,by simp[vb],h4⟩ ⟨M,s,tm,tm,[],⟨e.le,e.kept,e.sn,e.rD,e.sq,e.size,e.os,e.tape,e.output⟩,r.of_heap rfl,ht,fun _ _=>rfl,hn,hd,hg,by simp,by simp⟩
 ·have:i<ops.size:=by rw [← vb];exact hi
  have h6:=h3 i hi
  simp only[List.not_mem_nil,false_and,exists_false,or_false]
  rw[show(Array.replicate ops.size false).getD i false=false by simp[this]]
  simp[h6]
 ·have:i<ops.size:=by rw [← vb];exact hi
  rw[show(Array.replicate ops.size false).getD i false=false by simp[this]]at hl
  cases hl
end
end Go.Abs
namespace Go.Abs
theorem adx (k:IntKind) (n:Int):D.row (.int k n)=some [.int k n]:=rfl
theorem Yw (b:Bool):D.row (.bool b)=some [.bool b]:=rfl
theorem ady (l:List UInt8):D.row (.str l)=some [.str l]:=rfl
theorem Yx:D.row .eY=some [.eY]:=rfl
theorem adz (o f:Nat):D.row (.ptr o f)=some [.ptr o f]:=rfl
theorem Yy (r:List D) (f:Nat):D.row (.dN r f)=some [.dN r f]:=rfl
theorem Vy (g:Tag) (z:Nat) (r:List (List D)):D.row (.slice g z r)=some [.slice g z r]:=rfl
theorem adA (cs:List D):D.row (.agg cs)=some cs:=rfl
theorem adB (v:Value):D.row (.val v)=some [.val v]:=rfl
theorem Vz (T:TypeId) (o:Nat):D.row (.gb T o)=some [.gb T o]:=rfl
theorem adC (f:Nat) (cs:List D):D.row (.ix f cs)=some [.ix f cs]:=rfl
theorem Yz (o:Nat):D.row (.gW o)=some [.gW o]:=rfl
theorem YA (w:Bool):Tag.cut .full w=if w then .full else .shared:=rfl
theorem R5 (w:Bool):Tag.cut .shared w = .shared:=rfl
theorem YB (t:Nat) (y:Bool) (w:Bool):Tag.cut (.tok t y) w = .tok t y:=rfl
section
variable {P:Program}
def KC (P:Program) (r:List AI) (K:Tm→St→Prop) (tm:Tm) (dst:Option Nat) (d:D) (s:St):Prop:=jT P r K (tm.put dst d) s
def GI (P:Program) (g:D) (want:Bool) (i:AI) (r:List AI) (K:Tm→St→Prop) (tm:Tm) (s:St):Prop:=
 match g with
 | .bool b=>(b=want→jT P (i::r) K tm s)∧(b=(!want)→jT P r K (tm.put i.dst (.tuple [])) s)
 | .tuple _=>jT P r K (tm.put i.dst (.tuple [])) s
 |_=>False
def NI (P:Program) (dst:Option Nat) (neg:Bool) (x:D) (r:List AI) (K:Tm→St→Prop) (tm:Tm) (s:St):Prop:=
 match x with
 | .slice _ _ rows=>∀ b:Bool,(rows≠ []→b=false)→jT P r K (tm.put dst (.bool (if neg then !b else b))) s
 |_=>False
def wZ (d:D) (A C:Prop):Prop:=
 match d with
 | .bool b=>(b=true→A)∧(b=false→C)
 |_=>False
theorem Sem.akE {B:ic} {nt:Nat} {Q:Exit→Tm→St→Prop} {tm:Tm} {s:St} {x:X} {a b:AC} (h:wZ (x.ev tm) (Sem P B nt a Q tm s) (Sem P B nt b Q tm s)):Sem P B nt (.cond x a b) Q tm s:=by
 unfold wZ at h
 split at h
 ·rename_i t ht
  exact Sem.cond ht h.1 h.2
 ·exact h.elim
def iU (P:Program) (K:Tm→St→Prop):List (AI×Nat)→List St→Tm→St→Prop
 | [],_,tm,s=>K tm s
 |(ai,b)::r,bO,tm,s=>
  match iT ai.kind with
  |true=>∃ d s',vf P ai tm s d s'∧iU P K r (s::bO) (tm.put ai.dst d) s'
  |false=>∃ d,la ai tm s=some d∧(ai.kind = .load→∀ s'∈bO.take b,la ai tm s'=some d)∧iU P K r bO (tm.put ai.dst d) s
def oJ (is:List AI):List (Nat×Nat)→Option (List (AI×Nat))
 | []=>some []
 |(q,b)::r=>match is[q]?,oJ is r with
  |some ai,some l=>some ((ai,b)::l)
  |_,_=>none
theorem Jb {is:List AI} {K:Tm→St→Prop} : ∀ {nE:List (Nat×Nat)} {items:List (AI×Nat)} {bO:List St} {tm:Tm} {s:St},oJ is nE=some items→iU P K items bO tm s→mw P is K nE bO tm s
 | [],items,bO,tm,s,h,g=>by cases h;exact g
 | (q,b)::r,items,bO,tm,s,h,g=>by
  simp only[oJ]at h
  split at h
  ·rename_i ai l h1 h2
   cases h
   simp only[iU]at g
   simp only[mw,h1]
   split at g
   ·rename_i hk
    obtain⟨d,s',g1,g2⟩:=g
    try simp only[hk]
    exact⟨d,s',g1,Jb h2 g2⟩
   ·rename_i hk
    obtain⟨d,g1,g2,g3⟩:=g
    try simp only[hk]
    exact⟨d,g1,g2,Jb h2 g3⟩
  ·cases h
theorem Sem.apb {B:ic} {nt:Nat} {Q:Exit→Tm→St→Prop} {tm:Tm} {s:St} {is:List AI} {nE:List (Nat×Nat)} {items:List (AI×Nat)} (hi:oJ is nE=some items) (h:iU P (Q .normal) items [] tm s):Sem P B nt (.par is nE) Q tm s:=
 Sem.par (Jb hi h)
def AI.free:AI→AI
 | .op d _ o=> .op d none o
 | .call d _ f xs=> .call d none f xs
 | .nil d _ n x=> .nil d none n x
 | .ky d _ t xs=> .ky d none t xs
def GL (P:Program) (g:D) (want:Bool) (i:AI) (b:Nat) (r:List (AI×Nat)) (K:Tm→St→Prop) (bO:List St) (tm:Tm) (s:St):Prop:=
 match g with
 | .bool v=>(v=want→iU P K ((i,b)::r) bO tm s)∧(v=(!want)→iU P K r (if iT i.kind then s::bO else bO) (tm.put i.dst (.tuple [])) s)
 | .tuple _=>iU P K r (if iT i.kind then s::bO else bO) (tm.put i.dst (.tuple [])) s
 |_=>False
def CL (one:Bool) (P:Program) (f:Nat) (args:List D) (s:St) (K:D→St→Prop):Prop:=
 match one with
 |true=>∃ d s',aH P f args s d s'∧K d s'
 |false=>bS P f args s K
def KL (P:Program) (K:Tm→St→Prop) (r:List (AI×Nat)) (bO:List St) (tm:Tm) (dst:Option Nat) (d:D) (s:St):Prop:=iU P K r bO (tm.put dst d) s
def pY (i:AI) (tm:Tm) (d:D):List St→Prop
 | []=>True
 |s::r=>la i tm s=some d∧pY i tm d r
theorem Hp {i:AI} {tm:Tm} {d:D} : ∀ {l:List St},pY i tm d l→∀ s∈l,la i tm s=some d
 | [],_,s,h=>by cases h
 |a::l,h,s,hs=>by
  rcases List.mem_cons.1 hs with rfl|hs
  ·exact h.1
  ·exact Hp h.2 s hs
def PL (P:Program) (o:AO) (dst:Option Nat) (b:Nat) (r:List (AI×Nat)) (K:Tm→St→Prop) (bO:List St) (tm:Tm) (s:St):Prop:=
 match aY o tm s with
 |some (d,_)=>pY (.op dst none o) tm d (bO.take b)∧iU P K r bO (tm.put dst d) s
 |none=>False
def ML (P:Program) (o:AO) (dst:Option Nat) (r:List (AI×Nat)) (K:Tm→St→Prop) (bO:List St) (tm:Tm) (s:St):Prop:=
 match aY o tm s with
 |some (d,s')=>iU P K r (s::bO) (tm.put dst d) s'
 |none=>False
def AO.core:AO→Bool
 | .alloc _=>true
 | .box _=>true
 | .xn .. =>true
 | .Dd _=>true
 | .store .. =>true
 | .app .. =>true
 | .vy .. =>true
 | .Dg .. =>true
 | .Dh .. =>true
 | .apps .. =>true
 | .wW=>true
 | .Bp .. =>true
 | .Di .. =>true
 |_=>false
theorem vN (dst:Option Nat) (g:Option (Nat×Bool)) (o:AO):iT (AI.op dst g o).kind=o.core:=by
 cases dst<;>cases g<;>cases o<;>rfl
def OL (P:Program) (o:AO) (dst:Option Nat) (b:Nat) (r:List (AI×Nat)) (K:Tm→St→Prop) (bO:List St) (tm:Tm) (s:St):Prop:=
 match o.core with
 |true=>ML P o dst r K bO tm s
 |false=>PL P o dst b r K bO tm s
theorem My {K:Tm→St→Prop} {dst:Option Nat} {o:AO} {b:Nat} {r:List (AI×Nat)} {bO:List St} {tm:Tm} {s:St} (h:OL P o dst b r K bO tm s) :
 iU P K ((.op dst none o,b)::r) bO tm s:=by
 unfold OL at h
 simp only[iU,vN]
 cases hc:o.core with
 | true=>
  simp only[hc,ML]at h
  simp only[]
  split at h
  ·rename_i d s' he
   exact⟨d,s',by simpa[vf,guarded]using he,h⟩
  ·exact h.elim
 | false=>
  simp only[hc,PL]at h
  simp only[]
  split at h
  ·rename_i d s' he
   exact⟨d,by simp[la,he],fun _=>Hp h.1,h.2⟩
  ·exact h.elim
theorem R6 {K:Tm→St→Prop} {dst:Option Nat} {f:Nat} {xs:List X} {b:Nat} {r:List (AI×Nat)} {bO:List St} {tm:Tm} {s:St} (h:CL true P f (xs.map (·.ev tm)) s (KL P K r (s::bO) tm dst)) :
 iU P K ((.call dst none f xs,b)::r) bO tm s:=by
 obtain⟨d,s',h1,h2⟩:=h
 exact⟨d,s',h1,h2⟩
theorem agn {K:Tm→St→Prop} {i:AI} {t:Nat} {w:Bool} {b:Nat} {r:List (AI×Nat)} {bO:List St} {tm:Tm} {s:St} {j:AI} (hf:(∃ d o,i = .op d none o∧j = .op d (some (t,w)) o)∨(∃ d f xs,i = .call d none f xs∧j = .call d (some (t,w)) f xs))
 (hg:tm.get t = .bool w) (h:iU P K ((i,b)::r) bO tm s):iU P K ((j,b)::r) bO tm s:=by
 rcases hf with ⟨d,o,rfl,rfl⟩|⟨d,f,xs,rfl,rfl⟩
 ·simp only [iU,vN]at h ⊢
  cases hc:o.core<;>simp only[hc]at h ⊢
  ·obtain⟨x,h1,h2,h3⟩:=h
   refine⟨x,by simpa[la,hg]using h1,fun hk s' oI=>?_,h3⟩
   have wG:(AI.op d none o).kind = .load:=by
    cases d<;>cases o<;>first|exact hk|(cases hc;done)|(cases hk;done)
   simpa[la,hg]using h2 wG s' oI
  ·obtain⟨x,s',h1,h2⟩:=h
   exact⟨x,s',by simpa[vf,guarded,hg]using h1,h2⟩
 ·obtain⟨x,s',h1,h2⟩:=h
  exact⟨x,s',by simpa[vf,guarded,hg]using h1,h2⟩
theorem VA {K:Tm→St→Prop} {i:AI} {t:Nat} {w:Bool} {b:Nat} {r:List (AI×Nat)} {bO:List St} {tm:Tm} {s:St} {j:AI} (hf:(∃ d o,i = .op d none o∧j = .op d (some (t,w)) o)∨(∃ d f xs,i = .call d none f xs∧j = .call d (some (t,w)) f xs))
 (hg:tm.get t = .bool (!w)∨∃ l,tm.get t = .tuple l) (h:iU P K r (if iT i.kind then s::bO else bO) (tm.put i.dst (.tuple [])) s):iU P K ((j,b)::r) bO tm s:=by
 rcases hf with ⟨d,o,rfl,rfl⟩|⟨d,f,xs,rfl,rfl⟩
 ·simp only [iU,vN]at h ⊢
  cases hc:o.core<;>simp only[hc]at h ⊢
  ·refine⟨.tuple [], ?_,fun hk s' oI=> ?_,h⟩
   ·rcases hg with hg|⟨l,hg⟩<;>simp[la,hg]
   ·rcases hg with hg|⟨l,hg⟩<;>simp[la,hg]
  ·refine⟨.tuple [],s, ?_,h⟩
   rcases hg with hg|⟨l,hg⟩<;>simp[vf,guarded,hg]
 ·refine⟨.tuple [],s, ?_,h⟩
  rcases hg with hg|⟨l,hg⟩<;>simp[vf,guarded,hg]
theorem P8 {K:Tm→St→Prop} {i j:AI} {t:Nat} {w:Bool} {b:Nat} {r:List (AI×Nat)} {bO:List St} {tm:Tm} {s:St} (hf:(∃ d o,i = .op d none o∧j = .op d (some (t,w)) o)∨(∃ d f xs,i = .call d none f xs∧j = .call d (some (t,w)) f xs))
 (h:GL P (tm.get t) w i b r K bO tm s):iU P K ((j,b)::r) bO tm s:=by
 unfold GL at h
 split at h
 ·rename_i v hv
  by_cases e:v=w
  ·exact agn hf (by rw[hv,e]) (h.1 e)
  ·exact VA hf (.inl (by rw[hv];cases v<;>cases w<;>simp_all)) (h.2 (by cases v<;>cases w<;>simp_all))
 ·rename_i l hl
  exact VA hf (.inr ⟨l,hl⟩) h
 ·exact h.elim
theorem J8 {K:Tm→St→Prop} {dst:Option Nat} {o:AO} {t:Nat} {w:Bool} {b:Nat} {r:List (AI×Nat)} {bO:List St} {tm:Tm} {s:St} (h:GL P (tm.get t) w (.op dst none o) b r K bO tm s) :
 iU P K ((.op dst (some (t,w)) o,b)::r) bO tm s:=P8 (.inl ⟨dst,o,rfl,rfl⟩) h
theorem O3 {K:Tm→St→Prop} {dst:Option Nat} {f:Nat} {xs:List X} {t:Nat} {w:Bool} {b:Nat} {r:List (AI×Nat)} {bO:List St} {tm:Tm} {s:St} (h:GL P (tm.get t) w (.call dst none f xs) b r K bO tm s) :
 iU P K ((.call dst (some (t,w)) f xs,b)::r) bO tm s:=P8 (.inr ⟨dst,f,xs,rfl,rfl⟩) h
theorem CL.use {one:Bool} {f:Nat} {args:List D} {s:St} {d:D} {s':St} {K:D→St→Prop} (h:aH P f args s d s') (hk:K d s'):CL one P f args s K:=
 match one with
 |true=>⟨d,s',h,hk⟩
 |false=>h.use hk
theorem CU {one:Bool} {f:Nat} {args:List D} {s:St} {d:D} {s':St} {K:D→St→Prop} (h:aH P f args s d s') (hk:K d s'):CL one P f args s K:=CL.use h hk
theorem CR {f:Nat} {args:List D} {s:St} {Q K:D→St→Prop} (h:bS P f args s Q) (hk : ∀ d s',Q d s'→K d s'):CL false P f args s K:=bS.mono h hk
end
end Go.Abs
namespace Go.Abs
theorem nd {α:Type} {a b:α} (h:a=b):a=b:=h
def GJ (g:D) (w:Bool) (A C:Prop):Prop:=
 match g with
 | .bool b=>(b=w→A)∧(b=(!w)→C)
 | .tuple _=>C
 |_=>False
class Two where
 a:Prop
 c:Prop
def CB (d:D) [b:Two] : Prop:=wZ d b.a b.c
def GB (d:D) (w:Bool) [b:Two] : Prop:=GJ d w b.a b.c
def oK (g:Option (Nat×Bool)) (tm:Tm) (A C:Prop):Prop:=
 match g with
 |none=>A
 |some (t,w)=>GJ (tm.get t) w A C
def lG (P:Program):List AI→(Tm→St→Prop)→Tm→St→Prop
 | [],K,tm,s=>K tm s
 | .op dst g o::r,K,tm,s=>oK g tm (match aY o tm s with|some (d,s')=>lG P r K (tm.put dst d) s'|none=>False) (lG P r K (tm.put dst (.tuple [])) s)
 | .call dst g f xs::r,K,tm,s=>oK g tm (CL false P f (xs.map (·.ev tm)) s fun d s'=>lG P r K (tm.put dst d) s') (lG P r K (tm.put dst (.tuple [])) s)
 | .nil dst g neg x::r,K,tm,s=>
  oK g tm (match x.ev tm with
   | .slice _ _ rows=>∀ b:Bool,(rows≠ []→b=false)→lG P r K (tm.put dst (.bool (if neg then !b else b))) s
   |_=>False) (lG P r K (tm.put dst (.tuple [])) s)
 | .ky dst g t xs::r,K,tm,s=>
  oK g tm (match tm.get t with
   | .ix f pC=>enters P f=true∧CL false P f (xs.map (·.ev tm)++pC) s fun d s'=>lG P r K (tm.put dst d) s'
   |_=>False) (lG P r K (tm.put dst (.tuple [])) s)
theorem vk {g:Option (Nat×Bool)} {tm:Tm} {A C A' C':Prop} (h:oK g tm A C) (ha:A→A') (hc:C→C'):guarded g tm A' C':=by
 unfold oK at h
 unfold guarded
 cases g with
 |none=>exact ha h
 | some p=>
  obtain⟨t,w⟩:=p
  simp only[GJ]at h ⊢
  split at h
  ·rename_i hb;try simp only [hb]
   exact⟨fun e=>ha (h.1 e),fun e=>hc (h.2 e)⟩
  ·rename_i hb;try simp only [hb]
   exact hc h
  ·exact h.elim
theorem qc {P:Program} {K:Tm→St→Prop} : ∀ {is:List AI} {tm:Tm} {s:St},lG P is K tm s→jT P is K tm s
 | [],tm,s,h=>h
 | .op dst g o::r,tm,s,h=>by
  refine vk h (fun h=>?_) qc
  split at h
  ·rename_i he;try simp only [he]
   exact qc h
  ·exact h.elim
 | .call dst g f xs::r,tm,s,h=>vk h (fun h=>bS.mono h fun _ _ h=>qc h) qc
 | .nil dst g neg x::r,tm,s,h=>by
  refine vk h (fun h=>?_) qc
  split at h
  ·rename_i he;try simp only [he]
   exact fun b hb=>qc (h b hb)
  ·exact h.elim
 | .ky dst g t xs::r,tm,s,h=>by
  refine vk h (fun h=>?_) qc
  split at h
  ·rename_i he;try simp only [he]
   exact⟨h.1,bS.mono h.2 fun _ _ h=>qc h⟩
  ·exact h.elim
def iA (P:Program) (K:Tm→St→Prop):List (AI×Nat)→List St→Tm→St→Prop
 | [],_,tm,s=>K tm s
 |(.op dst g o,b)::r,bO,tm,s=>
  match o.core with
  |true=>oK g tm (match aY o tm s with|some (d,s')=>iA P K r (s::bO) (tm.put dst d) s'|none=>False) (iA P K r (s::bO) (tm.put dst (.tuple [])) s)
  |false=>oK g tm (match aY o tm s with|some (d,_)=>pY (.op dst none o) tm d (bO.take b)∧iA P K r bO (tm.put dst d) s|none=>False) (iA P K r bO (tm.put dst (.tuple [])) s)
 |(.call dst g f xs,_)::r,bO,tm,s=>oK g tm (CL true P f (xs.map (·.ev tm)) s fun d s'=>iA P K r (s::bO) (tm.put dst d) s') (iA P K r (s::bO) (tm.put dst (.tuple [])) s)
 |(.nil ..,_)::_,_,_,_=>False
 |(.ky ..,_)::_,_,_,_=>False
theorem DK {P:Program} {t:Nat} {w:Bool} {tm:Tm} {i:AI} {b:Nat} {r:List (AI×Nat)} {K:Tm→St→Prop} {bO:List St} {s:St} {A C:Prop} (h:oK (some (t,w)) tm A C) (ha:A→iU P K ((i,b)::r) bO tm s)
 (hc:C→iU P K r (if iT i.kind then s::bO else bO) (tm.put i.dst (.tuple [])) s):GL P (tm.get t) w i b r K bO tm s:=by
 simp only[oK,GJ]at h
 unfold GL
 split at h
 ·rename_i hb;try simp only [hb]
  exact⟨fun e=>ha (h.1 e),fun e=>hc (h.2 e)⟩
 ·rename_i hb;try simp only [hb]
  exact hc h
 ·exact h.elim
theorem oc {P:Program} {K:Tm→St→Prop} : ∀ {l:List (AI×Nat)} {bO:List St} {tm:Tm} {s:St},iA P K l bO tm s→iU P K l bO tm s
 | [],bO,tm,s,h=>h
 | (.op dst g o,b)::r,bO,tm,s,h=>by
  simp only[iA]at h
  cases hc:o.core with
  | true=>
   simp only[hc]at h
   have ha:(match aY o tm s with|some (d,s')=>iA P K r (s::bO) (tm.put dst d) s'|none=>False)→iU P K ((.op dst none o,b)::r) bO tm s:=by
    intro h
    refine My ?_
    simp only[OL,hc,ML]
    split at h
    ·rename_i he;try simp only [he]
     exact oc h
    ·exact h.elim
   cases g with
   |none=>exact ha h
   |some p=>
    obtain⟨t,w⟩:=p
    refine J8 (DK h ha fun h=>?_)
    simp only[vN,hc,if_true]
    exact oc h
  | false=>
   simp only[hc]at h
   have ha:(match aY o tm s with|some (d,_)=>pY (.op dst none o) tm d (bO.take b)∧iA P K r bO (tm.put dst d) s|none=>False)→iU P K ((.op dst none o,b)::r) bO tm s:=by
    intro h
    refine My ?_
    simp only[OL,hc,PL]
    split at h
    ·rename_i he;try simp only [he]
     exact⟨h.1,oc h.2⟩
    ·exact h.elim
   cases g with
   |none=>exact ha h
   |some p=>
    obtain⟨t,w⟩:=p
    refine J8 (DK h ha fun h=>?_)
    simp only[vN,hc]
    exact oc h
 | (.call dst g f xs,b)::r,bO,tm,s,h=>by
  simp only[iA]at h
  have ha:(CL true P f (xs.map (·.ev tm)) s fun d s'=>iA P K r (s::bO) (tm.put dst d) s')→iU P K ((.call dst none f xs,b)::r) bO tm s:=
   fun⟨d,s',h1,h2⟩=>R6 ⟨d,s',h1,oc h2⟩
  cases g with
  |none=>exact ha h
  |some p=>
   obtain⟨t,w⟩:=p
   exact O3 (DK h ha fun h=>oc h)
 |(.nil ..,_)::_,bO,tm,s,h=>h.elim
 |(.ky ..,_)::_,bO,tm,s,h=>h.elim
section
variable {P:Program} {B:ic} {nt:Nat}
def jU (P:Program) (B:ic) (nt:Nat):AC→(Exit→Tm→St→Prop)→Tm→St→Prop
 | .skip,Q,tm,s=>Q .normal tm s
 | .run is,Q,tm,s=>lG P is (Q .normal) tm s
 | .par is nE,Q,tm,s=>match oJ is nE with|some l=>iA P (Q .normal) l [] tm s|none=>False
 | .seq a b,Q,tm,s=>jU P B nt a (lz (jU P B nt b Q) Q) tm s
 | .cond x a b,Q,tm,s=>wZ (x.ev tm) (jU P B nt a Q tm s) (jU P B nt b Q tm s)
 | .block id a,Q,tm,s=>jU P B nt a (iN id Q) tm s
 | .loop a,Q,tm,s=>bo P B nt a Q tm s
 | .exit id,Q,tm,s=>Q (.exit id) tm s
 | .scope a,Q,tm,s=>nh P B nt a a Q tm s
 | .label _,Q,tm,s=>Q .normal tm s
 | .goto l,Q,tm,s=>Q (.goto l) tm s
 | .ret,Q,tm,s=>Q .ret tm s
theorem jC : ∀ {ac:AC} {Q:Exit→Tm→St→Prop} {tm:Tm} {s:St},jU P B nt ac Q tm s→Sem P B nt ac Q tm s:=by
 intro ac
 induction ac with
 |skip=>exact fun h=>Sem.skip h
 |run is=>exact fun h=>Sem.run (qc h)
 |par is nE=>
  intro Q tm s h
  simp only[jU]at h
  split at h
  ·exact Sem.apb ‹_› (oc h)
  ·exact h.elim
 |seq a b Vj Vk=>
  intro Q tm s h
  refine Sem.seq ((Vj h).mono fun e tm s hq=>?_)
  cases e with
  |normal=>exact Vk hq
  |_=>exact hq
 |cond x a b Vj Vk=>
  intro Q tm s h
  refine Sem.akE ?_
  simp only[jU]at h
  unfold wZ at h ⊢
  split at h
  ·exact⟨fun e=>Vj (h.1 e),fun e=>Vk (h.2 e)⟩
  ·exact h.elim
 |block id a ih=>exact fun h=>Sem.block (ih h)
 |loop a ih=>exact fun h=>Sem.loop h
 |exit id=>exact fun h=>Sem.exit h
 |scope a ih=>exact fun h=>Sem.scope h
 |label l=>exact fun h=>Sem.label h
 |goto l=>exact fun h=>Sem.goto h
 |ret=>exact fun h=>Sem.ret h
section
variable (Q:Exit→Tm→St→Prop) (N:Tm→St→Prop) (tm:Tm) (s:St) (a b:AC) (is:List AI) (x:X)
theorem YC:jU P B nt .skip Q tm s=Q .normal tm s:=nd rfl
theorem adE:jU P B nt (.run is) Q tm s=lG P is (Q .normal) tm s:=nd rfl
theorem adF (nE:List (Nat×Nat)):jU P B nt (.par is nE) Q tm s=match oJ is nE with|some l=>iA P (Q .normal) l [] tm s|none=>False:=nd rfl
theorem adG:jU P B nt (.seq a b) Q tm s=jU P B nt a (lz (jU P B nt b Q) Q) tm s:=nd rfl
theorem YD:jU P B nt (.cond x a b) Q tm s = @CB (x.ev tm) ⟨jU P B nt a Q tm s,jU P B nt b Q tm s⟩:=nd rfl
theorem VB (id:Nat):jU P B nt (.block id a) Q tm s=jU P B nt a (iN id Q) tm s:=nd rfl
theorem YE:jU P B nt (.loop a) Q tm s=bo P B nt a Q tm s:=nd rfl
theorem VC:jU P B nt (.scope a) Q tm s=nh P B nt a a Q tm s:=nd rfl
theorem YF (id:Nat):jU P B nt (.exit id) Q tm s=Q (.exit id) tm s:=nd rfl
theorem VD (id:Nat):jU P B nt (.label id) Q tm s=Q .normal tm s:=nd rfl
theorem YG (id:Nat):jU P B nt (.goto id) Q tm s=Q (.goto id) tm s:=nd rfl
theorem adH:jU P B nt .ret Q tm s=Q .ret tm s:=nd rfl
theorem adI:lz N Q .normal tm s=N tm s:=nd rfl
theorem adJ:lz N Q .ret tm s=Q .ret tm s:=nd rfl
theorem adK (id:Nat):lz N Q (.exit id) tm s=Q (.exit id) tm s:=nd rfl
theorem adL (id:Nat):lz N Q (.goto id) tm s=Q (.goto id) tm s:=nd rfl
theorem YH (id:Nat):iN id Q .normal tm s=Q .normal tm s:=nd rfl
theorem YI (id:Nat):iN id Q .ret tm s=Q .ret tm s:=nd rfl
theorem YJ (id l:Nat):iN id Q (.goto l) tm s=Q (.goto l) tm s:=nd rfl
theorem YK (id i:Nat):iN id Q (.exit i) tm s=if i=id then Q .normal tm s else Q (.exit i) tm s:=nd rfl
end
theorem bo.kj {a:AC} {Q:Exit→Tm→St→Prop} {tm:Tm} {s:St} (h:jU P B nt a (lz (bo P B nt a Q) Q) tm s):bo P B nt a Q tm s:=bo.once (jC h)
theorem nh.kj {a r:AC} {Q:Exit→Tm→St→Prop} {tm:Tm} {s:St} (h:jU P B nt r (BB P B nt a Q) tm s):nh P B nt a r Q tm s:=nh.once (jC h)
def yT (tm:Tm) (n m:Nat):Tm→Prop
 | []=>True
 |(k,d)::r=>Wk ((tm.get k).fg n m) d∧yT tm n m r
theorem yT.get {tm:Tm} {n m:Nat} : ∀ {bE:Tm},yT tm n m bE→∀ t,Wk ((tm.get t).fg n m) (bE.get t)
 | [],_,t=>Wk.junk _
 |(k,d)::r,h,t=>by
  simp only[Tm.get]
  split
  ·rename_i hk;subst hk;exact h.1
  ·exact yT.get h.2 t
theorem Holds.re {Q:Exit→Tm→St→Prop} {tm bE:Tm} {s:St} {fA:List (List D)} {act:Act} {w:World} (n m:Nat) (hn:B.s.aj.length≤n) (hm:B.s.az.length≤m) (ht:yT tm n m bE) (ho:iu (s.cut n m).aj fA)
 (h:Holds B nt tm s act w):Holds B nt bE ⟨fA,(s.cut n m).az⟩ act w:=by
 obtain⟨M,e,r,hr,h1,h2⟩:=h
 obtain⟨r',le⟩:=(r.cut n m).sy ho
 have e':=e.cut hn hm
 refine⟨M,e'.trans ⟨le,fun _ _ _ _=>rfl,fun o h1 h2=>?_,fun t b c z hl e=> .inl ⟨hl,c,z,e⟩,fun _ _ h=>(h rfl).elim,Nat.le_refl _,rfl,rfl,rfl⟩,r',fun k=>((ht.get k) _ _ _ ((hr k).fg n m)).mono le,h1,h2⟩
 rw[← ho.len]at h2
 exact h1.elim (fun h1=>absurd h2 (Nat.not_lt.2 h1)) fun h1=>(h1 rfl).elim
theorem bo.re {a:AC} {Q:Exit→Tm→St→Prop} {tm:Tm} {s:St} (bE:Tm) (fA:List (List D)) (n m:Nat) (hn:B.s.aj.length≤n) (hm:B.s.az.length≤m) (ht:yT tm n m bE) (ho:iu (s.cut n m).aj fA)
 (h:bo P B nt a Q bE ⟨fA,(s.cut n m).az⟩):bo P B nt a Q tm s:=
 fun c hc act w hh=>h c hc act w (hh.re (Q:=Q) n m hn hm ht ho)
theorem bo.ind {ι:Type} {a:AC} {Q:Exit→Tm→St→Prop} (I:ι→Prop) (μ:ι→Nat) (TM:ι→Tm) (ST:ι→St)
 (step : ∀ i,I i→(∀ j,I j→μ j<μ i→bo P B nt a Q (TM j) (ST j))→jU P B nt a (lz (bo P B nt a Q) Q) (TM i) (ST i)) : ∀ i,I i→bo P B nt a Q (TM i) (ST i):=by
 have key : ∀ n i,μ i<n→I i→bo P B nt a Q (TM i) (ST i):=by
  intro n
  induction n with
  |zero=>intro i h;exact absurd h (Nat.not_lt_zero _)
  |succ n ih=>exact fun i h hi=>bo.kj (step i hi fun j hj hD=>ih j (by omega) hj)
 exact fun i hi=>key (μ i+1) i (Nat.lt_succ_self _) hi
theorem drop_cons {α:Type} {l rest:List α} {k:Nat} {x:α} (h:l.drop k=x::rest):l[k]? = some x∧l.drop (k+1)=rest∧decide ((k:Int)<(l.length:Int))=true∧k<l.length:=by
 have h1:l[k]? = some x:=by
  have:(l.drop k)[0]? = some x:=by rw[h];rfl
  simpa using this
 have h2:=(List.getElem?_eq_some_iff.1 h1).1
 refine⟨h1, ?_,by simpa using h2,h2⟩
 have:l.drop (k+1)=(l.drop k).drop 1:=by rw[List.drop_drop]
 rw[this,h];rfl
theorem drop_nil {α:Type} {l:List α} {k:Nat} (h:l.drop k = []):decide ((k:Int)<(l.length:Int))=false:=by
 have:=List.drop_eq_nil_iff.1 h
 simp;omega
theorem bo.qI {a:AC} {Q:Exit→Tm→St→Prop} {tm:Tm} {s:St} (t z':Nat) {z:Nat} (hw:tm.get t = .slice .full z [])
 (h:bo P B nt a Q (tm.set t (.slice (.tok s.az.length) z' [])) {s with az:=s.az++ [some 0]}):bo P B nt a Q tm s:=by
 intro c hc act w ⟨M,e,r,ht,h1,h2⟩
 obtain⟨r',le⟩:=r.blank
 refine h c hc act w ⟨_,J5 e le,r',fun k=>?_,h1,h2⟩
 rw[Tm.I1]
 split
 ·rename_i hk;subst hk;have:=ht k;rw[hw]at this;exact this.own
 ·exact(ht k).mono le
theorem bo.BI {a:AC} {Q:Exit→Tm→St→Prop} {tm:Tm} {s:St} (o i z':Nat) {z:Nat} {cs:List D} (hc:s.aj[o]? = some cs) (hi:cs[i]? = some (.slice .full z []))
 (h:bo P B nt a Q tm ⟨s.aj.set o (cs.set i (.slice (.tok s.az.length) z' [])),s.az++ [some 0]⟩):bo P B nt a Q tm s:=by
 intro c hcc act w hh
 obtain⟨M,e,r,ht,h1,h2⟩:=hh
 obtain⟨r',le⟩:=r.blank
 have le':Le M s (M.fN s.az.length none) ⟨s.aj.set o (cs.set i (.slice (.tok s.az.length) z' [])),s.az++ [some 0]⟩:=⟨le.G,by simp,le.loc,le.t,le.tk⟩
 have le2:Le (M.fN s.az.length none) {s with az:=s.az++ [some 0]} (M.fN s.az.length none) ⟨s.aj.set o (cs.set i (.slice (.tok s.az.length) z' [])),s.az++ [some 0]⟩:=
  ⟨fun _ _ _ h=>h,by simp,fun _ _=> .refl _,Nat.le_refl _,fun t n' _ e=>⟨n',e,Nat.le_refl _,fun _=>rfl⟩⟩
 have r2:Rel (M.fN s.az.length none) ⟨s.aj.set o (cs.set i (.slice (.tok s.az.length) z' [])),s.az++ [some 0]⟩ w:=by
  refine⟨r'.comm,fun o' ds e=>?_,fun o ho=>r'.km o (by simpa using ho),fun o o' ho po=>r'.inj o o' (by simpa using ho) (by simpa using po),r'.tok,
   fun t b c z o hv e ho=>r'.fM t b c z o hv e (by simpa using ho),r'.gQ⟩
  simp only[List.getElem?_set]at e
  split at e
  ·rename_i ho
   subst ho
   split at e
   ·cases e
    obtain⟨vs,T,g1,g2,g3,g4⟩:=r.obj o cs hc
    refine⟨vs,T,g1,by simpa using g2,g3,fun j d v e1 e2=>?_⟩
    rw[List.getElem?_set]at e1
    split at e1
    ·rename_i hj
     subst hj
     split at e1
     ·cases e1
      exact((g4 i _ v hi e2).own (z':=z')).mono le2
     ·cases e1
    ·exact(g4 j d v e1 e2).mono le'
   ·cases e
  ·obtain⟨vs,T,g1,g2,g3,g4⟩:=r'.obj o' ds e
   exact⟨vs,T,g1,g2,g3,fun i d v e1 e2=>(g4 i d v e1 e2).mono le2⟩
 have ee:Ext B.M B.s B.w (M.fN s.az.length none) ⟨s.aj.set o (cs.set i (.slice (.tok s.az.length) z' [])),s.az++ [some 0]⟩ w:=by
  refine(J5 e le).trans ⟨le2,fun _ _ _ _=>rfl,fun o h1 h2=>?_,fun t b c z hl e=> .inl ⟨hl,c,z,e⟩,fun _ _ h=>(h rfl).elim,Nat.le_refl _,rfl,rfl,rfl⟩
  simp at h2
  exact h1.elim (fun h1=>absurd h2 (Nat.not_lt.2 h1)) fun h1=>(h1 rfl).elim
 exact h c hcc act w ⟨_,ee,r2,fun k=>(ht k).mono le',h1,h2⟩
theorem F4 {ac r:AC} {l:Nat} {Q:Exit→Tm→St→Prop} {tm:Tm} {s:St} (hf:wY ac l=some r) (h:nh P B nt ac r Q tm s):BB P B nt ac Q (.goto l) tm s:=⟨r,hf,h⟩
theorem Sem.oM {a b:AC} {Q:Exit→Tm→St→Prop} {tm:Tm} {s:St} (h:jU P B nt a (lz (Sem P B nt b Q) Q) tm s):Sem P B nt (.seq a b) Q tm s:=Sem.seq (jC h)
theorem Sem.re {a:AC} {Q:Exit→Tm→St→Prop} {tm:Tm} {s:St} (bE:Tm) (fA:List (List D)) (n m:Nat) (hn:B.s.aj.length≤n) (hm:B.s.az.length≤m) (ht:yT tm n m bE) (ho:iu (s.cut n m).aj fA)
 (h:Sem P B nt a Q bE ⟨fA,(s.cut n m).az⟩):Sem P B nt a Q tm s:=
 fun c hc act w hh=>h c hc act w (hh.re (Q:=Q) n m hn hm ht ho)
def Has (P:Program) (f nt:Nat) (res:List (Nat×Option (Bool×Nat))) (body:AC):Prop:=∃ fn,P.funcs[f]? = some fn∧cF P fn=some ⟨nt,res,body⟩
theorem aH.go {f:FuncId} {res:List (Nat×Option (Bool×Nat))} {body:AC} {args:List D} {s:St} {d:D} {s':St} (h0:Has P f nt res body) (hl:Nat.ble args.length nt=true)
 (h : ∀ (B:ic) (Q:Exit→Tm→St→Prop),B.s=s→rH s.aj.length s.az.length res d s'=Q→jU P B nt body Q (ow 0 args) s):aH P f args s d s':=by
 obtain⟨fn,hf,hc⟩:=h0
 exact aH.intro ⟨fn,hf,hc⟩ (Nat.le_of_ble_eq_true hl) fun B hB=>jC (h B _ hB rfl)
theorem aH.agq {f:FuncId} {pre post:List D} {rows qn:List (List D)} {z z' k k':Nat} (h:aH P f (pre++ .slice (.tok 0) z rows::post) ⟨[],[some k]⟩ (.slice (.tok 0) z' qn) ⟨[],[some k']⟩)
 (hp:D.bF 0 0 pre=true) (ha:D.bF 0 0 post=true) (hw:D.jg 0 0 rows=true) (hw':D.jg 0 0 qn=true)
 {s:St} {t:Nat} (ht:s.az[t]? = some (some k)):aH P f (pre++ .slice (.tok t) z rows::post) s (.slice (.tok t) z' qn) ⟨s.aj,s.az.set t (some k')⟩:=by
 refine bS.frame [] [t] h (by simp) (by simp) (by simp) (by simpa using (List.getElem?_eq_some_iff.1 ht).1) rfl (fun i o' ds e1 e2=>by simp at e1) rfl (fun i t' e1=>?_)
  ?_ ?_ ?_
 ·cases i with
  |zero=>simp at e1;subst e1;simp[ht]
  |succ i=>simp at e1
 ·have h1:=fW [] [t] _ hp
  have h2:=fW [] [t] _ ha
  rw[gN]at h1 h2
  simp[gN,D.cO,Tag.cO,h1,h2,ke _ _ _ hw]
 ·have h1:=jt (n':=0) (m':=1) (Nat.le_refl 0) (Nat.zero_le 1) _ hp
  have h2:=jt (n':=0) (m':=1) (Nat.le_refl 0) (Nat.zero_le 1) _ ha
  rw[AQ]at h1 h2 ⊢
  simp only[List.length_nil,List.length_cons,List.all_append,h1,Bool.true_and,List.all_cons,h2,Bool.and_true,D.ok,Tag.ok,oa (Nat.zero_le 0) (Nat.zero_le 1) _ hw]
  rfl
 ·rintro _ _ ⟨rfl,rfl⟩
  refine⟨by simp[D.back,D.cO,Tag.cO,kR,ke _ _ _ hw'], ?_⟩
  simp[St.back,lF]
theorem ape (A C:Prop) : @CB (.bool true) ⟨A,C⟩=A:=by simp[CB,wZ]
theorem apf (A C:Prop) : @CB (.bool false) ⟨A,C⟩=C:=by simp[CB,wZ]
theorem ags (b:Bool) (A C:Prop) : @CB (.bool (!b)) ⟨A,C⟩ = @CB (.bool b) ⟨C,A⟩:=by
 cases b<;>simp[CB,wZ]
theorem Mz {b:Bool} {A C:Prop} (h1:b=true→A) (h2:b=false→C) : @CB (.bool b) ⟨A,C⟩:=⟨h1,h2⟩
theorem agt {b:Bool} {A C:Prop} (h:b=true) (h1:b=true→A) : @CB (.bool b) ⟨A,C⟩:=Mz h1 (fun h'=>by rw[h]at h';cases h')
theorem agu {b:Bool} {A C:Prop} (h:b=false) (h1:b=false→C) : @CB (.bool b) ⟨A,C⟩:=Mz (fun h'=>by rw[h]at h';cases h') h1
theorem akH {n m:Nat} {res:List (Nat×Option (Bool×Nat))} {d:D} {s':St} {tm:Tm} {s:St} {Q:Exit→Tm→St→Prop} (hQ:rH n m res d s'=Q)
 (h : ∃ l,cZ res tm s=some l∧Wk ((da l).fg n m) d∧iu (s.cut n m).aj s'.aj∧(s.cut n m).az=s'.az):Q .ret tm s:=hQ ▸ h
theorem akI {n m:Nat} {res:List (Nat×Option (Bool×Nat))} {d:D} {s':St} {tm:Tm} {s:St} {Q:Exit→Tm→St→Prop} (hQ:rH n m res d s'=Q)
 (h : ∃ l,cZ res tm s=some l∧Wk ((da l).fg n m) d∧iu (s.cut n m).aj s'.aj∧(s.cut n m).az=s'.az):Q .normal tm s:=hQ ▸ h
end
attribute [go_sem] YC adE adF adG YD VB YE VC YF VD YG adH adI adJ adK adL YH YI YJ YK
theorem VE : ∀ (tm:Tm) (s:St) (x:X),aY (AO.mv x) tm s=some (X.ev tm x,s):=
 fun tm s x=>nd (aY.eq_1 tm s x)
theorem VF : ∀ (tm:Tm) (s:St) (c a b:X),
 aY (AO.pick c a b) tm s =
  match X.ev tm c with
  |D.bool t=>some (if t=true then X.ev tm a else X.ev tm b,s)
  |x=>none:=
 fun tm s c a b=>nd (aY.eq_2 tm s c a b)
theorem VG : ∀ (tm:Tm) (s:St) (zero:List D),
 aY (AO.alloc zero) tm s=some (D.ptr s.aj.length 0,{aj:=s.aj++ [zero],az:=s.az}):=
 fun tm s zero=>nd (aY.eq_3 tm s zero)
theorem VH : ∀ (tm:Tm) (s:St) (x:X),
 aY (AO.box x) tm s =
  match (X.ev tm x).row with
  |some r=>some (D.ptr s.aj.length 0,{aj:=s.aj++ [r],az:=s.az})
  |none=>none:=
 fun tm s x=>nd (aY.eq_4 tm s x)
theorem VI : ∀ (tm:Tm) (s:St) (zero:List D) (parts:List (Nat×Nat×X)),
 aY (AO.build zero parts) tm s =
  match sY zero (List.map (fun(p:Nat×Nat×X)=>(p.fst,p.snd.fst,X.ev tm p.snd.snd)) parts)with
  |some cs=>some (D.agg cs,s)
  |none=>none:=
 fun tm s zero parts=>nd (aY.eq_5 tm s zero parts)
theorem VJ : ∀ (tm:Tm) (s:St) (zero:List D) (size n:Nat) (parts:List (Nat×X)),
 aY (AO.dm zero size n parts) tm s =
  match lg size (gY zero n) (List.map (fun(p:Nat×X)=>(p.fst,X.ev tm p.snd)) parts)with
  |some rows=>some (D.slice Tag.full size rows,s)
  |none=>none:=
 fun tm s zero size n parts=>nd (aY.eq_6 tm s zero size n parts)
theorem VK : ∀ (tm:Tm) (s:St) (zero:List D) (size n:Nat) (parts:List (Nat×X)),
 aY (AO.xn zero size n parts) tm s =
  match lg size (gY zero n) (List.map (fun(p:Nat×X)=>(p.fst,X.ev tm p.snd)) parts)with
  |some rows=>
   some (D.slice (Tag.tok s.az.length) size rows,{aj:=s.aj,az:=s.az++ [some rows.length]})
  |none=>none:=
 fun tm s zero size n parts=>nd (aY.eq_7 tm s zero size n parts)
theorem VL : ∀ (tm:Tm) (s:St) (x:X),
 aY (AO.Dd x) tm s =
  match X.ev tm x with
  | D.slice (Tag.tok t _) z rows=>
   if rows≠ []∧s.az[t]? = some (some rows.length)then
    some (D.slice Tag.shared z rows,{aj:=s.aj,az:=s.az.set t none})
   else none
  |x=>none:=
 fun tm s x=>nd (aY.eq_8 tm s x)
theorem VM : ∀ (tm:Tm) (s:St) (x:X) (agg:Bool) (size:Nat),
 aY (AO.load x agg size) tm s =
  match X.ev tm x with
  | D.ptr o off=>
   match s.aj[o]? with
   |some cs=>
    match part cs off agg size with
    |some d=>some (d,s)
    |none=>none
   |none=>none
  |D.dN row off=>
   match part row off agg size with
   |some d=>some (d,s)
   |none=>none
  |x=>Br x agg size s:=
 fun tm s x agg size=>nd (aY.eq_9 tm s x agg size)
theorem R7 : ∀ (tm:Tm) (s:St) (p x:X) (size:Nat),
 aY (AO.store p x size) tm s =
  match X.ev tm p,(X.ev tm x).row with
  | D.ptr o off,some r=>
   match s.aj[o]? with
   | some cs=>
    if r.length=size∧off+size≤cs.length then
     some (D.tuple [],{aj:=s.aj.set o (gR cs off r),az:=s.az})
    else none
   |none=>none
  |x,gi=>Dl x gi size s:=
 fun tm s p x size=>nd (aY.eq_10 tm s p x size)
theorem R8 : ∀ (tm:Tm) (s:St) (x:X),
 aY (AO.cm x) tm s =
  match X.ev tm x with
  |D.ptr o off=>some (D.ptr o off,s)
  |D.dN row off=>some (D.dN row off,s)
  |x=>match Rb x with|some d=>some (d,s)|none=>none:=
 fun tm s x=>nd (aY.eq_11 tm s x)
theorem R9 : ∀ (tm:Tm) (s:St) (op:BinOp) (x y:X),
 aY (AO.bin op x y) tm s =
  match zG op (X.ev tm x) (X.ev tm y)with
  |some d=>some (d,s)
  |none=>none:=
 fun tm s op x y=>nd (aY.eq_12 tm s op x y)
theorem Sb : ∀ (tm:Tm) (s:St) (neg:Bool) (x y:X),
 aY (AO.JP neg x y) tm s =
  match X.ev tm x,X.ev tm y with
  |D.bool a,D.bool b=>some (D.bool (if neg=true then !a==b else a==b),s)
  |x,gi=>none:=
 fun tm s neg x y=>nd (aY.eq_13 tm s neg x y)
theorem Sc : ∀ (tm:Tm) (s:St) (neg:Bool) (ks:List Nat) (x y:X),
 aY (AO.eqs neg ks x y) tm s =
  match X.ev tm x,X.ev tm y with
  |D.agg a,D.agg b=>
   match mQ ks a b with
   |some e=>some (D.bool (if neg=true then !e else e),s)
   |none=>none
  |x,gi=>none:=
 fun tm s neg ks x y=>nd (aY.eq_14 tm s neg ks x y)
theorem Sd : ∀ (tm:Tm) (s:St) (neg:Bool) (x y:X),
 aY (AO.JQ neg x y) tm s =
  match X.ev tm x,X.ev tm y with
  |D.eY,D.eY=>some (D.bool !neg,s)
  |D.ptr o off,D.eY=>some (D.bool neg,s)
  |D.dN row off,D.eY=>some (D.bool neg,s)
  |x,gi=>none:=
 fun tm s neg x y=>nd (aY.eq_15 tm s neg x y)
theorem Se : ∀ (tm:Tm) (s:St) (op:UnOp) (x:X),
 aY (AO.un op x) tm s =
  match JR op (X.ev tm x)with
  |some d=>some (d,s)
  |none=>none:=
 fun tm s op x=>nd (aY.eq_16 tm s op x)
theorem Sf : ∀ (tm:Tm) (s:St) (k:IntKind) (x:X),
 aY (AO.conv k x) tm s =
  match X.ev tm x with
  |D.int k_1 n=>some (D.int k (k.wrap n),s)
  |x=>none:=
 fun tm s k x=>nd (aY.eq_17 tm s k x)
theorem Sg : ∀ (tm:Tm) (s:St) (x:X),
 aY (AO.GY x) tm s =
  match X.ev tm x with
  |D.slice g size rows=>
   match qb rows with
   |some b=>some (D.str b,s)
   |none=>none
  |x=>none:=
 fun tm s x=>nd (aY.eq_18 tm s x)
theorem Si : ∀ (tm:Tm) (s:St) (x:X),
 aY (AO.Au x) tm s =
  match X.ev tm x with
  |D.str l=>some (D.slice Tag.shared 1 (List.map (fun(c:UInt8)=> [D.int IntKind.u8 ↑c.toNat]) l),s)
  |x=>none:=
 fun tm s x=>nd (aY.eq_19 tm s x)
theorem Sj : ∀ (tm:Tm) (s:St) (size:Nat) (x:X) (lo hi:Option X),
 aY (AO.GZ size x lo hi) tm s =
  match X.ev tm x with
  | D.slice g z rows=>
   match vz (Option.map (fun(x:X)=>X.ev tm x) lo),
    vA (Option.map (fun(x:X)=>X.ev tm x) hi) rows.length with
   | some l,some h=>
    if(rows = []∨z=size)∧0≤l∧l≤h∧h≤ ↑rows.length then
     some
      (D.slice (if l=0 then g.cut (decide (h = ↑rows.length))else Tag.shared) z
       (List.drop l.toNat (List.take h.toNat rows)),
       s)
    else none
   |x,gi=>none
  |x=>match zI x (Option.map (fun(x:X)=>X.ev tm x) lo) (Option.map (fun(x:X)=>X.ev tm x) hi)with|some d=>some (d,s)|none=>none:=
 fun tm s size x lo hi=>nd (aY.eq_20 tm s size x lo hi)
theorem Sk : ∀ (tm:Tm) (s:St) (x:X) (lo hi:Option X),
 aY (AO.LQ x lo hi) tm s =
  match X.ev tm x with
  | D.str t=>
   match vz (Option.map (fun(x:X)=>X.ev tm x) lo),vA (Option.map (fun(x:X)=>X.ev tm x) hi) t.length with
   |some l,some h=>
    if 0≤l∧l≤h∧h≤ ↑t.length then some (D.str (List.drop l.toNat (List.take h.toNat t)),s)else none
   |x,gi=>none
  |x=>none:=
 fun tm s x lo hi=>nd (aY.eq_21 tm s x lo hi)
theorem Sl : ∀ (tm:Tm) (s:St) (x:X) (off:Nat),
 aY (AO.av x off) tm s =
  match X.ev tm x with
  |D.ptr o k=>some (D.ptr o (k+off),s)
  |D.dN row k=>some (D.dN row (k+off),s)
  |x=>match G2 x off with|some d=>some (d,s)|none=>none:=
 fun tm s x off=>nd (aY.eq_22 tm s x off)
theorem Sn : ∀ (tm:Tm) (s:St) (x:X) (off:Nat) (agg:Bool) (size:Nat),
 aY (AO.De x off agg size) tm s =
  match X.ev tm x with
  |D.agg cs=>
   match part cs off agg size with
   |some d=>some (d,s)
   |none=>none
  |x=>none:=
 fun tm s x off agg size=>nd (aY.eq_23 tm s x off agg size)
theorem Sq : ∀ (tm:Tm) (s:St) (x i:X) (size:Nat),
 aY (AO.bZ x i size) tm s =
  match X.ev tm x,X.ev tm i with
  | D.slice g z rows,D.int k n=>
   if 0≤n∧z=size then
    match rows[n.toNat]? with
    |some row=>some (D.dN row 0,s)
    |none=>none
   else none
  |x,gi=>match Aw x gi size with|some d=>some (d,s)|none=>none:=
 fun tm s x i size=>nd (aY.eq_24 tm s x i size)
theorem Sr : ∀ (tm:Tm) (s:St) (x i:X),
 aY (AO.Df x i) tm s =
  match X.ev tm x,X.ev tm i with
  | D.str t,D.int k n=>
   if 0≤n then
    match t[n.toNat]? with
    |some c=>some (D.int IntKind.u8 ↑c.toNat,s)
    |none=>none
   else none
  |x,gi=>none:=
 fun tm s x i=>nd (aY.eq_25 tm s x i)
theorem Ss : ∀ (tm:Tm) (s:St) (x:X) (i:Nat),
 aY (AO.ext x i) tm s =
  match X.ev tm x with
  |D.tuple ds=>
   match ds[i]? with
   |some d=>some (d,s)
   |none=>none
  |x=>none:=
 fun tm s x i=>nd (aY.eq_26 tm s x i)
theorem Sv : ∀ (tm:Tm) (s:St) (x:X),
 aY (AO.xo x) tm s =
  match X.ev tm x with
  |D.str t=>some (D.int IntKind.i64 ↑t.length,s)
  |x=>none:=
 fun tm s x=>nd (aY.eq_27 tm s x)
theorem Sw : ∀ (tm:Tm) (s:St) (x:X),
 aY (AO.len x) tm s =
  match X.ev tm x with
  |D.slice g size rows=>some (D.int IntKind.i64 ↑rows.length,s)
  |x=>match IW x with|some d=>some (d,s)|none=>none:=
 fun tm s x=>nd (aY.eq_28 tm s x)
theorem Sx : ∀ (tm:Tm) (s:St) (size bytes:Nat) (x y:X),
 aY (AO.app size bytes x y) tm s =
  match X.ev tm x with
  |D.slice g z rows=>jW size bytes (D.slice g z rows) (X.ev tm y) s
  |d=>zJ size bytes d (X.ev tm y) s:=
 fun tm s size bytes x y=>nd (aY.eq_29 tm s size bytes x y)
theorem Sy : ∀ (tm:Tm) (s:St) (isMax:Bool) (x y:X),
 aY (AO.mm isMax x y) tm s =
  match X.ev tm x,X.ev tm y with
  |D.int k a,D.int k' b=>
   if k=k' then some (D.int k (if isMax=true then if b > a then b else a else if b<a then b else a),s)
   else none
  |x,gi=>none:=
 fun tm s isMax x y=>nd (aY.eq_30 tm s isMax x y)
theorem Sz (tm:Tm) (s:St) (r:List D) (T:TypeId):aY (AO.vy (.eY::r) T) tm s=some (.ptr s.aj.length 0,{aj:=s.aj++ [.gb T s.aj.length::r],az:=s.az}):=nd rfl
theorem SA (tm:Tm) (s:St) (x:X) (T:TypeId):aY (AO.Dg x T) tm s =
 match (x.ev tm).row with
 |some (.eY::r)=>some (.ptr s.aj.length 0,{aj:=s.aj++ [.gb T s.aj.length::r],az:=s.az})
 |_=>none:=nd rfl
theorem SB (tm:Tm) (s:St) (x y:X):aY (AO.apps x y) tm s =
 match y.ev tm with
 | .str l=>Dk (x.ev tm) (.slice .shared 1 (l.map fun c=> [.int .u8 c.toNat])) s
 |_=>none:=nd rfl
theorem SC (tm:Tm) (s:St) (x y:X):aY (AO.Dh x y) tm s=Dk (x.ev tm) (y.ev tm) s:=nd rfl
theorem SD (tm:Tm) (s:St) (f:Nat) (xs:List X):aY (AO.wV f xs) tm s=some (.ix f (xs.map fun x=>x.ev tm),s):=nd rfl
theorem SE (tm:Tm) (s:St):aY AO.wW tm s=some (.gW s.aj.length,{aj:=s.aj++ [[]],az:=s.az}):=nd rfl
theorem SF (tm:Tm) (s:St) (m k v:X):aY (AO.Bp m k v) tm s =
 match m.ev tm,k.ev tm,v.ev tm with
 | .gW o, .str key, .slice g z rows=>
  match s.aj[o]? with
  |some cs=>match zH key (.slice g z rows) cs with|some kT=>some (.tuple [],{aj:=s.aj.set o kT,az:=s.az})|none=>none
  |none=>none
 |_,_,_=>none:=nd rfl
theorem SG (tm:Tm) (s:St) (m k:X) (zero:D):aY (AO.yD m k zero) tm s =
 match m.ev tm,k.ev tm with
 | .gW o, .str key=>
  match s.aj[o]? with
  |some cs=>match Bq key zero cs with|some d=>some (d,s)|none=>none
  |none=>none
 |_,_=>none:=nd rfl
theorem SH (tm:Tm) (s:St) (o:FO) (x y:X):aY (AO.sX o x y) tm s=match sr o (x.ev tm) (y.ev tm)with|some d=>some (d,s)|none=>none:=nd rfl
theorem SI (tm:Tm) (s:St) (size bytes:Nat) (zero:List D) (l c:X):aY (AO.Di size bytes zero l c) tm s =
 match l.ev tm,c.ev tm with
 | .int .i64 n, .int .i64 m=>if n=m∧0≤n∧n*((bytes:Int)+1)≤bp then some (.dH size s.aj.length 0 n.toNat,{s with aj:=s.aj++ [.int .i64 ((0:Nat):Int)::(gY zero n.toNat).flatten]})else none
 |_,_=>none:=nd rfl
theorem MA (o:FO) (x y:X):(AO.sX o x y).core=false:=nd rfl
theorem MB (size bytes:Nat) (zero:List D) (l c:X):(AO.Di size bytes zero l c).core=true:=nd rfl
theorem MC (f:Nat) (xs:List X):(AO.wV f xs).core=false:=nd rfl
theorem MD:AO.wW.core=true:=nd rfl
theorem ME (m k v:X):(AO.Bp m k v).core=true:=nd rfl
theorem MF (m k:X) (zero:D):(AO.yD m k zero).core=false:=nd rfl
theorem VN (n m f:Nat) (cs:List D):D.fg n m (.ix f cs) = .ix f (D.iF n m cs):=nd (by simp only[D.fg])
theorem VO (n m:Nat) (o:Nat):D.fg n m (.gW o)=if o<n then .gW o else .junk:=nd (by simp only[D.fg])
theorem SJ (d:Option Nat) (g:Option (Nat×Bool)) (t:Nat) (xs:List X):(AI.ky d g t xs).dst=d:=nd rfl
theorem MG (x y:X):(AO.Dh x y).core=true:=nd rfl
theorem MH (z:List D) (T:TypeId):(AO.vy z T).core=true:=nd rfl
theorem MI (x:X) (T:TypeId):(AO.Dg x T).core=true:=nd rfl
theorem MJ (x y:X):(AO.apps x y).core=true:=nd rfl
theorem VP (n m:Nat) (v:Value):D.fg n m (.val v) = .val v:=nd (by simp only[D.fg])
theorem VQ (n m:Nat) (T:TypeId) (o:Nat):D.fg n m (.gb T o)=if o<n then .gb T o else .junk:=nd (by simp only[D.fg])
theorem YL : ∀ (tm:Tm) (t:Nat),X.ev tm (X.s t)=tm.get t:=
 fun tm t=>nd (X.ev.eq_1 tm t)
theorem YM : ∀ (tm:Tm) (d:D),X.ev tm (X.k d)=d:=
 fun tm d=>nd (X.ev.eq_2 tm d)
theorem SK : ∀ (tm:Tm) (d:D) (t:Nat),tm.put (some t) d=tm.set t d:=
 fun tm d t=>nd (Tm.put.eq_1 tm d t)
theorem SL : ∀ (tm:Tm) (d:D),tm.put none d=tm:=
 fun tm d=>nd (Tm.put.eq_2 tm d)
theorem SM : ∀ (x:Nat) (gi:D),Tm.set [] x gi = [(x,gi)]:=
 fun x gi=>nd (Tm.set.eq_1 x gi)
theorem SN : ∀ (x:Nat) (gi:D) (k:Nat) (e:D) (r:List (Nat×D)),
 Tm.set ((k,e)::r) x gi=if k=x then(k,gi)::r else(k,e)::Tm.set r x gi:=
 fun x gi k e r=>nd (Tm.set.eq_2 x gi k e r)
theorem SO : ∀ (x:Nat),Tm.get [] x=D.junk:=
 fun x=>nd (Tm.get.eq_1 x)
theorem SP : ∀ (x k:Nat) (d:D) (r:List (Nat×D)),Tm.get ((k,d)::r) x=if k=x then d else Tm.get r x:=
 fun x k d r=>nd (Tm.get.eq_2 x k d r)
theorem VR : ∀ (x:Nat),ow x [] = []:=
 fun x=>nd (ow.eq_1 x)
theorem VS : ∀ (x:Nat) (d:D) (r:List D),ow x (d::r)=(x,d)::ow (x+1) r:=
 fun x d r=>nd (ow.eq_2 x d r)
theorem SQ : ∀ (d:Option Nat) (g:Option (Nat×Bool)) (o:AO),(AI.op d g o).dst=d:=
 fun d g o=>nd (AI.dst.eq_1 d g o)
theorem SR : ∀ (d:Option Nat) (g:Option (Nat×Bool)) (f:Nat) (xs:List X),(AI.call d g f xs).dst=d:=
 fun d g f xs=>nd (AI.dst.eq_2 d g f xs)
theorem SS : ∀ (d:Option Nat) (g:Option (Nat×Bool)) (neg:Bool) (gi:X),(AI.nil d g neg gi).dst=d:=
 fun d g neg gi=>nd (AI.dst.eq_3 d g neg gi)
theorem YN : ∀ (cs:List D) (off size:Nat),
 part cs off true size=if off+size≤cs.length then some (D.agg (List.take size (List.drop off cs)))else none:=
 fun cs off size=>nd (part.eq_1 cs off size)
theorem YO : ∀ (cs:List D) (off size:Nat),part cs off false size=cs[off]? :=
 fun cs off size=>nd (part.eq_2 cs off size)
theorem SU : ∀ (cs:List D) (off:Nat) (r:List D),
 gR cs off r=List.take off cs++r++List.drop (off+r.length) cs:=
 fun cs off r=>nd (gR.eq_1 cs off r)
theorem VT : ∀ (cells:List D),sY cells [] = some cells:=
 fun cells=>nd (sY.eq_1 cells)
theorem VU : ∀ (cells:List D) (off size:Nat) (d:D) (rest:List (Nat×Nat×D)),
 sY cells ((off,size,d)::rest) =
  match d.row with
  |none=>none
  |some r=>if r.length=size∧off+size≤cells.length then sY (gR cells off r) rest else none:=
 fun cells off size d rest=>nd (sY.eq_2 cells off size d rest)
theorem MK : ∀ (size:Nat) (rows:List (List D)),lg size rows [] = some rows:=
 fun size rows=>nd (lg.eq_1 size rows)
theorem MM : ∀ (size:Nat) (rows:List (List D)) (i:Nat) (d:D) (rest:List (Nat×D)),
 lg size rows ((i,d)::rest) =
  match d.row with
  |none=>none
  |some r=>if r.length=size∧i<rows.length then lg size (rows.set i r) rest else none:=
 fun size rows i d rest=>nd (lg.eq_2 size rows i d rest)
theorem MN : ∀ (zero:List D),gY zero 0 = []:=
 fun zero=>nd (gY.eq_1 zero)
theorem MO : ∀ (zero:List D) (i:Nat),gY zero i.succ=zero::gY zero i:=
 fun zero i=>nd (gY.eq_2 zero i)
theorem YP : ∀ (op:BinOp) (k:IntKind) (a:Int) (k':IntKind) (b:Int),
 zG op (D.int k a) (D.int k' b)=if k=k' then gu op k a b else none:=
 fun op k a k' b=>nd (zG.eq_1 op k a k' b)
theorem YQ : ∀ (op:BinOp) (a b:List UInt8),zG op (D.str a) (D.str b)=pU op a b:=
 fun op a b=>nd (zG.eq_2 op a b)
theorem SV : ∀ (k:IntKind) (a b:Int),gu BinOp.add k a b=some (D.int k (k.wrap (a+b))):=
 fun k a b=>nd (gu.eq_1 k a b)
theorem SW : ∀ (k:IntKind) (a b:Int),gu BinOp.sub k a b=some (D.int k (k.wrap (a - b))):=
 fun k a b=>nd (gu.eq_2 k a b)
theorem SX : ∀ (k:IntKind) (a b:Int),gu BinOp.mul k a b=some (D.int k (k.wrap (a*b))):=
 fun k a b=>nd (gu.eq_3 k a b)
theorem SY : ∀ (k:IntKind) (a b:Int),
 gu BinOp.quo k a b=if b=0 then none else some (D.int k (k.wrap (a.tdiv b))):=
 fun k a b=>nd (gu.eq_4 k a b)
theorem SZ : ∀ (k:IntKind) (a b:Int),gu BinOp.rem k a b=if b=0 then none else some (D.int k (a.tmod b)):=
 fun k a b=>nd (gu.eq_5 k a b)
theorem S1 : ∀ (k:IntKind) (a b:Int),gu BinOp.eql k a b=some (D.bool (a==b)):=
 fun k a b=>nd (gu.eq_6 k a b)
theorem S2 : ∀ (k:IntKind) (a b:Int),gu BinOp.neq k a b=some (D.bool (a != b)):=
 fun k a b=>nd (gu.eq_7 k a b)
theorem S3 : ∀ (k:IntKind) (a b:Int),gu BinOp.lss k a b=some (D.bool (decide (a<b))):=
 fun k a b=>nd (gu.eq_8 k a b)
theorem S4 : ∀ (k:IntKind) (a b:Int),gu BinOp.leq k a b=some (D.bool (decide (a≤b))):=
 fun k a b=>nd (gu.eq_9 k a b)
theorem O5 : ∀ (k:IntKind) (a b:Int),gu BinOp.gtr k a b=some (D.bool (decide (a > b))):=
 fun k a b=>nd (gu.eq_10 k a b)
theorem O6 : ∀ (k:IntKind) (a b:Int),gu BinOp.geq k a b=some (D.bool (decide (a≥b))):=
 fun k a b=>nd (gu.eq_11 k a b)
theorem S5 : ∀ (a b:List UInt8),
 pU BinOp.add a b=if a.length+b.length≤bp then some (D.str (a++b))else none:=
 fun a b=>nd (pU.eq_1 a b)
theorem S6 : ∀ (a b:List UInt8),pU BinOp.eql a b=some (D.bool (a==b)):=
 fun a b=>nd (pU.eq_2 a b)
theorem S7 : ∀ (a b:List UInt8),pU BinOp.neq a b=some (D.bool !a==b):=
 fun a b=>nd (pU.eq_3 a b)
theorem S8 : ∀ (a b:List UInt8),pU BinOp.lss a b=some (D.bool (bytesLess a b)):=
 fun a b=>nd (pU.eq_4 a b)
theorem O7 (k:IntKind) (a b:Int):gu BinOp.and k a b=some (D.int k (afJ k a b)):=nd rfl
theorem O8 (k:IntKind) (a b:Int):gu BinOp.or k a b=some (D.int k (bOr k a b)):=nd rfl
theorem O9 (k:IntKind) (a b:Int):gu BinOp.xor k a b=some (D.int k (LU k a b)):=nd rfl
theorem Pa (k:IntKind) (a b:Int):gu BinOp.shl k a b=if b<0 then none else some (D.int k (afK k a b)):=nd rfl
theorem Pb (k:IntKind) (a b:Int):gu BinOp.shr k a b=if b<0 then none else some (D.int k (afL k a b)):=nd rfl
theorem adM (k:IntKind) (n:Int):JR UnOp.xor (D.int k n)=some (D.int k (LU k (if k.signed then -1 else k.max) n)):=nd rfl
theorem adN : ∀ (k:IntKind) (n:Int),JR UnOp.neg (D.int k n)=some (D.int k (k.wrap (0 - n))):=
 fun k n=>nd (JR.eq_1 k n)
theorem adO : ∀ (b:Bool),JR UnOp.not (D.bool b)=some (D.bool !b):=
 fun b=>nd (JR.eq_2 b)
theorem S9 : ∀ (k:IntKind) (a:Int) (k':IntKind) (b:Int),
 oD 0 (D.int k a) (D.int k' b)=if k=k' then some (a==b)else none:=
 fun k a k' b=>nd (oD.eq_1 k a k' b)
theorem Ta : ∀ (a b:Bool),oD 1 (D.bool a) (D.bool b)=some (a==b):=
 fun a b=>nd (oD.eq_2 a b)
theorem Tb : ∀ (a b:List UInt8),oD 2 (D.str a) (D.str b)=some (a==b):=
 fun a b=>nd (oD.eq_3 a b)
theorem Pe:mQ [] [] [] = some true:=
 nd (mQ.eq_1)
theorem Pf : ∀ (k:Nat) (ks:List Nat) (x_3:D) (xs:List D) (y:D) (ys:List D),
 mQ (k::ks) (x_3::xs) (y::ys) =
  match oD k x_3 y with
  |none=>none
  |some true=>mQ ks xs ys
  |some false=>some false:=
 fun k ks x_3 xs y ys=>nd (mQ.eq_2 k ks x_3 xs y ys)
theorem adP:vz none=some 0:=
 nd (vz.eq_1)
theorem adQ : ∀ (k:IntKind) (n:Int),vz (some (D.int k n))=some n:=
 fun k n=>nd (vz.eq_2 k n)
theorem adR : ∀ (len:Nat),vA none len=some ↑len:=
 fun len=>nd (vA.eq_1 len)
theorem adS : ∀ (len:Nat) (k:IntKind) (n:Int),vA (some (D.int k n)) len=some n:=
 fun len k n=>nd (vA.eq_2 len k n)
theorem Ph : ∀ (zero:List D),(AO.alloc zero).core=true:=
 fun zero=>nd (AO.core.eq_1 zero)
theorem Pj : ∀ (gi:X),(AO.box gi).core=true:=
 fun gi=>nd (AO.core.eq_2 gi)
theorem Pk : ∀ (zero:List D) (size n:Nat) (parts:List (Nat×X)),(AO.xn zero size n parts).core=true:=
 fun zero size n parts=>nd (AO.core.eq_3 zero size n parts)
theorem Pl : ∀ (gi:X),(AO.Dd gi).core=true:=
 fun gi=>nd (AO.core.eq_4 gi)
theorem Pn : ∀ (p gi:X) (size:Nat),(AO.store p gi size).core=true:=
 fun p gi size=>nd (AO.core.eq_5 p gi size)
theorem Po : ∀ (size bytes:Nat) (gi y:X),(AO.app size bytes gi y).core=true:=
 fun size bytes gi y=>nd (AO.core.eq_6 size bytes gi y)
theorem Pp : ∀ (val:Nat) (zero:List D),(AI.op (some val) none (AO.alloc zero)).kind=AK.alloc:=
 fun val zero=>nd (AI.kind.eq_1 val zero)
theorem Pq : ∀ (zero:List D),(AO.alloc zero).kind=AK.core:=
 fun zero=>nd (AO.kind.eq_1 zero)
theorem Pr : ∀ (gi:X),(AO.box gi).kind=AK.core:=
 fun gi=>nd (AO.kind.eq_2 gi)
theorem Ps : ∀ (zero:List D) (size n:Nat) (parts:List (Nat×X)),(AO.xn zero size n parts).kind=AK.core:=
 fun zero size n parts=>nd (AO.kind.eq_3 zero size n parts)
theorem Pu : ∀ (gi:X),(AO.Dd gi).kind=AK.core:=
 fun gi=>nd (AO.kind.eq_4 gi)
theorem Pv : ∀ (p gi:X) (size:Nat),(AO.store p gi size).kind=AK.core:=
 fun p gi size=>nd (AO.kind.eq_5 p gi size)
theorem Pw : ∀ (size bytes:Nat) (gi y:X),(AO.app size bytes gi y).kind=AK.core:=
 fun size bytes gi y=>nd (AO.kind.eq_6 size bytes gi y)
theorem Px : ∀ (gi:X) (agg:Bool) (size:Nat),(AO.load gi agg size).kind=AK.load:=
 fun _ _ _=>nd rfl
theorem Tc:iT AK.core=true:=
 nd (iT.eq_1)
theorem Td:iT AK.alloc=true:=
 nd (iT.eq_2)
theorem Te : ∀ (i:AI) (tm:Tm) (d:D),pY i tm d [] = True:=
 fun i tm d=>nd (pY.eq_1 i tm d)
theorem Tf : ∀ (i:AI) (tm:Tm) (d:D) (s:St) (r:List St),
 pY i tm d (s::r)=(la i tm s=some d∧pY i tm d r):=
 fun i tm d s r=>nd (pY.eq_2 i tm d s r)
theorem adT : ∀ (tm:Tm) (s:St) (dst:Option Nat) (o:AO),
 la (AI.op dst none o) tm s=Option.map (fun(x:D×St)=>x.fst) (aY o tm s):=
 fun tm s dst o=>nd (la.eq_1 tm s dst o)
theorem adU : ∀ (tm:Tm) (s:St) (dst:Option Nat) (t:Nat) (want:Bool) (o:AO),
 la (AI.op dst (some (t,want)) o) tm s =
  match tm.get t with
  |D.bool b=>if b=want then Option.map (fun(x:D×St)=>x.fst) (aY o tm s)else some (D.tuple [])
  |D.tuple vs=>some (D.tuple [])
  |x=>none:=
 fun tm s dst t want o=>nd (la.eq_2 tm s dst t want o)
theorem Py : ∀ (is:List AI),oJ is [] = some []:=
 fun is=>nd (oJ.eq_1 is)
theorem Pz : ∀ (is:List AI) (q b:Nat) (r:List (Nat×Nat)),
 oJ is ((q,b)::r) =
  match is[q]?,oJ is r with
  |some ai,some l=>some ((ai,b)::l)
  |x,gi=>none:=
 fun is q b r=>nd (oJ.eq_2 is q b r)
theorem adV : ∀ (tm:Tm) (n m:Nat),yT tm n m [] = True:=
 fun tm n m=>nd (yT.eq_1 tm n m)
theorem adW : ∀ (tm:Tm) (n m k:Nat) (d:D) (r:List (Nat×D)),
 yT tm n m ((k,d)::r)=(Wk (D.fg n m (tm.get k)) d∧yT tm n m r):=
 fun tm n m k d r=>nd (yT.eq_2 tm n m k d r)
theorem YR : ∀ (n m o off:Nat),D.fg n m (D.ptr o off)=if o<n then D.ptr o off else D.junk:=
 fun n m o off=>nd (D.fg.eq_1 n m o off)
theorem YS : ∀ (n m:Nat) (row:List D) (off:Nat),D.fg n m (D.dN row off)=D.dN (D.iF n m row) off:=
 fun n m row off=>nd (D.fg.eq_2 n m row off)
theorem YT : ∀ (n m:Nat) (g:Tag) (z:Nat) (rows:List (List D)),
 D.fg n m (D.slice g z rows)=D.slice (Tag.fg m g) z (D.lR n m rows):=
 fun n m g z rows=>nd (D.fg.eq_3 n m g z rows)
theorem YU : ∀ (n m:Nat) (cs:List D),D.fg n m (D.agg cs)=D.agg (D.iF n m cs):=
 fun n m cs=>nd (D.fg.eq_4 n m cs)
theorem YV : ∀ (n m:Nat) (ds:List D),D.fg n m (D.tuple ds)=D.tuple (D.iF n m ds):=
 fun n m ds=>nd (D.fg.eq_5 n m ds)
theorem YW : ∀ (n m:Nat),D.fg n m D.junk=D.junk:=
 fun n m=>nd (D.fg.eq_6 n m)
theorem YX : ∀ (n m:Nat) (k:IntKind) (gi:Int),D.fg n m (D.int k gi)=D.int k gi:=
 fun n m k gi=>nd (D.fg.eq_7 n m k gi)
theorem YY : ∀ (n m:Nat) (b:Bool),D.fg n m (D.bool b)=D.bool b:=
 fun n m b=>nd (D.fg.eq_8 n m b)
theorem YZ : ∀ (n m:Nat) (l:List UInt8),D.fg n m (D.str l)=D.str l:=
 fun n m l=>nd (D.fg.eq_9 n m l)
theorem VV : ∀ (n m:Nat),D.fg n m D.eY=D.eY:=
 fun n m=>nd (D.fg.eq_10 n m)
theorem VW : ∀ (n m:Nat),D.iF n m [] = []:=
 fun n m=>nd (D.iF.eq_1 n m)
theorem VX : ∀ (n m:Nat) (d:D) (r:List D),D.iF n m (d::r)=D.fg n m d::D.iF n m r:=
 fun n m d r=>nd (D.iF.eq_2 n m d r)
theorem VY : ∀ (n m:Nat),D.lR n m [] = []:=
 fun n m=>nd (D.lR.eq_1 n m)
theorem VZ : ∀ (n m:Nat) (d:List D) (r:List (List D)),D.lR n m (d::r)=D.iF n m d::D.lR n m r:=
 fun n m d r=>nd (D.lR.eq_2 n m d r)
theorem Tg : ∀ (m t:Nat) (y:Bool),Tag.fg m (Tag.tok t y)=if t<m then Tag.tok t y else Tag.shared:=
 fun _ _ _=>nd rfl
theorem Ti : ∀ (s:St) (n m:Nat),
 s.cut n m = {aj:=List.map (D.iF n m) (List.take n s.aj),az:=List.take m s.az}:=
 fun s n m=>nd (St.cut.eq_1 s n m)
theorem Y0 : ∀ (d:D),da [d] = d:=
 fun d=>nd (da.eq_1 d)
theorem Y1 (size bytes t:Nat) (rows:List (List D)) (g:Tag) (r:List D) (s:St):jW size bytes (.slice (.tok t) size rows) (.slice g size [r]) s =
 if(rows.length+1)*(bytes+1)≤bp∧s.az[t]? = some (some rows.length)then some (.slice (.tok t) size (rows++ [r]),⟨s.aj,s.az.set t (some (rows.length+1))⟩)else none:=by
 simp only[jW,List.length_singleton]
 by_cases h1:(rows.length+1)*(bytes+1)≤bp<;>by_cases h2:s.az[t]? = some (some rows.length)<;>simp[h1,h2]
theorem pI {size bytes t:Nat} {rows new:List (List D)} {g:Tag} {s:St} (h1:(rows.length+new.length)*(bytes+1)≤bp) (h2:s.az[t]? = some (some rows.length)) :
 jW size bytes (.slice (.tok t) size rows) (.slice g size new) s=some (.slice (.tok t) size (rows++new),⟨s.aj,s.az.set t (some (rows.length+new.length))⟩):=by
 cases new with
 | nil=>
  have:s.az.set t (some rows.length)=s.az:=by
   apply List.ext_getElem?
   intro i
   rw[List.getElem?_set]
   split
   ·rename_i hi;subst hi;rw[h2,if_pos (List.getElem?_eq_some_iff.1 h2).1]
   ·rfl
  simp only[List.length_nil,Nat.add_zero]at h1
  simp[jW,h1,this]
 |cons x l=>
  simp only[jW,h1,h2]
  simp
theorem V0 (size bytes z:Nat) (g:Tag) (r:List D) (s:St):jW size bytes (.slice .full z []) (.slice g size [r]) s =
 if bytes+1≤bp then some (.slice (.tok s.az.length) size [r],⟨s.aj,s.az++ [some 1]⟩)else none:=by
 simp[jW]
theorem adX {P:Program} {B:ic} {nt:Nat} (ac:AC) (Q:Exit→Tm→St→Prop) (tm:Tm) (s:St):BB P B nt ac Q .normal tm s=Q .normal tm s:=nd rfl
theorem adY {P:Program} {B:ic} {nt:Nat} (ac:AC) (Q:Exit→Tm→St→Prop) (tm:Tm) (s:St):BB P B nt ac Q .ret tm s=Q .ret tm s:=nd rfl
theorem adZ {P:Program} {B:ic} {nt:Nat} (ac:AC) (Q:Exit→Tm→St→Prop) (tm:Tm) (s:St) (i:Nat):BB P B nt ac Q (.exit i) tm s=Q (.exit i) tm s:=nd rfl
theorem ad0 (m:Nat):Tag.fg m .full = .full:=nd rfl
theorem V1 (m:Nat):Tag.fg m .shared = .shared:=nd rfl
theorem akJ {P:Program} (K:Tm→St→Prop) (tm:Tm) (s:St):lG P [] K tm s=K tm s:=nd rfl
theorem s_op {P:Program} (dst:Option Nat) (o:AO) (r:List AI) (K:Tm→St→Prop) (tm:Tm) (s:St) :
 lG P (.op dst none o::r) K tm s=(match aY o tm s with|some (d,s')=>lG P r K (tm.put dst d) s'|none=>False):=nd rfl
def KJ (P:Program) (r:List AI) (K:Tm→St→Prop) (tm:Tm) (dst:Option Nat) (d:D) (s:St):Prop:=lG P r K (tm.put dst d) s
theorem aph {P:Program} (r:List AI) (K:Tm→St→Prop) (tm:Tm) (dst:Option Nat) (d:D) (s:St):KJ P r K tm dst d s=lG P r K (tm.put dst d) s:=nd rfl
theorem s_call {P:Program} (dst:Option Nat) (f:Nat) (xs:List X) (r:List AI) (K:Tm→St→Prop) (tm:Tm) (s:St) :
 lG P (.call dst none f xs::r) K tm s=CL false P f (xs.map (·.ev tm)) s (KJ P r K tm dst):=nd rfl
def NJ (P:Program) (dst:Option Nat) (neg:Bool) (x:D) (r:List AI) (K:Tm→St→Prop) (tm:Tm) (s:St):Prop:=
 match x with
 | .slice _ _ rows=>∀ b:Bool,(rows≠ []→b=false)→lG P r K (tm.put dst (.bool (if neg then !b else b))) s
 |_=>False
theorem agv {P:Program} (dst:Option Nat) (neg:Bool) (x:X) (r:List AI) (K:Tm→St→Prop) (tm:Tm) (s:St) :
 lG P (.nil dst none neg x::r) K tm s=NJ P dst neg (x.ev tm) r K tm s:=nd rfl
theorem ad1 {P:Program} (dst:Option Nat) (neg:Bool) (g:Tag) (z:Nat) (d:List D) (l:List (List D)) (r:List AI) (K:Tm→St→Prop) (tm:Tm) (s:St) :
 NJ P dst neg (.slice g z (d::l)) r K tm s=lG P r K (tm.put dst (.bool neg)) s:=by
 simp only[NJ,ne_eq,reduceCtorEq,not_false_eq_true,true_imp_iff,eq_iff_iff]
 refine⟨fun h=>by have:=h false rfl;cases neg<;>exact this,fun h b hb=>?_⟩
 subst hb;cases neg<;>exact h
theorem Y2 {P:Program} {dst:Option Nat} {neg:Bool} {g:Tag} {z:Nat} {l:List (List D)} {r:List AI} {K:Tm→St→Prop} {tm:Tm} {s:St}
 (h1:l = []→lG P r K (tm.put dst (.bool (!neg))) s) (h2:lG P r K (tm.put dst (.bool neg)) s):NJ P dst neg (.slice g z l) r K tm s:=by
 intro b hb
 cases b with
 |false=>cases neg<;>exact h2
 |true=>
  have:l = []:=Decidable.byContradiction fun h=>by cases hb h
  cases neg<;>exact h1 this
theorem akL {P:Program} (dst:Option Nat) (t:Nat) (w:Bool) (o:AO) (r:List AI) (K:Tm→St→Prop) (tm:Tm) (s:St) :
 lG P (.op dst (some (t,w)) o::r) K tm s = @GB (tm.get t) w ⟨(lG P (.op dst none o::r) K tm s),(lG P r K (tm.put dst (.tuple [])) s)⟩:=nd rfl
def CV (P:Program) (x:D) (akM:List D) (s:St) (K:D→St→Prop):Prop:=
 match x with
 | .ix f pC=>enters P f=true∧CL false P f (akM++pC) s K
 |_=>False
theorem ad2 {P:Program} (dst:Option Nat) (t:Nat) (xs:List X) (r:List AI) (K:Tm→St→Prop) (tm:Tm) (s:St) :
 lG P (.ky dst none t xs::r) K tm s=CV P (tm.get t) (xs.map (·.ev tm)) s (KJ P r K tm dst):=nd rfl
theorem CV.use {P:Program} {f:Nat} {pC akM:List D} {s s':St} {d:D} {K:D→St→Prop} (he:enters P f=true) (h:aH P f (akM++pC) s d s') (k:K d s'):CV P (.ix f pC) akM s K:=⟨he,CU h k⟩
theorem Y3 {P:Program} (dst:Option Nat) (t:Nat) (w:Bool) (u:Nat) (xs:List X) (r:List AI) (K:Tm→St→Prop) (tm:Tm) (s:St) :
 lG P (.ky dst (some (t,w)) u xs::r) K tm s = @GB (tm.get t) w ⟨(lG P (.ky dst none u xs::r) K tm s),(lG P r K (tm.put dst (.tuple [])) s)⟩:=nd rfl
theorem ad3 {P:Program} (dst:Option Nat) (t:Nat) (w:Bool) (f:Nat) (xs:List X) (r:List AI) (K:Tm→St→Prop) (tm:Tm) (s:St) :
 lG P (.call dst (some (t,w)) f xs::r) K tm s = @GB (tm.get t) w ⟨(lG P (.call dst none f xs::r) K tm s),(lG P r K (tm.put dst (.tuple [])) s)⟩:=nd rfl
theorem agx {P:Program} (dst:Option Nat) (t:Nat) (w:Bool) (neg:Bool) (x:X) (r:List AI) (K:Tm→St→Prop) (tm:Tm) (s:St) :
 lG P (.nil dst (some (t,w)) neg x::r) K tm s = @GB (tm.get t) w ⟨(lG P (.nil dst none neg x::r) K tm s),(lG P r K (tm.put dst (.tuple [])) s)⟩:=nd rfl
theorem api (b:Bool) (A C:Prop) : @GB (.bool b) true ⟨A,C⟩ = @CB (.bool b) ⟨A,C⟩:=nd rfl
theorem apj (b:Bool) (A C:Prop) : @GB (.bool b) false ⟨A,C⟩ = @CB (.bool b) ⟨C,A⟩:=by
 cases b<;>simp[GB,CB,GJ,wZ]
theorem apk (l:List D) (w:Bool) (A C:Prop) : @GB (.tuple l) w ⟨A,C⟩=C:=nd rfl
theorem akN {P:Program} {K:Tm→St→Prop} (bO:List St) (tm:Tm) (s:St):iA P K [] bO tm s=K tm s:=nd rfl
def OJ (P:Program) (o:AO) (dst:Option Nat) (b:Nat) (r:List (AI×Nat)) (K:Tm→St→Prop) (bO:List St) (tm:Tm) (s:St):Bool→Prop
 |true=>match aY o tm s with|some (d,s')=>iA P K r (s::bO) (tm.put dst d) s'|none=>False
 |false=>match aY o tm s with|some (d,_)=>pY (.op dst none o) tm d (bO.take b)∧iA P K r bO (tm.put dst d) s|none=>False
theorem apm {P:Program} {K:Tm→St→Prop} (dst:Option Nat) (o:AO) (b:Nat) (r:List (AI×Nat)) (bO:List St) (tm:Tm) (s:St) :
 iA P K ((.op dst none o,b)::r) bO tm s=OJ P o dst b r K bO tm s o.core:=by
 simp only[iA,oK]
 cases o.core<;>rfl
theorem apn {P:Program} (o:AO) (dst:Option Nat) (b:Nat) (r:List (AI×Nat)) (K:Tm→St→Prop) (bO:List St) (tm:Tm) (s:St) :
 OJ P o dst b r K bO tm s true=match aY o tm s with|some (d,s')=>iA P K r (s::bO) (tm.put dst d) s'|none=>False:=nd rfl
theorem apo {P:Program} (o:AO) (dst:Option Nat) (b:Nat) (r:List (AI×Nat)) (K:Tm→St→Prop) (bO:List St) (tm:Tm) (s:St) :
 OJ P o dst b r K bO tm s false=match aY o tm s with|some (d,_)=>pY (.op dst none o) tm d (bO.take b)∧iA P K r bO (tm.put dst d) s|none=>False:=nd rfl
theorem akO {P:Program} {K:Tm→St→Prop} (dst:Option Nat) (t:Nat) (w:Bool) (o:AO) (b:Nat) (r:List (AI×Nat)) (bO:List St) (tm:Tm) (s:St) :
 iA P K ((.op dst (some (t,w)) o,b)::r) bO tm s = @GB (tm.get t) w ⟨(iA P K ((.op dst none o,b)::r) bO tm s),(iA P K r (if o.core then s::bO else bO) (tm.put dst (.tuple [])) s)⟩:=by
 simp only[GB,iA,oK]
 cases o.core<;>rfl
def KG (P:Program) (K:Tm→St→Prop) (r:List (AI×Nat)) (bO:List St) (tm:Tm) (dst:Option Nat) (d:D) (s:St):Prop:=iA P K r bO (tm.put dst d) s
theorem apq {P:Program} (K:Tm→St→Prop) (r:List (AI×Nat)) (bO:List St) (tm:Tm) (dst:Option Nat) (d:D) (s:St):KG P K r bO tm dst d s=iA P K r bO (tm.put dst d) s:=nd rfl
theorem g_call {P:Program} {K:Tm→St→Prop} (dst:Option Nat) (f:Nat) (xs:List X) (b:Nat) (r:List (AI×Nat)) (bO:List St) (tm:Tm) (s:St) :
 iA P K ((.call dst none f xs,b)::r) bO tm s=CL true P f (xs.map (·.ev tm)) s (KG P K r (s::bO) tm dst):=nd rfl
theorem ad4 {P:Program} {K:Tm→St→Prop} (dst:Option Nat) (t:Nat) (w:Bool) (f:Nat) (xs:List X) (b:Nat) (r:List (AI×Nat)) (bO:List St) (tm:Tm) (s:St) :
 iA P K ((.call dst (some (t,w)) f xs,b)::r) bO tm s = @GB (tm.get t) w ⟨(iA P K ((.call dst none f xs,b)::r) bO tm s),(iA P K r (s::bO) (tm.put dst (.tuple [])) s)⟩:=nd rfl
class Ok (p:Prop):Prop where
 out:p
instance:Ok True:=⟨trivial⟩
instance {p q:Prop} [Ok p] [Ok q] : Ok (p∧q):=⟨⟨Ok.out,Ok.out⟩⟩
instance {α:Type} (a:α):Ok (a=a):=⟨rfl⟩
instance (d:D):Ok (Wk d .junk):=⟨Wk.junk d⟩
instance {l l':List D} [Ok (kv l l')] : Ok (Wk (.tuple l) (.tuple l')):=⟨Wk.tuple Ok.out⟩
instance {l l':List D} [Ok (kv l l')] : Ok (Wk (.agg l) (.agg l')):=⟨Wk.agg Ok.out⟩
instance {g:Tag} {z:Nat} {l l':List (List D)} [Ok (iu l l')] : Ok (Wk (.slice g z l) (.slice g z l')):=⟨Wk.rows Ok.out⟩
instance {g:Tag} {z:Nat} {l l':List (List D)} [Ok (iu l l')] : Ok (Wk (.slice g z l) (.slice .shared z l')):=⟨Wk.slice Ok.out⟩
instance (z z':Nat):Ok (Wk (.slice .full z []) (.slice .full z' [])):=⟨Wk.ao8 z z'⟩
instance (g:Tag) (z z':Nat):Ok (Wk (.slice g z []) (.slice .shared z' [])):=⟨Wk.nil g z z'⟩
instance (d:D):Ok (Wk d d):=⟨Wk.refl d⟩
instance:Ok (kv [] []):=⟨.nil⟩
instance {d d':D} {l l':List D} [Ok (Wk d d')] [Ok (kv l l')] : Ok (kv (d::l) (d'::l')):=⟨.cons Ok.out Ok.out⟩
instance (l:List D):Ok (kv l l):=⟨kv.refl l⟩
instance:Ok (iu [] []):=⟨.nil⟩
instance {d d':List D} {l l':List (List D)} [Ok (kv d d')] [Ok (iu l l')] : Ok (iu (d::l) (d'::l')):=⟨.cons Ok.out Ok.out⟩
instance {a a' b b':List (List D)} [Ok (iu a a')] [Ok (iu b b')] : Ok (iu (a++b) (a'++b')):=⟨iu.append Ok.out Ok.out⟩
instance (l:List (List D)):Ok (iu l l):=⟨iu.refl l⟩
theorem bs:(∀ b,(true ||b)=true)∧(∀ b,(false ||b)=b)∧(∀ b,(b ||true)=true)∧(∀ b,(b ||false)=b)∧(∀ b,(true && b)=b)∧(∀ b,(false && b)=false)∧(∀ b,(b && true)=b)∧(∀ b,(b && false)=false)∧
 (!true)=false∧(!false)=true∧(∀ b,(!!b)=b)∧((false=true)=False)∧(∀ (α β:Type) (a:α) (f:α→Option β),(some a).bind f=f a)∧
 (∀ (α β γ:Type) (x:Option α) (f:α→Option β) (g:β→Option γ),(x.bind f).bind g=x.bind fun y=>(f y).bind g):=
 ⟨Bool.true_or,Bool.false_or,Bool.or_true,Bool.or_false,Bool.true_and,Bool.false_and,Bool.and_true,Bool.and_false,rfl,rfl,Bool.not_not,by simp,fun _ _ _ _=>rfl,fun _ _ _ x f g=>Option.bind_assoc x f g⟩
attribute [go_sem] ags ape apf akJ s_op aph s_call agv ad1 akL ad3 agx api apj apk akN apm apn apo akO apq g_call ad4 AO.core AI.kind AO.kind iT
attribute [go_sem] SH SI MA MB ad2 Y3 SD SE SF SG MC MD ME MF VN VO SJ adC Yz
attribute [go_sem] SC MG Sz SA SB MH MI MJ VP VQ adB Vz adx Yw ady Yx adz Yy Vy adA YA R5 YB
attribute [go_sem] VE VF VG VH VI VJ VK VL VM R7 R8 R9 Sb Sc Sd Se Sf Sg Si Sj Sk Sl Sn Sq Sr Ss Sv Sw Sx Sy YL YM SK SL SM SN SO SP VR VS SQ SR SS YN YO SU VT VU MK MM MN MO YP YQ SV SW SX SY SZ S1 S2 S3 S4 O5 O6 O7 O8 O9 Pa Pb adM S5 S6 S7 S8 adN adO S9 Ta Tb Pe Pf adP adQ adR adS Ph Pj Pk Pl Pn Po Pp Pq Pr Ps Pu Pv Pw Px Tc Td Te Tf adT adU Py Pz adV adW YR YS YT YU YV YW YX YY YZ VV VW VX VY VZ Tg Ti Y0 Y1 V0 ad0 V1 adX adY adZ
attribute [go_sem] List.map_cons List.map_nil List.getElem?_cons_zero List.getElem?_cons_succ List.length_cons List.length_nil List.set_cons_zero List.set_cons_succ List.take_succ_cons List.take_zero List.take_nil List.drop_succ_cons List.drop_zero List.drop_nil List.cons_append List.nil_append List.append_nil Nat.zero_add Nat.add_zero Option.map_some Option.map_none
attribute [go_sem] Bool.not_false Bool.not_true List.length_map List.getElem?_map Int.toNat_natCast Int.natCast_nonneg Int.toNat_zero and_self and_true true_and
attribute [go_sem_proc ↓] reduceIte
attribute [go_sem_proc] Int.reduceLE reduceCtorEq Nat.reduceEqDiff Nat.reduceLeDiff Nat.reduceAdd Nat.reduceMul Nat.reduceSub Nat.reduceLT
theorem dU {b:Bool} {A C:Prop} (h1:b=true→A) (h:b=true:=by assumption) : @CB (.bool b) ⟨A,C⟩:=agt h h1
theorem dV {b:Bool} {A C:Prop} (h1:b=false→C) (h:b=false:=by assumption) : @CB (.bool b) ⟨A,C⟩:=agu h h1
theorem dW {b:Bool} {A C:Prop} (h1:b=true→A) (h2:b=false→C) : @CB (.bool b) ⟨A,C⟩:=⟨h1,h2⟩
theorem jD {a b:Prop} (x:a) (y:b):a∧b:=⟨x,y⟩
theorem eK {α:Type _} (a b:α):(some a=some b)=(a=b):=Option.some.injEq a b
theorem eO {α:Sort _} {p:α→Prop} {a:α} : (∃ x,a=x∧p x)↔p a:=exists_eq_left'
theorem FA {n m:Nat} (h:Nat.ble n m=true):n≤m:=Nat.le_of_ble_eq_true h
theorem aF {n m:Nat} {res:List (Nat×Option (Bool×Nat))} {d:D} {s':St} {e:Exit} {tm:Tm} {s:St} {Q:Exit→Tm→St→Prop} (hQ:rH n m res d s'=Q) (h : ∃ l,cZ res tm s=some l∧Wk ((da l).fg n m) d∧iu (s.cut n m).aj s'.aj∧(s.cut n m).az=s'.az) (he:e = .ret∨e = .normal:=by first|exact .inl rfl|exact .inr rfl):Q e tm s:=by cases he with|inl x=>cases x;exact akH hQ h|inr x=>cases x;exact akI hQ h
theorem iI {p:Prop} (h:p:=by repeat' (first|exact Ok.out|with_reducible refine jD ?_ ?_|(simp;done))):p:=h
theorem bQ {p:Prop} (h:p:=by repeat' (first|exact Ok.out|with_reducible refine jD ?_ ?_)):p:=h
theorem kC {p:Prop} (h:p:=by(try cases h);simp only[cZ,da,eK,eO,go_sem,hD,gA,gB,gC];repeat' (first|exact Ok.out|with_reducible refine jD ?_ ?_|(simp;done))):p:=h
theorem aP {p:Prop} (h:p:=by simp only[cZ,da,eK,eO,go_sem,hD,gA,gB,gC];repeat' (first|exact Ok.out|with_reducible refine jD ?_ ?_|(simp;done))):p:=h
theorem lX_ {p:Prop} (h:p:=by simp only[go_sem,hD,gA,gB,gC];repeat' (first|exact Ok.out|with_reducible refine jD ?_ ?_)):p:=h
theorem fz {P:Program} {B:ic} {nt:Nat} {a:AC} {Q:Exit→Tm→St→Prop} {tm bE:Tm} {s:St} {fA:List (List D)} (n m:Nat) (h:bo P B nt a Q bE ⟨fA,(s.cut n m).az⟩) (hn:B.s.aj.length≤n:=by rw[hB];exact FA rfl) (hm:B.s.az.length≤m:=by rw[hB];exact FA rfl) (ht:yT tm n m bE:=by exact lX_) (ho:iu (s.cut n m).aj fA:=by exact lX_):bo P B nt a Q tm s:=bo.re bE fA n m hn hm ht ho h
theorem eQ {P:Program} {B:ic} {nt:Nat} {a:AC} {Q:Exit→Tm→St→Prop} {tm bE:Tm} {s:St} {fA:List (List D)} (n m:Nat) (ht:yT tm n m bE) (ho:iu (s.cut n m).aj fA) (h:bo P B nt a Q bE ⟨fA,(s.cut n m).az⟩) (hn:B.s.aj.length≤n:=by rw[hB];exact FA rfl) (hm:B.s.az.length≤m:=by rw[hB];exact FA rfl):bo P B nt a Q tm s:=bo.re bE fA n m hn hm ht ho h
theorem bP:0<1∧0<1∧0<1∧0<1:=⟨Nat.zero_lt_one,Nat.zero_lt_one,Nat.zero_lt_one,Nat.zero_lt_one⟩
end Go.Abs
namespace Go.Abs
mutual
theorem Tj (n m:Nat) : ∀ d,D.ok 0 0 d=true→D.fg n m d=d
 | .junk,_=>by simp[D.fg]
 | .int k n,_=>by simp[D.fg]
 | .bool b,_=>by simp[D.fg]
 | .str l,_=>by simp[D.fg]
 | .eY,_=>by simp[D.fg]
 | .val v,_=>by simp[D.fg]
 | .fk z,_=>by simp[D.fg]
 | .gb T o,h=>by simp[D.ok]at h
 | .gW o,h=>by simp[D.ok]at h
 | .ix f cs,h=>by
  simp only[D.ok]at h
  simp only[D.fg,jk n m cs h]
 | .ptr o f,h=>by simp[D.ok]at h
 | .dN r f,h=>by
  simp only[D.ok]at h
  simp only[D.fg,jk n m r h]
 | .slice g z rows,h=>by
  simp only[D.ok,Bool.and_eq_true]at h
  simp only[D.fg,MP n m rows h.2]
  cases g with
  |tok t y=>simp[Tag.ok]at h
  |full=>rfl
  |shared=>rfl
 | .agg cs,h=>by
  simp only[D.ok]at h
  simp only[D.fg,jk n m cs h]
 | .tuple cs,h=>by
  simp only[D.ok]at h
  simp only[D.fg,jk n m cs h]
theorem jk (n m:Nat) : ∀ l,D.bF 0 0 l=true→D.iF n m l=l
 | [],_=>by simp[D.iF]
 |d::r,h=>by
  simp only[D.bF,Bool.and_eq_true]at h
  simp only[D.iF,Tj n m d h.1,jk n m r h.2]
theorem MP (n m:Nat) : ∀ l,D.jg 0 0 l=true→D.lR n m l=l
 | [],_=>by simp[D.lR]
 |d::r,h=>by
  simp only[D.jg,Bool.and_eq_true]at h
  simp only[D.lR,jk n m d h.1,MP n m r h.2]
end
theorem jh {α:Type} {f:α→List D} (h : ∀ x,D.bF 0 0 (f x)=true) (l:List α):D.jg 0 0 (l.map f)=true:=by
 simp[Hk,h]
theorem nI {α:Type} {f:α→List D} (h : ∀ x,D.bF 0 0 (f x)=true) (n m:Nat) (l:List α):D.lR n m (l.map f)=l.map f:=MP n m _ (jh h l)
theorem P9 (n m:Nat) : ∀ a b,D.lR n m (a++b)=D.lR n m a++D.lR n m b
 | [],b=>by simp[D.lR]
 |x::a,b=>by simp[D.lR,P9 n m a b]
abbrev aK:=List UInt8
structure rz where
 kind:Int
 text:aK
 n:Int
 pos:Int
deriving DecidableEq
structure Ex where
 op:Int
 n:Int
 name:aK
 kids:List Ex
structure Ar where
 ref:Bool
 name:aK
 x:Ex
structure Sm where
 id:Int
 kind:Int
 labels:List aK
 name:aK
 proc:aK
 x:Ex
 has:Bool
 args:List Ar
 aO:List Sm
 aN:List Sm
structure Pm where
 name:aK
 ref:Bool
structure Pc where
 name:aK
 params:List Pm
 vars:List aK
 body:List Sm
 fin:List aK
structure Pg where
 globals:List aK
 procs:List Pc
def rA:Ex:=⟨0,0,[],[]⟩
def ar0:Ar:=⟨false,[],rA⟩
def J9:Sm:=⟨0,0,[],[],[],rA,false,[],[],[]⟩
def pg0:Pg:=⟨[],[]⟩
def encStr (s:aK):List D:= [.str s]
def lb (t:rz):List D:= [.int .i64 t.kind, .str t.text, .int .i64 t.n, .int .i64 t.pos]
def sl (z:Nat) (rows:List (List D)):D:= .slice .shared z rows
mutual
def bW:Ex→List D
 |⟨op,n,name,kids⟩=> [.int .i64 op, .int .i64 n, .str name, .slice .shared 4 (xE kids)]
def xE:List Ex→List (List D)
 | []=> []
 |x::l=>bW x::xE l
end
theorem Ka : ∀ l,xE l=l.map bW
 | []=>by simp[xE]
 |x::l=>by simp[xE,Ka l]
theorem jl (x:Ex):bW x = [.int .i64 x.op, .int .i64 x.n, .str x.name, .slice .shared 4 (x.kids.map bW)]:=by
 cases x;simp[bW,Ka]
def fi (a:Ar):List D:= [.bool a.ref, .str a.name, .int .i64 a.x.op, .int .i64 a.x.n, .str a.x.name, .slice .shared 4 (a.x.kids.map bW)]
mutual
def a8:Sm→List D
 |⟨id,kind,labels,name,proc,x,has,args,aO,aN⟩=> [.int .i64 id, .int .i64 kind, .slice .shared 1 (labels.map encStr), .str name, .str proc,
  .int .i64 x.op, .int .i64 x.n, .str x.name, .slice .shared 4 (x.kids.map bW), .bool has, .slice .shared 6 (args.map fi), .slice .shared 13 (vO aO), .slice .shared 13 (vO aN)]
def vO:List Sm→List (List D)
 | []=> []
 |x::l=>a8 x::vO l
end
theorem Kb : ∀ l,vO l=l.map a8
 | []=>by simp[vO]
 |x::l=>by simp[vO,Kb l]
theorem cy (s:Sm):a8 s = [.int .i64 s.id, .int .i64 s.kind, .slice .shared 1 (s.labels.map encStr), .str s.name, .str s.proc,
 .int .i64 s.x.op, .int .i64 s.x.n, .str s.x.name, .slice .shared 4 (s.x.kids.map bW), .bool s.has, .slice .shared 6 (s.args.map fi), .slice .shared 13 (s.aO.map a8), .slice .shared 13 (s.aN.map a8)]:=by
 cases s;simp[a8,Kb]
def iV (p:Pm):List D:= [.str p.name, .bool p.ref]
def bJ (p:Pc):List D:= [.str p.name, .slice .shared 2 (p.params.map iV), .slice .shared 1 (p.vars.map encStr), .slice .shared 13 (p.body.map a8), .slice .shared 1 (p.fin.map encStr)]
def bK (p:Pg):List D:= [.slice .shared 1 (p.globals.map encStr), .slice .shared 5 (p.procs.map bJ)]
theorem agz (x:rz):(lb x).length=4:=nd rfl
theorem ad5 (x:rz):List.take 4 (lb x)=lb x:=nd rfl
theorem ad6 (x:rz):List.drop 4 (lb x) = []:=nd rfl
theorem V2 (x:rz):(lb x)[0]? = some (.int .i64 x.kind):=nd rfl
theorem V3 (x:rz):(lb x)[1]? = some (.str x.text):=nd rfl
theorem V4 (x:rz):(lb x)[2]? = some (.int .i64 x.n):=nd rfl
theorem V5 (x:rz):(lb x)[3]? = some (.int .i64 x.pos):=nd rfl
theorem akP (Hq:Int) (abK:aK) (n_:Int) (agB:Int):lb ⟨Hq,abK,n_,agB⟩ = [.int .i64 Hq, .str abK, .int .i64 n_, .int .i64 agB]:=by simp only[lb]
theorem abL (x:Ex):(bW x).length=4:=by simp only[jl];rfl
theorem agC (x:Ex):List.take 4 (bW x)=bW x:=by simp only[jl];rfl
theorem agD (x:Ex):List.drop 4 (bW x) = []:=by simp only[jl];rfl
theorem Y4 (x:Ex):(bW x)[0]? = some (.int .i64 x.op):=by simp only[jl];rfl
theorem Y5 (x:Ex):(bW x)[1]? = some (.int .i64 x.n):=by simp only[jl];rfl
theorem Y6 (x:Ex):(bW x)[2]? = some (.str x.name):=by simp only[jl];rfl
theorem Y7 (x:Ex):(bW x)[3]? = some (.slice .shared 4 (x.kids.map bW)):=by simp only[jl];rfl
theorem apr (op_:Int) (n_:Int) (qp:aK) (abM:List Ex):bW ⟨op_,n_,qp,abM⟩ = [.int .i64 op_, .int .i64 n_, .str qp, .slice .shared 4 (abM.map bW)]:=by simp only[jl]
theorem akQ (x:Ar):(fi x).length=6:=nd rfl
theorem agE (x:Ar):List.take 6 (fi x)=fi x:=nd rfl
theorem agF (x:Ar):List.drop 6 (fi x) = []:=nd rfl
theorem Y8 (x:Ar):(fi x)[0]? = some (.bool x.ref):=nd rfl
theorem Y9 (x:Ar):(fi x)[1]? = some (.str x.name):=nd rfl
theorem Za (x:Ar):(fi x)[2]? = some (.int .i64 x.x.op):=nd rfl
theorem Zb (x:Ar):(fi x)[3]? = some (.int .i64 x.x.n):=nd rfl
theorem Zc (x:Ar):(fi x)[4]? = some (.str x.x.name):=nd rfl
theorem Zd (x:Ar):(fi x)[5]? = some (.slice .shared 4 (x.x.kids.map bW)):=nd rfl
theorem Ze (x:Ar):List.take 4 (List.drop 2 (fi x))=bW x.x:=by simp only[fi,jl];rfl
theorem aps (MQ:Bool) (qp:aK) (x_:Ex):fi ⟨MQ,qp,x_⟩ = [.bool MQ, .str qp, .int .i64 x_.op, .int .i64 x_.n, .str x_.name, .slice .shared 4 (x_.kids.map bW)]:=by simp only[fi]
theorem LD (x:Sm):(a8 x).length=13:=by simp only[cy];rfl
theorem agG (x:Sm):List.take 13 (a8 x)=a8 x:=by simp only[cy];rfl
theorem agH (x:Sm):List.drop 13 (a8 x) = []:=by simp only[cy];rfl
theorem Zf (x:Sm):(a8 x)[0]? = some (.int .i64 x.id):=by simp only[cy];rfl
theorem Zg (x:Sm):(a8 x)[1]? = some (.int .i64 x.kind):=by simp only[cy];rfl
theorem Zh (x:Sm):(a8 x)[2]? = some (.slice .shared 1 (x.labels.map encStr)):=by simp only[cy];rfl
theorem Zi (x:Sm):(a8 x)[3]? = some (.str x.name):=by simp only[cy];rfl
theorem Zj (x:Sm):(a8 x)[4]? = some (.str x.proc):=by simp only[cy];rfl
theorem Zk (x:Sm):(a8 x)[5]? = some (.int .i64 x.x.op):=by simp only[cy];rfl
theorem Zl (x:Sm):(a8 x)[6]? = some (.int .i64 x.x.n):=by simp only[cy];rfl
theorem Zm (x:Sm):(a8 x)[7]? = some (.str x.x.name):=by simp only[cy];rfl
theorem Zn (x:Sm):(a8 x)[8]? = some (.slice .shared 4 (x.x.kids.map bW)):=by simp only[cy];rfl
theorem Zo (x:Sm):(a8 x)[9]? = some (.bool x.has):=by simp only[cy];rfl
theorem V6 (x:Sm):(a8 x)[10]? = some (.slice .shared 6 (x.args.map fi)):=by simp only[cy];rfl
theorem V7 (x:Sm):(a8 x)[11]? = some (.slice .shared 13 (x.aO.map a8)):=by simp only[cy];rfl
theorem V8 (x:Sm):(a8 x)[12]? = some (.slice .shared 13 (x.aN.map a8)):=by simp only[cy];rfl
theorem Zp (x:Sm):List.take 4 (List.drop 5 (a8 x))=bW x.x:=by simp only[cy,jl];rfl
theorem apt (id_:Int) (Hq:Int) (Qa:List aK) (qp:aK) (abN:aK) (x_:Ex) (agI:Bool) (abO:List Ar) (agJ:List Sm) (agK:List Sm):a8 ⟨id_,Hq,Qa,qp,abN,x_,agI,abO,agJ,agK⟩ = [.int .i64 id_, .int .i64 Hq, .slice .shared 1 (Qa.map encStr), .str qp, .str abN, .int .i64 x_.op, .int .i64 x_.n, .str x_.name, .slice .shared 4 (x_.kids.map bW), .bool agI, .slice .shared 6 (abO.map fi), .slice .shared 13 (agJ.map a8), .slice .shared 13 (agK.map a8)]:=by simp only[cy]
theorem akR (x:Pm):(iV x).length=2:=nd rfl
theorem agL (x:Pm):List.take 2 (iV x)=iV x:=nd rfl
theorem agM (x:Pm):List.drop 2 (iV x) = []:=nd rfl
theorem Zq (x:Pm):(iV x)[0]? = some (.str x.name):=nd rfl
theorem Zr (x:Pm):(iV x)[1]? = some (.bool x.ref):=nd rfl
theorem apu (qp:aK) (MQ:Bool):iV ⟨qp,MQ⟩ = [.str qp, .bool MQ]:=by simp only[iV]
theorem akS (x:Pc):(bJ x).length=5:=nd rfl
theorem agN (x:Pc):List.take 5 (bJ x)=bJ x:=nd rfl
theorem agO (x:Pc):List.drop 5 (bJ x) = []:=nd rfl
theorem Zs (x:Pc):(bJ x)[0]? = some (.str x.name):=nd rfl
theorem Zt (x:Pc):(bJ x)[1]? = some (.slice .shared 2 (x.params.map iV)):=nd rfl
theorem Zu (x:Pc):(bJ x)[2]? = some (.slice .shared 1 (x.vars.map encStr)):=nd rfl
theorem Zv (x:Pc):(bJ x)[3]? = some (.slice .shared 13 (x.body.map a8)):=nd rfl
theorem Zw (x:Pc):(bJ x)[4]? = some (.slice .shared 1 (x.fin.map encStr)):=nd rfl
theorem apv (qp:aK) (Qb:List Pm) (abP:List aK) (abQ:List Sm) (agP:List aK):bJ ⟨qp,Qb,abP,abQ,agP⟩ = [.str qp, .slice .shared 2 (Qb.map iV), .slice .shared 1 (abP.map encStr), .slice .shared 13 (abQ.map a8), .slice .shared 1 (agP.map encStr)]:=by simp only[bJ]
theorem akT (x:Pg):(bK x).length=2:=nd rfl
theorem agQ (x:Pg):List.take 2 (bK x)=bK x:=nd rfl
theorem agR (x:Pg):List.drop 2 (bK x) = []:=nd rfl
theorem Zx (x:Pg):(bK x)[0]? = some (.slice .shared 1 (x.globals.map encStr)):=nd rfl
theorem Zy (x:Pg):(bK x)[1]? = some (.slice .shared 5 (x.procs.map bJ)):=nd rfl
theorem apw (MR:List aK) (V9:List Pc):bK ⟨MR,V9⟩ = [.slice .shared 1 (MR.map encStr), .slice .shared 5 (V9.map bJ)]:=by simp only[bK]
attribute [go_sem] agz ad5 ad6 V2 V3 V4 V5 akP abL agC agD Y4 Y5 Y6 Y7 apr akQ agE agF Y8 Y9 Za Zb Zc Zd Ze aps LD agG agH Zf Zg Zh Zi Zj Zk Zl Zm Zn Zo V6 V7 V8 Zp apt akR agL agM Zq Zr apu akS agN agO Zs Zt Zu Zv Zw apv akT agQ agR Zx Zy apw
theorem Hr (s:aK):D.bF 0 0 (encStr s)=true:=rfl
theorem abR (t:rz):D.bF 0 0 (lb t)=true:=rfl
mutual
theorem lH : ∀ x,D.bF 0 0 (bW x)=true
 |⟨op,n,name,kids⟩=>by simp[bW,D.bF,D.ok,Tag.ok,abS kids]
theorem abS : ∀ l,D.jg 0 0 (xE l)=true
 | []=>rfl
 |x::l=>by simp[xE,D.jg,lH x,abS l]
end
theorem Tk (a:Ar):D.bF 0 0 (fi a)=true:=by simp[fi,D.bF,D.ok,Tag.ok,jh lH]
mutual
theorem pJ : ∀ x,D.bF 0 0 (a8 x)=true
 |⟨id,kind,labels,name,proc,x,has,args,aO,aN⟩=>by simp[a8,D.bF,D.ok,Tag.ok,Tl aO,Tl aN,jh Hr,jh lH,jh Tk]
theorem Tl : ∀ l,D.jg 0 0 (vO l)=true
 | []=>rfl
 |x::l=>by simp[vO,D.jg,pJ x,Tl l]
end
theorem Tn (p:Pm):D.bF 0 0 (iV p)=true:=rfl
theorem zQ (p:Pc):D.bF 0 0 (bJ p)=true:=by simp[bJ,D.bF,D.ok,Tag.ok,jh Tn,jh Hr,jh pJ]
theorem iP (p:Pg):D.bF 0 0 (bK p)=true:=by simp[bK,D.bF,D.ok,Tag.ok,jh Hr,jh zQ]
theorem agS (n m:Nat) (x:rz):D.iF n m (lb x)=lb x:=jk n m _ (abR x)
theorem akU (n m:Nat) (x:Ex):D.iF n m (bW x)=bW x:=jk n m _ (lH x)
theorem akV (n m:Nat) (x:Ar):D.iF n m (fi x)=fi x:=jk n m _ (Tk x)
theorem akW (n m:Nat) (x:Sm):D.iF n m (a8 x)=a8 x:=jk n m _ (pJ x)
theorem akX (n m:Nat) (x:Pm):D.iF n m (iV x)=iV x:=jk n m _ (Tn x)
theorem akY (n m:Nat) (x:Pc):D.iF n m (bJ x)=bJ x:=jk n m _ (zQ x)
theorem akZ (n m:Nat) (x:Pg):D.iF n m (bK x)=bK x:=jk n m _ (iP x)
attribute [go_sem] agS akU akV akW akX akY akZ
theorem fK (l:List aK):D.jg 0 0 (l.map encStr)=true:=jh Hr l
theorem abT (l:List Ex):D.jg 0 0 (l.map bW)=true:=jh lH l
theorem LF (l:List Ar):D.jg 0 0 (l.map fi)=true:=jh Tk l
theorem kY (l:List Sm):D.jg 0 0 (l.map a8)=true:=jh pJ l
theorem ak0 (l:List Pm):D.jg 0 0 (l.map iV)=true:=jh Tn l
theorem yU (l:List Pc):D.jg 0 0 (l.map bJ)=true:=jh zQ l
theorem MS (n m:Nat) (l:List aK):D.lR n m (l.map encStr)=l.map encStr:=nI Hr n m l
theorem agT (n m:Nat) (l:List rz):D.lR n m (l.map lb)=l.map lb:=nI abR n m l
theorem ak1 (n m:Nat) (l:List Ex):D.lR n m (l.map bW)=l.map bW:=nI lH n m l
theorem ak2 (n m:Nat) (l:List Ar):D.lR n m (l.map fi)=l.map fi:=nI Tk n m l
theorem ak3 (n m:Nat) (l:List Sm):D.lR n m (l.map a8)=l.map a8:=nI pJ n m l
theorem ak4 (n m:Nat) (l:List Pm):D.lR n m (l.map iV)=l.map iV:=nI Tn n m l
theorem abU (n m:Nat) (l:List Pc):D.lR n m (l.map bJ)=l.map bJ:=nI zQ n m l
theorem agU (x:Ex) (r:List D):bW x++r = .int .i64 x.op:: .int .i64 x.n:: .str x.name:: .slice .shared 4 (x.kids.map bW)::r:=by rw[jl];rfl
theorem ad7 (d:D) (x:Ex):d::bW x = [d, .int .i64 x.op, .int .i64 x.n, .str x.name, .slice .shared 4 (x.kids.map bW)]:=by rw[jl]
attribute [go_sem] agU ad7
theorem ak5:((0:Nat):Int)=0:=nd rfl
theorem ak6:((1:Nat):Int)=1:=nd rfl
theorem ak7:((2:Nat):Int)=2:=nd rfl
attribute [go_sem] ak5 ak6 ak7 P9 List.length_append List.map_append encStr rA ar0 J9 pg0 MS agT ak1 ak2 ak3 ak4 abU
theorem mx (a b:Nat):(if(b:Int) > (a:Int)then(b:Int)else(a:Int))=((max a b:Nat):Int):=by split<;>omega
theorem eB {x:Int} (h1 : -9223372036854775808≤x) (h2:x<9223372036854775808):IntKind.wrap .i64 x=x:=by
 rw[IntKind.wrap_i64];omega
@[go_sem] theorem aM {n:Nat} (h:n<4611686018427387904):IntKind.wrap .i64 ((n:Int)+1)=((n+1:Nat):Int):=by
 rw[eB]<;>omega
def inc (n:Nat):Option Nat:=if n<4611686018427387904 then some (n+1)else none
def apx (n:Int):Option Int:=if -4611686018427387904<n∧n<4611686018427387904 then some (n+1)else none
@[go_sem] theorem anW {n:Nat} (h:n+1<4611686018427387904):IntKind.wrap .i64 ((n:Int)+1)=((n+1:Nat):Int):=by
 rw[eB]<;>omega
@[go_sem] theorem anX {n:Nat} (h:n<4611686018427387904):IntKind.wrap .i64 ((n:Int)+2)=((n+2:Nat):Int):=by
 rw[eB]<;>omega
def agV {α:Type} (l:List α) (i:Nat):Option α:=if i<4611686018427387904 then l[i]? else none
def push {α:Type} (k:Nat) (l:List α) (x:α):Option (List α):=if(l.length+1)*k≤bp then some (l++ [x])else none
end Go.Abs
namespace Go.Abs
def AU (os ts:List Nat) (tm:Tm):Tm→Prop
 | []=>True
 |(k,d)::r=>tm.get k=d.cO os ts∧d.ok os.length ts.length=true∧AU os ts tm r
theorem AU.get {os ts:List Nat} {tm:Tm} : ∀ {bE:Tm},AU os ts tm bE→∀ k,bE.get k = .junk∨(tm.get k=(bE.get k).cO os ts∧(bE.get k).ok os.length ts.length=true)
 | [],_,k=> .inl rfl
 |(q,d)::r,⟨h1,h2,h3⟩,k=>by
  simp only[Tm.get]
  split
  ·rename_i e;subst e;exact .inr ⟨h1,h2⟩
  ·exact h3.get k
section
variable {P:Program} {B:ic} {nt:Nat}
theorem Holds.AV {tm:Tm} {s:St} {act:Act} {w:World} (os:List Nat) (fA:List (List D)) (bE:Tm) (ux:os.Nodup) (jB : ∀ o∈os,o<s.aj.length) (hn:B.s.aj.length≤os.length)
 (hold : ∀ i,i<B.s.aj.length→os[i]? = some i) (dw : ∀ (i o:Nat),os[i]? = some o→B.s.aj.length≤i→B.s.aj.length≤o) (ho:fA.length=os.length)
 (qE : ∀ (i o:Nat) (ds:List D),os[i]? = some o→fA[i]? = some ds→s.aj[o]? = some (D.fc os (List.range s.az.length) ds)∧D.bF os.length s.az.length ds=true)
 (Wa:AU os (List.range s.az.length) tm bE) (h:Holds B nt tm s act w):Holds B nt bE ⟨fA,s.az⟩ act w:=by
 obtain⟨M,e,r,hr,h1,h2⟩:=h
 have wI:(List.range s.az.length).length=s.az.length:=List.length_range
 have rg : ∀ (i t:Nat),(List.range s.az.length)[i]? = some t→i=t:=fun i t h=>by
  rw[List.getElem?_eq_some_iff]at h
  obtain⟨h3,h4⟩:=h
  simpa using h4
 have r0:Rel (gG M os (List.range s.az.length)) ⟨fA,s.az⟩ w:=r.sub ux List.nodup_range jB ho (fun i o ds e1 e2=>by rw[wI];exact qE i o ds e1 e2) wI.symm (fun i t h=>by rw[rg i t h])
 have loc : ∀ (i:Nat) o,os[i]? = some o→(gG M os (List.range s.az.length)).loc i=M.loc o:=fun i o h=>by simp only[gG,uK h]
 have be : ∀ t,t<s.az.length→(gG M os (List.range s.az.length)).be t=M.be t:=fun t h=>by
  have:(List.range s.az.length)[t]? = some t:=List.getElem?_range h
  simp only[gG,uK this]
 refine⟨gG M os (List.range s.az.length),⟨⟨e.le.G,by rw[ho];exact hn,fun o h=>?_,e.le.t,fun t n' h e'=>?_⟩,e.kept,fun o h3 h4=>?_,fun t b c z hl hb=>?_,e.sq,e.size,e.os,e.tape,e.output⟩,r0,fun k=>?_,h1,h2⟩
 ·rw[loc o o (hold o h)];exact e.le.loc o h
 ·obtain⟨n,g1,g2,g3⟩:=e.le.tk t n' h e'
  exact⟨n,g1,g2,fun eq=>by rw[be t (Nat.lt_of_lt_of_le h e.le.t)];exact g3 eq⟩
 ·simp only at h4
  rw[ho]at h4
  obtain⟨q,hq⟩ : ∃ q,os[o]? = some q:=⟨_,List.getElem?_eq_getElem h4⟩
  have oE:(gG M os (List.range s.az.length)).mu o=M.mu q:=congrArg Prod.fst (loc o q hq)
  rw[oE]at h3 ⊢
  refine e.sn q ?_ (jB q (List.mem_of_getElem? hq))
  by_cases h5:B.s.aj.length≤o
  ·exact .inl (dw o q hq h5)
  ·have:=hold o (by omega)
   rw[hq]at this
   cases this
   rcases h3 with h3|h3
   ·exact(h5 h3).elim
   ·exact .inr h3
 ·obtain⟨n,rr⟩:=hl
  have hD:=(List.getElem?_eq_some_iff.1 rr).1
  rw[be t hD]at hb
  exact e.rD t b c z ⟨n,rr⟩ hb
 ·rcases Wa.get k with h3 | ⟨h3,h4⟩
  ·rw[h3];exact .junk _
  ·exact RD.BD (M:=M) (M0:=gG M os (List.range s.az.length)) (s:=s) (s0:=⟨fA,s.az⟩) rfl loc ho (fun i t h=>by
    have:=rg i t h;subst this;exact be i (by have:=(List.getElem?_eq_some_iff.1 h).1;rwa [wI]at this)) (fun i t h=>by rw[rg i t h]) wI.symm (h3 ▸ hr k) _ rfl h4
theorem bo.AV {a:AC} {Q:Exit→Tm→St→Prop} {tm:Tm} {s:St} (os:List Nat) (fA:List (List D)) (bE:Tm) (ux:os.Nodup) (jB : ∀ o∈os,o<s.aj.length) (hn:B.s.aj.length≤os.length)
 (hold : ∀ i,i<B.s.aj.length→os[i]? = some i) (dw : ∀ (i o:Nat),os[i]? = some o→B.s.aj.length≤i→B.s.aj.length≤o) (ho:fA.length=os.length)
 (qE : ∀ (i o:Nat) (ds:List D),os[i]? = some o→fA[i]? = some ds→s.aj[o]? = some (D.fc os (List.range s.az.length) ds)∧D.bF os.length s.az.length ds=true)
 (Wa:AU os (List.range s.az.length) tm bE) (h:bo P B nt a Q bE ⟨fA,s.az⟩):bo P B nt a Q tm s:=
 fun c hc act w hh=>h c hc act w (hh.AV os fA bE ux jB hn hold dw ho qE Wa)
mutual
def D.gD (o g:Nat) (rows:List (List D)):D→D
 | .dH z o' g' len=>if o'=o∧g'=g∧len=rows.length then .slice .shared z rows else .dH z o' g' len
 | .dN row off=> .dN (D.kD o g rows row) off
 | .slice t z rs=> .slice t z (D.tu o g rows rs)
 | .agg cs=> .agg (D.kD o g rows cs)
 | .tuple ds=> .tuple (D.kD o g rows ds)
 | .ix f cs=> .ix f (D.kD o g rows cs)
 | .ptr o off=> .ptr o off
 | .junk=> .junk
 | .int k x=> .int k x
 | .bool b=> .bool b
 | .str l=> .str l
 | .eY=> .eY
 | .val v=> .val v
 | .gb T o=> .gb T o
 | .gW o=> .gW o
 | .gd o g off=> .gd o g off
 | .fk z=> .fk z
def D.kD (o g:Nat) (rows:List (List D)):List D→List D
 | []=> []
 |d::r=>D.gD o g rows d::D.kD o g rows r
def D.tu (o g:Nat) (rows:List (List D)):List (List D)→List (List D)
 | []=> []
 |d::r=>D.kD o g rows d::D.tu o g rows r
end
theorem nJ (o g:Nat) (rows:List (List D)) : ∀ l,D.kD o g rows l=l.map (D.gD o g rows)
 | []=>by simp[D.kD]
 |d::r=>by simp[D.kD,nJ o g rows r]
theorem Qc (o g:Nat) (rows:List (List D)) : ∀ l,D.tu o g rows l=l.map (D.kD o g rows)
 | []=>by simp[D.tu]
 |d::r=>by simp[D.tu,Qc o g rows r]
theorem RD.gD {M:Map} {s:St} {o g:Nat} {rows:List (List D)} {b cap z:Nat} {A:Nat→Option (Nat×Nat)} (hm:M.ob o = .arr z A) (ha:A g=some (b,cap))
 (hs : ∀ row∈rows,row.length=z) (h1 : ∀ (i:Nat) (row:List D) (j:Nat) (d:D),rows[i]? = some row→row[j]? = some d→∃ u,M.G b (0+(i*z+j))=some u)
 (h2 : ∀ (i:Nat) (row:List D) (j:Nat) (d:D) (u:Value),rows[i]? = some row→row[j]? = some d→M.G b (0+(i*z+j))=some u→RD M s d u)
 {d:D} {v:Value} (h:RD M s d v):RD M s (d.gD o g rows) v:=by
 induction h with
 | dH z' o' g' len b' sv A' ho xm AN hl=>
  simp only[D.gD]
  split
  ·rename_i hc
   obtain⟨rfl,rfl,rfl⟩:=hc
   rw[hm]at xm
   cases xm
   rw[ha]at AN
   cases AN
   exact .slice .shared z rows b 0 cap hl hs h1 h2 trivial
  ·exact .dH z' o' g' len b' sv A' ho xm AN hl
 |gd z' o' g' off b' sv A' ho xm AN=>simp only[D.gD];exact .gd z' o' g' off b' sv A' ho xm AN
 |fk z a=>simp only[D.gD];exact .fk z a
 |junk v=>simp only[D.gD];exact .junk v
 |int k x=>simp only[D.gD];exact .int k x
 |bool b=>simp only[D.gD];exact .bool b
 |str l=>simp only[D.gD];exact .str l
 |eY=>simp only[D.gD];exact .eY
 |val v hv=>simp only[D.gD];exact .val v hv
 |gb T o v h ht hv=>simp only[D.gD];exact .gb T o v h ht hv
 |gW o h hm=>simp only[D.gD];exact .gW o h hm
 |ptr o off h hm=>simp only[D.gD];exact .ptr o off h hm
 |ix f ds vs hl _ ih=>
  simp only[D.gD,nJ]
  refine .ix f _ vs (by simpa using hl) (fun i d v e1 e2=>?_)
  simp only[List.getElem?_map,Option.map_eq_some_iff]at e1
  obtain⟨d',e1,rfl⟩:=e1
  exact ih i d' v e1 e2
 | dN row off b k h1 h2 ih=>
  simp only[D.gD,nJ]
  refine .dN _ off b k (fun i d e=>?_) (fun i d u e eu=>?_)
  ·simp only [List.getElem?_map,Option.map_eq_some_iff]at e
   obtain⟨d',e,rfl⟩:=e
   exact h1 i d' e
  ·simp only [List.getElem?_map,Option.map_eq_some_iff]at e
   obtain⟨d',e,rfl⟩:=e
   exact ih i d' u e eu
 |jH t z cap hc ht=>simp only[D.gD,D.tu];exact .jH _ z cap hc ht
 |mX z a cap=>simp only[D.gD,D.tu];exact .mX z a cap
 | slice t z rs b k cap hl hs h1 h2 ht ih=>
  simp only[D.gD,Qc]
  have hlen:(rs.map (D.kD o g rows)).length=rs.length:=by simp
  have key:=RD.slice (M:=M) (s:=s) t z (rs.map (D.kD o g rows)) b k cap (by rw[hlen];exact hl) (fun row hr=>by
   obtain⟨lD,h',rfl⟩:=List.mem_map.1 hr
   rw[nJ,List.length_map];exact hs lD h')
   (fun i row j d e1 e2=>by
    simp only[List.getElem?_map,Option.map_eq_some_iff]at e1
    obtain⟨lD,e1,rfl⟩:=e1
    rw[nJ]at e2
    simp only[List.getElem?_map,Option.map_eq_some_iff]at e2
    obtain⟨d',e2,rfl⟩:=e2
    exact h1 i lD j d' e1 e2)
   (fun i row j d u e1 e2 eu=>by
    simp only[List.getElem?_map,Option.map_eq_some_iff]at e1
    obtain⟨lD,e1,rfl⟩:=e1
    rw[nJ]at e2
    simp only[List.getElem?_map,Option.map_eq_some_iff]at e2
    obtain⟨d',e2,rfl⟩:=e2
    exact ih i lD j d' u e1 e2 eu)
   (by rw[hlen];exact ht)
  rw[hlen]at key
  exact key
 |agg cells vs hl h1 _ ih=>
  simp only[D.gD,nJ]
  refine .agg _ vs (by simpa using hl) h1 (fun i d v e1 e2=>?_)
  simp only[List.getElem?_map,Option.map_eq_some_iff]at e1
  obtain⟨d',e1,rfl⟩:=e1
  exact ih i d' v e1 e2
 |tuple ds vs hl _ ih=>
  simp only[D.gD,nJ]
  refine .tuple _ vs (by simpa using hl) (fun i d v e1 e2=>?_)
  simp only[List.getElem?_map,Option.map_eq_some_iff]at e1
  obtain⟨d',e1,rfl⟩:=e1
  exact ih i d' v e1 e2
def CI (o g:Nat) (rows:List (List D)) (n m:Nat) (ds:List D):List D:=D.iF n m (D.kD o g rows ds)
def Hs (o g:Nat) (rows:List (List D)) (m:Nat) (tm:Tm):Tm→Prop
 | []=>True
 |(k,d)::r=>Wk (((tm.get k).gD o g rows).fg o m) d∧Hs o g rows m tm r
theorem Hs.get {o g m:Nat} {rows:List (List D)} {tm:Tm} : ∀ {bE:Tm},Hs o g rows m tm bE→∀ t,Wk (((tm.get t).gD o g rows).fg o m) (bE.get t)
 | [],_,t=>Wk.junk _
 |(k,d)::r,h,t=>by
  simp only[Tm.get]
  split
  ·rename_i hk;subst hk;exact h.1
  ·exact Hs.get h.2 t
theorem Holds.To {tm:Tm} {s:St} {act:Act} {w:World} (o g z:Nat) (rows:List (List D)) (bE:Tm) (fA:List (List D)) (hn:B.s.aj.length≤o) (eI:s.aj[o]? = some (.int .i64 (g:Int)::rows.flatten)) (hz : ∃ k l,tm.get k = .dH z o g l∨∃ (q:Nat) (ds:List D),s.aj[q]? = some ds∧ds[k]? = some (.dH z o g l))
 (hs : ∀ row∈rows,row.length=z) (ht:Hs o g rows s.az.length tm bE) (qE:iu ((s.aj.take o).map (CI o g rows o s.az.length)) fA)
 (h:Holds B nt tm s act w):Holds B nt bE ⟨fA,s.az⟩ act w:=by
 obtain⟨M,e,r,hr,h1,h2⟩:=h
 have xF:o<s.aj.length:=(List.getElem?_eq_some_iff.1 eI).1
 obtain⟨A,hm⟩ : ∃ A,M.ob o = .arr z A:=by
  obtain⟨k,l,hz|⟨q,ds,hq,hz⟩⟩:=hz
  ·have:=hr k
   rw[hz]at this
   obtain⟨_,_,A,_,_,hm,_⟩:=this.uF
   exact⟨A,hm⟩
  ·obtain⟨vs,T,_,dL,_,jI⟩:=r.obj q ds hq
   have hD:=(List.getElem?_eq_some_iff.1 hz).1
   obtain⟨_,_,A,_,_,hm,_⟩:=(jI k _ _ hz (Array.getElem?_eq_getElem (by omega))).uF
   exact⟨A,hm⟩
 have ha:mr s o g=some rows.flatten:=by unfold mr;rw[eI];simp
 obtain⟨us,T,cap,hh,ur,Dt,dL,hle,iM,jI⟩:=r.I4 hm ha
 obtain⟨ib,_⟩:=xy hs
 have Wb : ∀ q,M.G (M.mu o) q=none:=r.km o xF
 have vl:B.w.heap.size≤M.mu o:=e.sn o (.inl hn) xF
 let M':Map:= {M with G:=fun b q=>if b=M.mu o then us[q]? else M.G b q}
 have mY : ∀ b,b≠M.mu o→∀ q,M'.G b q=M.G b q:=fun b hb q=>if_neg hb
 have le:Le M s M' s:=⟨fun b q v hq=>by
  by_cases hb:b=M.mu o
  ·subst hb;rw[Wb]at hq;cases hq
  ·rw[mY b hb];exact hq,Nat.le_refl _,fun _ _=> .refl _,Nat.le_refl _,fun t n' _ e=>⟨n',e,Nat.le_refl _,fun _=>rfl⟩⟩
 -- the rows are among the cells
 have jA : ∀ (i:Nat) (row:List D) (j:Nat) (d:D),rows[i]? = some row→row[j]? = some d→rows.flatten[i*z+j]? = some d:=by
  have gen : ∀ (rows:List (List D)),(∀ row∈rows,row.length=z)→∀ (i:Nat) (row:List D) (j:Nat) (d:D),rows[i]? = some row→row[j]? = some d→rows.flatten[i*z+j]? = some d:=by
   intro rows
   induction rows with
   |nil=>intro _ i row j d e1;simp at e1
   | cons a rows ih=>
    intro hs i row j d e1 e2
    have sQ:=hs a (List.mem_cons_self ..)
    rw[List.flatten_cons]
    cases i with
    |zero=>
     simp at e1;subst e1
     rw[Nat.zero_mul,Nat.zero_add,List.getElem?_append_left (List.getElem?_eq_some_iff.1 e2).1];exact e2
    |succ i=>
     rw[List.getElem?_append_right (by rw[Nat.add_mul];omega),sQ,show(i+1)*z+j - z=i*z+j by rw[Nat.add_mul];omega]
     exact ih (fun q hq=>hs q (List.mem_cons_of_mem _ hq)) i row j d (by simpa using e1) e2
  exact gen rows hs
 have g1 : ∀ (i:Nat) (row:List D) (j:Nat) (d:D),rows[i]? = some row→row[j]? = some d→∃ u,M'.G (M.mu o) (0+(i*z+j))=some u:=fun i row j d e1 e2=>by
  have hD:=(List.getElem?_eq_some_iff.1 (jA i row j d e1 e2)).1
  refine⟨us[i*z+j]'(by omega), ?_⟩
  show(if M.mu o=M.mu o then us[0+(i*z+j)]? else _)=_
  rw[if_pos rfl,Nat.zero_add]
  exact Array.getElem?_eq_getElem _
 have g2 : ∀ (i:Nat) (row:List D) (j:Nat) (d:D) (u:Value),rows[i]? = some row→row[j]? = some d→M'.G (M.mu o) (0+(i*z+j))=some u→RD M' s d u:=fun i row j d u e1 e2 eu=>by
  have CJ:(if M.mu o=M.mu o then us[0+(i*z+j)]? else M.G (M.mu o) (0+(i*z+j)))=some u:=eu
  rw[if_pos rfl,Nat.zero_add]at CJ
  exact(jI _ d u (jA i row j d e1 e2) CJ).mono le
 have conv : ∀ {d:D} {v:Value},RD M s d v→RD M' (s.cut o s.az.length) ((d.gD o g rows).fg o s.az.length) v:=fun hd=>((hd.mono le).gD (M:=M') hm ur hs g1 g2).fg o s.az.length
 have rc:=r.cut o s.az.length
 have ec:=e.cut hn e.le.t
 have hD : ∀ q,q<(s.cut o s.az.length).aj.length→q<s.aj.length∧q≠o:=fun q h=>by rw[lV]at h;omega
 have Qd:(s.cut o s.az.length).az=s.az:=by simp[St.cut]
 have hlen:fA.length=min o s.aj.length:=by rw[← qE.len];simp
 have Wc:Le M (s.cut o s.az.length) M' (s.cut o s.az.length):=⟨le.G,Nat.le_refl _,fun _ _=> .refl _,Nat.le_refl _,fun t n' _ e=>⟨n',e,Nat.le_refl _,fun _=>rfl⟩⟩
 have les:Le M' (s.cut o s.az.length) M' ⟨fA,s.az⟩:=⟨fun _ _ _ h=>h,by rw[lV];simp only;omega,fun _ _=> .refl _,by simp[St.cut],fun t n' _ e=>⟨n',by rw[Qd];exact e,Nat.le_refl _,fun _=>rfl⟩⟩
 refine⟨M',⟨(ec.le.trans Wc).trans les,ec.kept,fun q h3 h4=>?_,fun t b c z hl hb=>?_,fun b q fu=>?_,ec.size,ec.os,ec.tape,ec.output⟩,⟨fun b q v hq=>?_,fun q ds hq=>?_,fun q hq su=>?_,fun q q' hq lq=>?_,fun t n' CD=>?_,fun t b c z q hl hb hq=>?_,fun t t' b c z c' z' hl mZ=>?_⟩,fun k=>?_,h1,h2⟩
 ·exact ec.sn q h3 (by rw[lV];simp only[hlen]at h4;exact h4)
 ·exact ec.rD t b c z (by obtain⟨n,hn⟩:=hl;exact⟨n,by rw[Qd];exact hn⟩) hb
 ·by_cases hb:b=M.mu o
  ·subst hb;exact .inl vl
  ·rw[mY b hb]at fu;exact ec.sq b q fu
 ·have lq:(if b=M.mu o then us[q]? else M.G b q)=some v:=hq
  by_cases hb:b=M.mu o
  ·rw [if_pos hb]at lq
   rw[hb,jy hh]
   exact⟨lq,iM v (Array.mem_of_getElem? lq)⟩
  ·rw [if_neg hb]at lq
   exact r.comm b q v lq
 ·have Ft:=(List.getElem?_eq_some_iff.1 hq).1
  have vH:q<o:=by simp only[hlen]at Ft;omega
  have hqs:q<s.aj.length:=by omega
  obtain⟨Mt,agX⟩ : ∃ Mt,s.aj[q]? = some Mt:=⟨_,List.getElem?_eq_getElem hqs⟩
  obtain⟨vs,T',h3,h4,h5,h6⟩:=r.obj q Mt agX
  obtain⟨r1,vP,hw⟩:=qE.get hq
  have apy:r1=CI o g rows o s.az.length Mt:=by
   rw[List.getElem?_map,List.getElem?_take_of_lt vH,agX]at vP
   simpa using vP.symm
  subst apy
  refine⟨vs,T',h3,by rw[← hw.len];simp[CI,ni,nJ,h4],h5,fun i d v e1 e2=>?_⟩
  obtain⟨d1,DL,hwd⟩:=hw.get e1
  simp only[CI,ni,nJ,List.getElem?_map,Option.map_eq_some_iff]at DL
  obtain⟨d2,⟨d3,hd3,rfl⟩,rfl⟩:=DL
  exact(hwd _ _ _ (conv (h6 i d3 v hd3 e2))).mono les
 ·have Ft:q<o:=by simp only [hlen]at hq;omega
  show M'.G (M.mu q) su=none
  rw[mY _ (fun e=>by have:=r.inj q o (by omega) xF e;omega)]
  exact r.km q (by omega) su
 ·simp only [hlen]at hq lq
  exact r.inj q q' (by omega) (by omega)
 ·rcases r.tok t n' CD with h3 | ⟨b,cap,z,gv,T',h3,h4,h5,h6,h7⟩
  ·exact .inl h3
  ·refine .inr ⟨b,cap,z,gv,T',h3,h4,h5,h6,fun su BG=> ?_,h7.2⟩
   rw[mY _ (fun e=>r.fM t b cap z o ⟨n',CD⟩ h3 xF e.symm)]
   exact h7.1 su BG
 ·simp only [hlen]at hq
  exact r.fM t b c z q hl hb (by omega)
 ·exact r.gQ t t' b c z c' z' hl mZ
 ·exact(ht.get k _ _ _ (conv (hr k))).mono les
theorem bo.To {a:AC} {Q:Exit→Tm→St→Prop} {tm:Tm} {s:St} (o g z:Nat) (rows:List (List D)) (bE:Tm) (fA:List (List D)) (hn:B.s.aj.length≤o) (eI:s.aj[o]? = some (.int .i64 (g:Int)::rows.flatten)) (hz : ∃ k l,tm.get k = .dH z o g l∨∃ (q:Nat) (ds:List D),s.aj[q]? = some ds∧ds[k]? = some (.dH z o g l))
 (hs : ∀ row∈rows,row.length=z) (ht:Hs o g rows s.az.length tm bE) (qE:iu ((s.aj.take o).map (CI o g rows o s.az.length)) fA)
 (h:bo P B nt a Q bE ⟨fA,s.az⟩):bo P B nt a Q tm s:=fun c hc act w hh=>h c hc act w (hh.To o g z rows bE fA hn eI hz hs ht qE)
end
end Go.Abs
namespace Go.Abs
mutual
def D.flat:D→Bool
 | .int _ _=>true
 | .bool _=>true
 | .str _=>true
 | .tuple ds=>D.Hu ds
 |_=>false
def D.Hu:List D→Bool
 | []=>true
 |d::r=>d.flat && D.Hu r
end
theorem Kc : ∀ {l:List D},D.Hu l=true→∀ {i:Nat} {d:D},l[i]? = some d→d.flat=true
 | [],_,i,d,e=>by simp at e
 |a::l,h,i,d,e=>by
  simp only[D.Hu,Bool.and_eq_true]at h
  cases i with
  |zero=>simp at e;subst e;exact h.1
  |succ i=>exact Kc h.2 (by simpa using e)
theorem RD.flat {M M':Map} {s s':St} {d:D} {v:Value} (h:RD M s d v):d.flat=true→RD M' s' d v:=by
 induction h with
 |int k n=>exact fun _=> .int k n
 |bool b=>exact fun _=> .bool b
 |str l=>exact fun _=> .str l
 |tuple ds vs hl _ ih=>exact fun hf=> .tuple ds vs hl fun i d v e1 e2=>ih i d v e1 e2 (Kc (by simpa only[D.flat]using hf) e1)
 |_=>intro hf;simp only[D.flat,Bool.false_eq_true]at hf
theorem Qe {n m:Nat} : ∀ {l:List D},D.bF n m l=true→∀ {i:Nat} {d:D},l[i]? = some d→d.ok n m=true
 | [],_,i,d,e=>by simp at e
 |a::l,h,i,d,e=>by
  simp only[D.bF,Bool.and_eq_true]at h
  cases i with
  |zero=>simp at e;subst e;exact h.1
  |succ i=>exact Qe h.2 (by simpa using e)
theorem Rel.Fv {M:Map} {s:St} {w w':World} (r:Rel M s w) (Fv : ∀ k,k<w.heap.size→w'.heap[k]? = w.heap[k]?) (hs:w.heap.size≤w'.heap.size) (h1:w'.os=w.os) (h2:w'.tape=w.tape) (h3:w'.output=w.output) :
 Rel M s w'∧Ext M s w M s w':=by
 refine⟨⟨fun p o v e=>?_,fun o ds e=>?_,r.km,r.inj,fun t n e=>?_,r.fM,r.gQ⟩,⟨Le.refl M s,fun k hk _ _=>Fv k hk,fun o h h'=>by rcases h with h|h;omega;exact(h rfl).elim,fun t b c z h e=> .inl ⟨h,c,z,e⟩,fun _ _ h=>(h rfl).elim,hs,h1,h2,h3⟩⟩
 ·obtain⟨h1,h2⟩:=r.comm p o v e
  refine⟨?_,h2⟩
  rw[← h1]
  simp only[World.cell?,Fv _ (r.Dn e)]
 ·obtain⟨vs,T,h1,h2⟩:=r.obj o ds e
  exact⟨vs,T,h1.keep (Fv _ h1.lt),h2⟩
 ·rcases r.tok t n e with h | ⟨p,cap,z,vs,T,h1,h2,h3⟩
  ·exact .inl h
  ·exact .inr ⟨p,cap,z,vs,T,h1,by rw[Fv _ (lu h2)];exact h2,h3⟩
theorem aH.apz {P:Program} {f:FuncId} {args:List D} {d:D} {s:St} {o g z:Nat} {rows:List (List D)} {k:Nat} (hk:args[k]? = some (.dH z o g rows.length)) {more:List D}
 (eI:s.aj[o]? = some (.int .i64 (g:Int)::(rows.flatten++more))) (hs : ∀ row∈rows,row.length=z) (h:aH P f (D.kD o g rows args) S0 d S0) (ha:D.bF 0 0 (D.kD o g rows args)=true)
 (hd:d.flat=true):aH P f args s d s:=by
 intro M w gw r hl dL BE
 have hD:=(List.getElem?_eq_some_iff.1 hk).1
 obtain⟨b0,apA,A,_,_,hm,_⟩:=(BE k _ _ hk (Array.getElem?_eq_getElem (by omega))).uF
 have jj:mr s o g=some (rows.flatten++more):=by unfold mr;rw[eI];simp
 obtain⟨us,T,cap,hh,ur,Dt,aCA,hle,iM,jI⟩:=r.I4 hm jj
 have xF:o<s.aj.length:=(List.getElem?_eq_some_iff.1 eI).1
 have Wb : ∀ q,M.G (M.mu o) q=none:=r.km o xF
 let M':Map:= {M with G:=fun b q=>if b=M.mu o then us[q]? else M.G b q}
 have mY : ∀ b,b≠M.mu o→∀ q,M'.G b q=M.G b q:=fun b hb q=>if_neg hb
 have le:Le M s M' s:=⟨fun b q v hq=>by
  by_cases hb:b=M.mu o
  ·subst hb;rw[Wb]at hq;cases hq
  ·rw[mY b hb];exact hq,Nat.le_refl _,fun _ _=> .refl _,Nat.le_refl _,fun t n' _ e=>⟨n',e,Nat.le_refl _,fun _=>rfl⟩⟩
 have jA : ∀ (i:Nat) (row:List D) (j:Nat) (d:D),rows[i]? = some row→row[j]? = some d→(rows.flatten++more)[i*z+j]? = some d:=by
  have gen : ∀ (rows:List (List D)),(∀ row∈rows,row.length=z)→∀ (i:Nat) (row:List D) (j:Nat) (d:D),rows[i]? = some row→row[j]? = some d→rows.flatten[i*z+j]? = some d:=by
   intro rows
   induction rows with
   |nil=>intro _ i row j d e1;simp at e1
   | cons a rows ih=>
    intro hs i row j d e1 e2
    have sQ:=hs a (List.mem_cons_self ..)
    rw[List.flatten_cons]
    cases i with
    |zero=>
     simp at e1;subst e1
     rw[Nat.zero_mul,Nat.zero_add,List.getElem?_append_left (List.getElem?_eq_some_iff.1 e2).1];exact e2
    |succ i=>
     rw[List.getElem?_append_right (by rw[Nat.add_mul];omega),sQ,show(i+1)*z+j - z=i*z+j by rw[Nat.add_mul];omega]
     exact ih (fun q hq=>hs q (List.mem_cons_of_mem _ hq)) i row j d (by simpa using e1) e2
  intro i row j d e1 e2
  have:=gen rows hs i row j d e1 e2
  rw[List.getElem?_append_left (List.getElem?_eq_some_iff.1 this).1];exact this
 have g1 : ∀ (i:Nat) (row:List D) (j:Nat) (d:D),rows[i]? = some row→row[j]? = some d→∃ u,M'.G (M.mu o) (0+(i*z+j))=some u:=fun i row j d e1 e2=>by
  have hD:=(List.getElem?_eq_some_iff.1 (jA i row j d e1 e2)).1
  refine⟨us[i*z+j]'(by omega), ?_⟩
  show(if M.mu o=M.mu o then us[0+(i*z+j)]? else _)=_
  rw[if_pos rfl,Nat.zero_add]
  exact Array.getElem?_eq_getElem _
 have g2 : ∀ (i:Nat) (row:List D) (j:Nat) (d:D) (u:Value),rows[i]? = some row→row[j]? = some d→M'.G (M.mu o) (0+(i*z+j))=some u→RD M' s d u:=fun i row j d u e1 e2 eu=>by
  have CJ:(if M.mu o=M.mu o then us[0+(i*z+j)]? else M.G (M.mu o) (0+(i*z+j)))=some u:=eu
  rw[if_pos rfl,Nat.zero_add]at CJ
  exact(jI _ d u (jA i row j d e1 e2) CJ).mono le
 have r0:Rel M' S0 w:=⟨fun b q v hq=>by
  have lq:(if b=M.mu o then us[q]? else M.G b q)=some v:=hq
  by_cases hb:b=M.mu o
  ·rw [if_pos hb]at lq
   rw[hb,jy hh]
   exact⟨lq,iM v (Array.mem_of_getElem? lq)⟩
  ·rw [if_neg hb]at lq
   exact r.comm b q v lq,fun o ds e=>by simp[S0]at e,fun o h=>by simp[S0]at h,fun o _ h=>by simp[S0]at h,fun t n e=>by simp[S0]at e,
  fun t b c z o hl _ ho=>by simp[S0]at ho,fun t t' b c z c' z' hl=>by obtain⟨n,hn⟩:=hl;simp[S0]at hn⟩
 have l0:Laid M' S0 w:=fun q cs hq=>⟨(hl q cs hq).1,fun o ho=>by simp[S0]at ho,fun t c z ht=>by obtain⟨n,hn⟩:=ht;simp[S0]at hn⟩
 have a0 : ∀ (i:Nat) (d:D) (v:Value),(D.kD o g rows args)[i]? = some d→gw[i]? = some v→RD M' S0 d v:=fun i d0 v e1 e2=>by
  have nU:=Qe ha e1
  rw[nJ,List.getElem?_map,Option.map_eq_some_iff]at e1
  obtain⟨d1,e1,rfl⟩:=e1
  have vP:=((BE i d1 v e1 e2).mono le).gD (M:=M') hm ur hs g1 g2
  exact RD.BD (M:=M') (M0:=M') (s:=s) (s0:=S0) (os:= []) (ts:= []) rfl (by simp) rfl (by simp) (by simp) rfl vP _ (sA _ _ _ nU) nU
 refine(h M' w gw r0 l0 (by rw[dL,nJ,List.length_map]) a0).mono fun e w' ⟨M2,d2,v,s2,h1,⟨h2,h3⟩,hx,_,h4⟩=>?_
 subst h2 h3
 have Fv : ∀ k,k<w.heap.size→w'.heap[k]? = w.heap[k]? :=fun k hk=>hx.kept k hk (fun o ho=>by simp[S0]at ho) (fun t c z ht=>by obtain⟨n,hn⟩:=ht;simp[S0]at hn)
 obtain⟨r',e'⟩:=r.Fv Fv hx.size hx.os hx.tape hx.output
 exact⟨M,d2,v,s,h1,⟨rfl,rfl⟩,e',r',h4.flat hd⟩
section
variable {P:Program} {B:ic} {nt:Nat}
theorem bS.wM {f:FuncId} {res:List (Nat×Option (Bool×Nat))} {body:AC} {args:List D} {s:St} {R:D→St→Prop} (h0:Has P f nt res body) (hl:Nat.ble args.length nt=true)
 (h : ∀ (B:ic) (Q:Exit→Tm→St→Prop),B.s=s→Yr res R=Q→jU P B nt body Q (ow 0 args) s):bS P f args s R:=by
 obtain⟨fn,hf,hc⟩:=h0
 refine bS.LC (bS.Vm (Q:=R) hf hc (Nat.le_of_ble_eq_true hl) fun B hB=>jC (h B _ hB rfl)) fun d s1 h=>⟨d,s1,Wk.refl _,iu.refl _,rfl,h⟩
theorem iW {res:List (Nat×Option (Bool×Nat))} {R:D→St→Prop} {tm:Tm} {s:St} {e:Exit} {Q:Exit→Tm→St→Prop} (hQ:Yr res R=Q) (h : ∃ l,cZ res tm s=some l∧R (da l) s) (he:e = .ret∨e = .normal:=by first|exact .inl rfl|exact .inr rfl):Q e tm s:=by
 subst hQ
 rcases he with rfl|rfl<;>exact h
def upD (R:D→St→Prop) (d:D) (s:St):Prop:=∃ d' s',Wk d d'∧iu s.aj s'.aj∧s.az=s'.az∧R d' s'
theorem bS.up {f:FuncId} {args:List D} {s:St} {R:D→St→Prop} (h:bS P f args s (upD R)):bS P f args s R:=
 bS.LC h fun d s1 ⟨d',s',h1,h2,h3,h4⟩=>⟨d',s',h1,h2,h3,h4⟩
def xH (tm:Tm):Tm→Prop
 | []=>True
 |(k,d)::r=>Wk (tm.get k) d∧xH tm r
theorem xH.get {tm:Tm} : ∀ {bE:Tm},xH tm bE→∀ t,Wk (tm.get t) (bE.get t)
 | [],_,t=>Wk.junk _
 |(k,d)::r,h,t=>by
  simp only[Tm.get]
  split
  ·rename_i hk;subst hk;exact h.1
  ·exact xH.get h.2 t
theorem agZ (tm:Tm):xH tm [] = True:=nd rfl
theorem ag0 (tm:Tm) (k:Nat) (d:D) (r:Tm):xH tm ((k,d)::r)=(Wk (tm.get k) d∧xH tm r):=nd rfl
attribute [go_sem] agZ ag0
theorem Holds.rB {tm bE:Tm} {s:St} {act:Act} {w:World} (ht:xH tm bE) (h:Holds B nt tm s act w):Holds B nt bE s act w:=by
 obtain⟨M,e,r,hr,h1,h2⟩:=h
 exact⟨M,e,r,fun k=>ht.get k _ _ _ (hr k),h1,h2⟩
theorem bo.rB {a:AC} {Q:Exit→Tm→St→Prop} {tm bE:Tm} {s:St} (ht:xH tm bE) (h:bo P B nt a Q bE s):bo P B nt a Q tm s:=fun c hc act w hh=>h c hc act w (hh.rB ht)
theorem nh.rB {a r:AC} {Q:Exit→Tm→St→Prop} {tm bE:Tm} {s:St} (ht:xH tm bE) (h:nh P B nt a r Q bE s):nh P B nt a r Q tm s:=fun c rest hc hr act w hh=>h c rest hc hr act w (hh.rB ht)
theorem Sem.rB {a:AC} {Q:Exit→Tm→St→Prop} {tm bE:Tm} {s:St} (ht:xH tm bE) (h:Sem P B nt a Q bE s):Sem P B nt a Q tm s:=fun c hc act w hh=>h c hc act w (hh.rB ht)
end
theorem ie {s:St} {o:Nat} {r:List D} (h:s.aj[o]? = some r):o<s.aj.length:=(List.getElem?_eq_some_iff.1 h).1
theorem Qf {s:St} {a b:Nat} {r r':List D} (h:s.aj[a]? = some r) (h':s.aj[b]? = some r') (hn:r≠r'):a≠b:=fun e=>by subst e;rw[h]at h';cases h';exact hn rfl
end Go.Abs
namespace Go.Abs
theorem aH.Dd {P:Program} {f:Nat} {args:List D} {s0 s:St} {o off n m:Nat} {row:List D} (h:aH P f args s0 (.ptr o off) s) (ho:s.aj[o]? = some row) (hn:s0.aj.length≤n) (CK:n≤o) (hm:s0.az.length≤m) :
 aH P f args s0 (.dN (D.iF n m row) off) (s.cut n m):=by
 intro M0 w0 gw r0 kX Zz ha
 refine(h M0 w0 gw r0 kX Zz ha).mono ?_
 rintro en w ⟨M,d,v0,s',rfl,⟨rfl,rfl⟩,e,r,hv⟩
 have Ay:=hv.Dp
 have qD:v0 = .pointer (some ⟨M.mu o,off,none⟩):=hv.uE.1
 have xF:o<s'.aj.length:=(List.getElem?_eq_some_iff.1 ho).1
 obtain⟨vs,T,hh,dL,⟨iM,_⟩,jI⟩:=r.obj o row ho
 replace hh:w.heap[M.mu o]? = some (.cells vs T (0,0)):=hh.cells Ay
 let M':Map:= {M with G:=fun b q=>if b=M.mu o then vs[q]? else M.G b q}
 have Wb : ∀ q,M.G (M.mu o) q=none:=r.km o xF
 have le:Le M s' M' s':=⟨fun b q v hq=>by
  show(if b=M.mu o then vs[q]? else M.G b q)=some v
  by_cases hb:b=M.mu o
  ·subst hb;rw[Wb]at hq;cases hq
  ·rw[if_neg hb];exact hq,Nat.le_refl _,fun _ _=> .refl _,Nat.le_refl _,fun t n' _ e=>⟨n',e,Nat.le_refl _,fun _=>rfl⟩⟩
 have hD : ∀ q,q<(s'.cut n m).aj.length→q<s'.aj.length∧q≠o:=fun q h=>by rw[lV]at h;omega
 have vl:w0.heap.size≤M.mu o:=e.sn o (.inl (by omega)) xF
 have ec:=e.cut hn hm
 have Wc:Le M (s'.cut n m) M' (s'.cut n m):=⟨le.G,Nat.le_refl _,fun _ _=> .refl _,Nat.le_refl _,fun t n' _ e=>⟨n',e,Nat.le_refl _,fun _=>rfl⟩⟩
 have rc:=r.cut n m
 have mY : ∀ b,b≠M.mu o→∀ q,M'.G b q=M.G b q:=fun b hb q=>if_neg hb
 refine⟨M',_,v0,_,rfl,⟨rfl,rfl⟩,⟨ec.le.trans Wc,ec.kept,ec.sn,ec.rD,fun b q fu=>?_,ec.size,ec.os,ec.tape,ec.output⟩,⟨fun b q v hq=>?_,fun q ds hq=>?_,fun q hq su=>?_,rc.inj,fun t n' CD=>?_,rc.fM,rc.gQ⟩, ?_⟩
 ·by_cases hb:b=M.mu o
  ·subst hb;exact .inl vl
  ·rw[mY b hb]at fu;exact ec.sq b q fu
 ·have lq:(if b=M.mu o then vs[q]? else M.G b q)=some v:=hq
  by_cases hb:b=M.mu o
  ·rw [if_pos hb]at lq
   rw[hb,jy hh]
   exact⟨lq,iM v (Array.mem_of_getElem? lq)⟩
  ·rw [if_neg hb]at lq
   exact r.comm b q v lq
 ·obtain⟨gv,T',h3,h4,h5,h6⟩:=rc.obj q ds hq
  exact⟨gv,T',h3,h4,h5,fun i d v e1 e2=>(h6 i d v e1 e2).mono Wc⟩
 ·obtain⟨h3,h4⟩:=hD q hq
  show M'.G (M.mu q) su=none
  rw[mY _ (fun e=>h4 (r.inj q o h3 xF e))]
  exact r.km q h3 su
 ·rcases rc.tok t n' CD with h3 | ⟨b,cap,z,gv,T',h3,h4,h5,h6,h7⟩
  ·exact .inl h3
  ·refine .inr ⟨b,cap,z,gv,T',h3,h4,h5,h6,fun su BG=> ?_,h7.2⟩
   rw[mY _ (fun e=>r.fM t b cap z o (xB ⟨n',CD⟩) h3 xF e.symm)]
   exact h7.1 su BG
 ·rw [qD]
  have:=RD.dN (M:=M') (s:=s'.cut n m) (D.iF n m row) off (M.mu o) 0 (fun i d e1=>?_) (fun i d u e1 eu=>?_)
  ·simpa using this
  ·rw [ni,List.getElem?_map,Option.map_eq_some_iff]at e1
   obtain⟨d0,e1,rfl⟩:=e1
   have hi:=(List.getElem?_eq_some_iff.1 e1).1
   refine⟨vs[i]'(by omega), ?_⟩
   show(if M.mu o=M.mu o then vs[0+i]? else _)=_
   rw[if_pos rfl,Nat.zero_add]
   exact Array.getElem?_eq_getElem _
  ·rw [ni,List.getElem?_map,Option.map_eq_some_iff]at e1
   obtain⟨d0,e1,rfl⟩:=e1
   have CJ:(if M.mu o=M.mu o then vs[0+i]? else M.G (M.mu o) (0+i))=some u:=eu
   rw[if_pos rfl,Nat.zero_add]at CJ
   exact((jI i d0 u e1 CJ).fg n m).mono Wc
theorem aH.Wd {P:Program} {f:FuncId} {res:List (Nat×Option (Bool×Nat))} {body:AC} {args:List D} {s:St} {d:D} {s':St} {nt:Nat} (n m:Nat) (hn:s.aj.length≤n) (hm:s.az.length≤m) (h0:Has P f nt res body) (hl:Nat.ble args.length nt=true)
 (h : ∀ (B:ic) (Q:Exit→Tm→St→Prop),B.s=s→rH n m res d s'=Q→jU P B nt body Q (ow 0 args) s):aH P f args s d s':=by
 obtain⟨fn,hf,hc⟩:=h0
 refine bS.LC (bS.intro (Q:=fun d1 s1=>Wk d1 d∧iu s1.aj s'.aj∧s1.az=s'.az) hf hc (Nat.le_of_ble_eq_true hl) fun B hB=>(jC (h B _ hB rfl)).mono fun e tm s1 hr=>?_) fun d1 s1 ⟨h1,h2,h3⟩=>⟨d,s',h1,h2,h3,rfl,rfl⟩
 subst hB
 cases e with
 |normal=>obtain⟨l,h1,h2,h3,h4⟩:=hr;exact⟨l,h1,_,_,hn,hm,h2,h3,h4⟩
 |ret=>obtain⟨l,h1,h2,h3,h4⟩:=hr;exact⟨l,h1,_,_,hn,hm,h2,h3,h4⟩
 |exit id=>exact hr.elim
 |goto l=>exact hr.elim
 |panic ch=>exact hr.elim
 |outgrown=>exact hr.elim
section
variable (s:St) (o g off len k z size bytes:Nat) (kk:IntKind)
theorem ak8:mr s o g=match s.aj[o]? with|some (.int .i64 n::cells)=>if n=(g:Int)then some cells else none|_=>none:=nd rfl
theorem ag1 (agg:Bool):Br (.gd o g off) agg size s=match mr s o g with|some cells=>(match part cells off agg size with|some d=>some (d,s)|none=>none)|none=>none:=nd rfl
theorem ad8 (r:List D):Dl (.gd o g off) (some r) size s=match mr s o g with
 |some cells=>if r.length=size∧off+size≤cells.length then some (.tuple [],⟨s.aj.set o (.int .i64 g::gR cells off r),s.az⟩)else none
 |none=>none:=nd rfl
theorem ak9:Rb (.gd o g off)=some (.gd o g off):=nd rfl
theorem ad9:G2 (.gd o g k) off=some (.gd o g (k+off)):=nd rfl
theorem aea:Aw (.dH z o g len) (.int kk (k:Int)) size=if k<len then(if z=size then some (.gd o g (k*z))else none)else none:=by
 simp only[Aw]
 by_cases h1:k<len<;>by_cases h2:z=size<;>simp[h1,h2]
theorem ala:IW (.dH z o g len)=some (.int .i64 len):=nd rfl
theorem ag2:IW (.fk z)=some (.int .i64 0):=nd rfl
theorem aeb {s:St} {o g len z bytes:Nat} {t:Tag} {cells r:List D} (hs:s.aj[o]? = some (.int .i64 (g:Int)::cells)) (hl:cells.length=len*z) (hm:(len+1)*(bytes+1)≤bp) :
 zJ z bytes (.dH z o g len) (.slice t z [r]) s=some (.dH z o (g+1) (len+1),⟨s.aj.set o (.int .i64 ((g+1:Nat):Int)::(cells++r)),s.az⟩):=by
 have ha:mr s o g=some cells:=by unfold mr;rw[hs];simp
 simp only[zJ,ha,List.length_singleton,hm,hl,or_true,and_self,if_true,Nat.le_refl,List.flatten_cons,List.flatten_nil,List.append_nil]
 rw[List.take_of_length_le (by omega)]
theorem F6 {z bytes:Nat} (t:Tag) (r:List D) (s:St) (hm:bytes+1≤bp):zJ z bytes (.fk z) (.slice t z [r]) s=some (.dH z s.aj.length 0 1,⟨s.aj++ [.int .i64 ((0:Nat):Int)::r],s.az⟩):=by
 simp[zJ,hm]
theorem alb (n m:Nat):D.fg n m (.dH z o g len)=if o<n then .dH z o g len else .junk:=nd (by simp only[D.fg])
theorem alc (n m:Nat):D.fg n m (.gd o g off)=if o<n then .gd o g off else .junk:=nd (by simp only[D.fg])
theorem ald (n m:Nat):D.fg n m (.fk z) = .fk z:=nd (by simp only[D.fg])
theorem ag3:(D.dH z o g len).row=some [.dH z o g len]:=nd rfl
theorem ag4:(D.gd o g off).row=some [.gd o g off]:=nd rfl
theorem ag5:(D.fk z).row=some [.fk z]:=nd rfl
end
attribute [go_sem] ak8 ag1 ad8 ak9 ad9 aea ala ag2 alb alc ald ag3 ag4 ag5
theorem Wk.fk (z z':Nat):Wk (.slice .full z []) (.fk z'):=fun M s v h=>by
 cases h with
 |jH _ _ cap hc ht=>subst hc;exact .fk z' none
 |slice _ _ _ b k cap hl hs h1 h2 ht=>
  have:cap=0:=ht
  subst this
  exact .fk z' _
instance (z z':Nat):Ok (Wk (.slice .full z []) (.fk z')):=⟨Wk.fk z z'⟩
instance {a a' b b':List D} [Ok (kv a a')] [Ok (kv b b')] : Ok (kv (a++b) (a'++b')):=⟨kv.append Ok.out Ok.out⟩
theorem ale (n m:Nat) (a b:List D):D.iF n m (a++b)=D.iF n m a++D.iF n m b:=nd (by simp only[ni,List.map_append])
attribute [go_sem] ale
theorem xI {α:Type} (f:α→List D) (n:Nat) (h : ∀ a,(f a).length=n) : ∀ l:List α,((l.map f).flatten).length=l.length*n
 | []=>by simp
 |a::l=>by simp[h a,xI f n h l,Nat.add_mul,Nat.add_comm]
theorem Hv {α:Type} (f:α→List D) (n:Nat) (h : ∀ a,(f a).length=n) (a b:List α) (x y:α) (k:Nat) (r:List D) (hy:f y=gR (f x) k r) (hk:k+r.length≤n) :
 gR (((a++x::b).map f).flatten) (a.length*n+k) r=((a++y::b).map f).flatten:=by
 have sQ:=xI f n h a
 have hx:=h x
 unfold gR
 simp only[List.map_append,List.map_cons,List.flatten_append,List.flatten_cons,hy]
 unfold gR
 have e1:((a.map f).flatten++(f x++(b.map f).flatten)).take (a.length*n+k)=(a.map f).flatten++(f x).take k:=by
  rw[List.take_append,sQ,List.take_of_length_le (by omega),show a.length*n+k - a.length*n=k by omega,List.take_append_of_le_length (by omega)]
 have e2:((a.map f).flatten++(f x++(b.map f).flatten)).drop (a.length*n+k+r.length)=(f x).drop (k+r.length)++(b.map f).flatten:=by
  rw[List.drop_append,sQ,List.drop_eq_nil_of_le (by omega),show a.length*n+k+r.length - a.length*n=k+r.length by omega,List.drop_append_of_le_length (by omega)]
  simp
 rw[e1,e2]
 simp only[List.append_assoc]
def xJ (os:List Nat) (m:Nat) (aj:List (List D)):List Nat→List (List D)→Prop
 | [],[]=>True
 |o::l,ds::r=>aj[o]? = some (D.fc os (List.range m) ds)∧D.bF os.length m ds=true∧xJ os m aj l r
 |_,_=>False
theorem xJ.get {os:List Nat} {m:Nat} {aj:List (List D)} : ∀ {l:List Nat} {r:List (List D)},xJ os m aj l r→r.length=l.length∧∀ (i o:Nat) (ds:List D),l[i]? = some o→r[i]? = some ds→aj[o]? = some (D.fc os (List.range m) ds)∧D.bF os.length m ds=true
 | [],[],_=>⟨rfl,fun i o ds h=>by simp at h⟩
 |o::l,ds::r,⟨h1,h2,h3⟩=>by
  obtain⟨g1,g2⟩:=h3.get
  refine⟨by simp[g1],fun i o' pk e1 e2=>?_⟩
  cases i with
  |zero=>simp at e1 e2;subst e1 e2;exact⟨h1,h2⟩
  |succ i=>exact g2 i o' pk (by simpa using e1) (by simpa using e2)
 | [],_::_,h=>h.elim
 |_::_,[],h=>h.elim
section
variable {P:Program} {B:ic} {nt:Nat} {a:AC} {Q:Exit→Tm→St→Prop} {tm:Tm} {s:St}
theorem bo.Tp (hB:B.s = ⟨[],[]⟩) (os:List Nat) (fA:List (List D)) (bE:Tm) (ux:os.Nodup) (jB : ∀ o∈os,o<s.aj.length) (qE:xJ os s.az.length s.aj os fA) (Wa:AU os (List.range s.az.length) tm bE)
 (h:bo P B nt a Q bE ⟨fA,s.az⟩):bo P B nt a Q tm s:=
 bo.AV os fA bE ux jB (by rw[hB];exact Nat.zero_le _) (fun i h=>by rw[hB]at h;exact absurd h (Nat.not_lt_zero _)) (fun i o _ _=>by rw[hB];exact Nat.zero_le _) qE.get.1 qE.get.2 Wa h
end
section
variable (os ts:List Nat) (n m:Nat)
theorem alf (o off:Nat):D.cO os ts (.ptr o off)=match os[o]? with|some o'=> .ptr o' off|none=> .junk:=nd (by simp only[D.cO]<;>rfl)
theorem alg (z o g len:Nat):D.cO os ts (.dH z o g len)=match os[o]? with|some o'=> .dH z o' g len|none=> .junk:=nd (by simp only[D.cO]<;>rfl)
theorem aec (g:Tag) (z:Nat) (rows:List (List D)):D.cO os ts (.slice g z rows) = .slice (g.cO ts) z (D.pG os ts rows):=nd (by simp only[D.cO])
theorem alh (l:List D):D.cO os ts (.agg l) = .agg (D.fc os ts l):=nd (by simp only[D.cO])
theorem ag6:D.cO os ts .junk = .junk:=nd (by simp only[D.cO])
theorem ali (k:IntKind) (x:Int):D.cO os ts (.int k x) = .int k x:=nd (by simp only[D.cO])
theorem ag7 (b:Bool):D.cO os ts (.bool b) = .bool b:=nd (by simp only[D.cO])
theorem alj (l:List UInt8):D.cO os ts (.str l) = .str l:=nd (by simp only[D.cO])
theorem ag8:D.cO os ts .eY = .eY:=nd (by simp only[D.cO])
theorem ag9 (z:Nat):D.cO os ts (.fk z) = .fk z:=nd (by simp only[D.cO])
theorem aed:D.fc os ts [] = []:=nd (by simp only[D.fc])
theorem aee (d:D) (l:List D):D.fc os ts (d::l)=D.cO os ts d::D.fc os ts l:=nd (by simp only[D.fc])
theorem ZA:Tag.cO ts .shared = .shared:=nd rfl
theorem aha:Tag.cO ts .full = .full:=nd rfl
theorem aef (o off:Nat):D.ok n m (.ptr o off)=decide (o<n):=nd (by simp only[D.ok])
theorem aeg (z o g len:Nat):D.ok n m (.dH z o g len)=decide (o<n):=nd (by simp only[D.ok])
theorem Wf (g:Tag) (z:Nat) (rows:List (List D)):D.ok n m (.slice g z rows)=(g.ok m && D.jg n m rows):=nd (by simp only[D.ok])
theorem aeh (l:List D):D.ok n m (.agg l)=D.bF n m l:=nd (by simp only[D.ok])
theorem ZB:D.ok n m .junk=true:=nd (by simp only[D.ok])
theorem aei (k:IntKind) (x:Int):D.ok n m (.int k x)=true:=nd (by simp only[D.ok])
theorem ZC (b:Bool):D.ok n m (.bool b)=true:=nd (by simp only[D.ok])
theorem aej (l:List UInt8):D.ok n m (.str l)=true:=nd (by simp only[D.ok])
theorem ZD:D.ok n m .eY=true:=nd (by simp only[D.ok])
theorem ZE (z:Nat):D.ok n m (.fk z)=true:=nd (by simp only[D.ok])
theorem ahb:D.bF n m [] = true:=nd (by simp only[D.bF])
theorem ahc (d:D) (l:List D):D.bF n m (d::l)=(D.ok n m d && D.bF n m l):=nd (by simp only[D.bF])
theorem Tq:Tag.ok m .shared=true:=nd rfl
theorem ZF:Tag.ok m .full=true:=nd rfl
theorem aek (os:List Nat) (m:Nat) (aj:List (List D)):xJ os m aj [] [] = True:=nd rfl
theorem ael (os:List Nat) (m:Nat) (aj:List (List D)) (o:Nat) (l:List Nat) (ds:List D) (r:List (List D)):xJ os m aj (o::l) (ds::r)=(aj[o]? = some (D.fc os (List.range m) ds)∧D.bF os.length m ds=true∧xJ os m aj l r):=nd rfl
theorem ahd (tm:Tm):AU os ts tm [] = True:=nd rfl
theorem ahe (tm:Tm) (k:Nat) (d:D) (r:Tm):AU os ts tm ((k,d)::r)=(tm.get k=d.cO os ts∧d.ok os.length ts.length=true∧AU os ts tm r):=nd rfl
theorem MT (rows:List (List D)) (h:D.jg 0 0 rows=true):D.pG os ts rows=rows:=ke os ts rows h
theorem Hw (row:List D) (h:D.bF 0 0 row=true):D.fc os ts row=row:=fW os ts row h
theorem Tr (rows:List (List D)) (h:D.jg 0 0 rows=true):D.jg n m rows=true:=oa (Nat.zero_le n) (Nat.zero_le m) rows h
theorem LG (row:List D) (h:D.bF 0 0 row=true):D.bF n m row=true:=jt (Nat.zero_le n) (Nat.zero_le m) row h
theorem AW (p:Pg):D.fc os ts (bK p)=bK p:=Hw _ _ _ (iP p)
theorem Qg (p:Sm):D.fc os ts (a8 p)=a8 p:=Hw _ _ _ (pJ p)
theorem BJ (l:List Pc):D.pG os ts (l.map bJ)=l.map bJ:=MT _ _ _ (yU l)
theorem ZG (l:List Sm):D.pG os ts (l.map a8)=l.map a8:=MT _ _ _ (kY l)
theorem py (l:List aK):D.pG os ts (l.map encStr)=l.map encStr:=MT _ _ _ (fK l)
theorem EL (p:Pc):D.fc os ts (bJ p)=bJ p:=Hw _ _ _ (zQ p)
theorem Hx (p:Pc):D.bF n m (bJ p)=true:=LG _ _ _ (zQ p)
theorem DM (p:Pg):D.bF n m (bK p)=true:=LG _ _ _ (iP p)
theorem Wg (p:Sm):D.bF n m (a8 p)=true:=LG _ _ _ (pJ p)
theorem EM (l:List Pc):D.jg n m (l.map bJ)=true:=Tr _ _ _ (yU l)
theorem aem (l:List Sm):D.jg n m (l.map a8)=true:=Tr _ _ _ (kY l)
theorem uL (l:List aK):D.jg n m (l.map encStr)=true:=Tr _ _ _ (fK l)
theorem Hy : ∀ l:List Pc,D.bF 0 0 ((l.map bJ).flatten)=true:=fun l=>by
 have h:=yU l
 rw[Hk,List.all_eq_true]at h
 rw[AQ,List.all_eq_true]
 intro d hd
 obtain⟨r,hr,hd⟩:=List.mem_flatten.1 hd
 have:=h r hr
 rw[AQ,List.all_eq_true]at this
 exact this d hd
theorem uM (l:List Pc):D.fc os ts ((l.map bJ).flatten)=(l.map bJ).flatten:=Hw _ _ _ (Hy l)
theorem xi (l:List Pc):D.bF n m ((l.map bJ).flatten)=true:=LG _ _ _ (Hy l)
theorem aen (l:List Pc):D.iF n m ((l.map bJ).flatten)=(l.map bJ).flatten:=jk _ _ _ (Hy l)
end
attribute [go_sem] EL Hx alf alg aec alh ag6 ali ag7 alj ag8 ag9 aed aee ZA aha aef aeg Wf aeh ZB aei ZC aej ZD ZE ahb ahc Tq ZF aek ael ahd ahe AW Qg BJ ZG py DM Wg EM aem uL uM xi aen
mutual
theorem MU (o g:Nat) (rows:List (List D)) : ∀ d,D.ok 0 0 d=true→D.gD o g rows d=d
 | .junk,_=>by simp[D.gD]
 | .int k n,_=>by simp[D.gD]
 | .bool b,_=>by simp[D.gD]
 | .str l,_=>by simp[D.gD]
 | .eY,_=>by simp[D.gD]
 | .val v,_=>by simp[D.gD]
 | .fk z,_=>by simp[D.gD]
 | .gb T o,h=>by simp[D.ok]at h
 | .gW o,h=>by simp[D.ok]at h
 | .dH z o g len,h=>by simp[D.ok]at h
 | .gd o g off,h=>by simp[D.ok]at h
 | .ptr o f,h=>by simp[D.ok]at h
 | .ix f cs,h=>by
  simp only[D.ok]at h
  simp only[D.gD,uN o g rows cs h]
 | .dN r f,h=>by
  simp only[D.ok]at h
  simp only[D.gD,uN o g rows r h]
 | .slice t z rs,h=>by
  simp only[D.ok,Bool.and_eq_true]at h
  simp only[D.gD,AX o g rows rs h.2]
 | .agg cs,h=>by
  simp only[D.ok]at h
  simp only[D.gD,uN o g rows cs h]
 | .tuple cs,h=>by
  simp only[D.ok]at h
  simp only[D.gD,uN o g rows cs h]
theorem uN (o g:Nat) (rows:List (List D)) : ∀ l,D.bF 0 0 l=true→D.kD o g rows l=l
 | [],_=>by simp[D.kD]
 |d::r,h=>by
  simp only[D.bF,Bool.and_eq_true]at h
  simp only[D.kD,MU o g rows d h.1,uN o g rows r h.2]
theorem AX (o g:Nat) (rows:List (List D)) : ∀ l,D.jg 0 0 l=true→D.tu o g rows l=l
 | [],_=>by simp[D.tu]
 |d::r,h=>by
  simp only[D.jg,Bool.and_eq_true]at h
  simp only[D.tu,uN o g rows d h.1,AX o g rows r h.2]
end
section
variable (o g:Nat) (rows:List (List D)) (n m:Nat)
theorem alk (q off:Nat):D.gD o g rows (.ptr q off) = .ptr q off:=nd (by simp only[D.gD])
theorem ahf (q h off:Nat):D.gD o g rows (.gd q h off) = .gd q h off:=nd (by simp only[D.gD])
theorem alm (z o' g' len:Nat):D.gD o g rows (.dH z o' g' len)=if o'=o∧g'=g∧len=rows.length then .slice .shared z rows else .dH z o' g' len:=nd (by simp only[D.gD])
theorem aeo (t:Tag) (z:Nat) (rs:List (List D)):D.gD o g rows (.slice t z rs) = .slice t z (D.tu o g rows rs):=nd (by simp only[D.gD])
theorem aln (l:List D):D.gD o g rows (.agg l) = .agg (D.kD o g rows l):=nd (by simp only[D.gD])
theorem ahg:D.gD o g rows .junk = .junk:=nd (by simp only[D.gD])
theorem alo (k:IntKind) (x:Int):D.gD o g rows (.int k x) = .int k x:=nd (by simp only[D.gD])
theorem ahh (b:Bool):D.gD o g rows (.bool b) = .bool b:=nd (by simp only[D.gD])
theorem alp (l:List UInt8):D.gD o g rows (.str l) = .str l:=nd (by simp only[D.gD])
theorem aep:D.kD o g rows [] = []:=nd (by simp only[D.kD])
theorem aeq (d:D) (l:List D):D.kD o g rows (d::l)=D.gD o g rows d::D.kD o g rows l:=nd (by simp only[D.kD])
theorem apB (p:Pg):D.kD o g rows (bK p)=bK p:=uN _ _ _ _ (iP p)
theorem alq (l:List Pc):D.tu o g rows (l.map bJ)=l.map bJ:=AX _ _ _ _ (yU l)
theorem alr (l:List Sm):D.tu o g rows (l.map a8)=l.map a8:=AX _ _ _ _ (kY l)
theorem ahi (l:List aK):D.tu o g rows (l.map encStr)=l.map encStr:=AX _ _ _ _ (fK l)
theorem als (ds:List D):CI o g rows n m ds=D.iF n m (D.kD o g rows ds):=nd rfl
theorem ahj (tm:Tm):Hs o g rows m tm [] = True:=nd rfl
theorem ahk (tm:Tm) (k:Nat) (d:D) (r:Tm):Hs o g rows m tm ((k,d)::r)=(Wk (((tm.get k).gD o g rows).fg o m) d∧Hs o g rows m tm r):=nd rfl
end
attribute [go_sem] alk ahf alm aeo aln ahg alo ahh alp aep aeq apB alq alr ahi als ahj ahk
theorem aH.AV {P:Program} {f:FuncId} {args:List D} {d d':D} {aj fA:List (List D)} (os:List Nat) (h:aH P f args S0 d ⟨aj,[]⟩) (ux:os.Nodup) (jB : ∀ o∈os,o<aj.length) (ho:fA.length=os.length)
 (qE : ∀ (i o:Nat) (ds:List D),os[i]? = some o→fA[i]? = some ds→aj[o]? = some (D.fc os [] ds)∧D.bF os.length 0 ds=true) (hd:d'.cO os [] = d) (nU:d'.ok os.length 0=true):aH P f args S0 d' ⟨fA,[]⟩:=by
 intro M0 w0 gw r0 kX Zz ha
 refine(h M0 w0 gw r0 kX Zz ha).mono ?_
 rintro en w ⟨M,d1,v,s',rfl,⟨rfl,rfl⟩,e,r,hv⟩
 have r1:Rel (gG M os []) ⟨fA,[]⟩ w:=r.sub ux List.nodup_nil jB ho qE rfl (fun i t h=>by simp at h)
 have loc : ∀ (i:Nat) o,os[i]? = some o→(gG M os []).loc i=M.loc o:=fun i o h=>by simp only[gG,uK h]
 refine⟨gG M os [],d',v,_,rfl,⟨rfl,rfl⟩,⟨⟨e.le.G,Nat.zero_le _,fun o h=>absurd h (Nat.not_lt_zero _),Nat.zero_le _,fun t n' h=>absurd h (Nat.not_lt_zero _)⟩,fun b hb _ _=>e.kept b hb (fun o h=>absurd h (Nat.not_lt_zero _)) (fun t c z ⟨n,hn⟩=>by simp[S0]at hn),fun o h3 h4=>?_,
  fun t b c z ⟨n,hn⟩=>by simp at hn,e.sq,e.size,e.os,e.tape,e.output⟩,r1, ?_⟩
 ·simp only at h4
  rw[ho]at h4
  obtain⟨q,hq⟩ : ∃ q,os[o]? = some q:=⟨_,List.getElem?_eq_getElem h4⟩
  rw[show(gG M os []).mu o=M.mu q from congrArg Prod.fst (loc o q hq)]
  exact e.sn q (.inl (Nat.zero_le _)) (jB q (List.mem_of_getElem? hq))
 ·exact RD.BD (M:=M) (M0:=gG M os []) (s:=⟨aj,[]⟩) (s0:=⟨fA,[]⟩) rfl loc ho (fun i t h=>by simp at h) (fun i t h=>by simp at h) rfl hv _ hd nU
theorem aH.abV {P:Program} {f:FuncId} {args row:List D} {d:D} (h:aH P f args S0 d ⟨[row],[]⟩) (ha:D.bF 0 0 args=true) (hr:D.bF 0 0 row=true) (s:St):aH P f args s (d.cO [s.aj.length] []) ⟨s.aj++ [row],s.az⟩:=by
 refine bS.frame [] [] h List.nodup_nil List.nodup_nil (by simp) (by simp) rfl (by simp) rfl (by simp) (by rw[fW _ _ _ ha]) ha ?_
 rintro _ _ ⟨rfl,rfl⟩
 refine⟨by simp[D.back,kR], ?_⟩
 simp[St.back,lF,kR,fW _ _ _ hr]
end Go.Abs
namespace Go.Abs
mutual
def Ex.size:Ex→Nat
 |⟨_,_,_,kids⟩=>1+Ex.aS kids
def Ex.aS:List Ex→Nat
 | []=>0
 |x::l=>1+x.size+Ex.aS l
end
mutual
def Ex.depth:Ex→Nat
 |⟨_,_,_,kids⟩=>Ex.rR kids+1
def Ex.rR:List Ex→Nat
 | []=>0
 |x::l=>max x.depth (Ex.rR l)
end
def ahl (x:Ex):Option Int:=if x.size<4611686018427387904 then some (x.depth:Int)else none
theorem Ex.cu {x:Ex} : ∀ {l:List Ex},x∈l→x.size<Ex.aS l
 |y::l,h=>by
  simp only[Ex.aS]
  rcases List.mem_cons.1 h with rfl|h
  ·omega
  ·have:=Ex.cu h;omega
theorem Ex.dr : ∀ (l:List Ex),l.length≤Ex.aS l
 | []=>Nat.le_refl _
 |x::l=>by simp only[Ex.aS,List.length_cons];have:=Ex.dr l;omega
def Ts (t:rz):Int×Int:=
 if t.kind != 4 then(0,0)
 else if t.text == [124,124]then(17,1)
 else if t.text == [38,38]then(16,2)
 else if t.text == [61,61]then(14,3)
 else if t.text == [33,61]then(15,3)
 else if t.text == [60]then(10,4)
 else if t.text == [60,61]then(11,4)
 else if t.text == [62]then(12,4)
 else if t.text == [62,61]then(13,4)
 else if t.text == [43]then(8,5)
 else if t.text == [45]then(9,5)
 else if t.text == [42]then(5,6)
 else if t.text == [47]then(6,6)
 else if t.text == [37]then(7,6)
 else(0,0)
structure Rd where
 l:List rz
 i:Nat
 code:Int
 MV:Int
 n:Nat
abbrev Rd.good (r:Rd):Bool:=r.code==0
def Rd.xK (r:Rd):Option rz:=(agV r.l r.i).bind fun t=>if decide (0≤t.kind) && decide (t.kind≤4)then some t else none
def Rd.bad (c:Int) (r:Rd):Option Rd:=if r.good then r.xK.bind fun t=>some {r with code:=c,MV:=t.pos}else some r
def Rd.is (text:aK) (r:Rd):Option Bool:=r.xK.bind fun t=>some ((t.kind==3 ||t.kind==4) && t.text==text)
def Rd.take (text:aK) (r:Rd):Option (Bool×Rd):=
 if !r.good then some (false,r)else(r.is text).bind fun b=>if !b then some (false,r)else some (true,{r with i:=r.i+1})
def Rd.want (text:aK) (r:Rd):Option Rd:=(r.take text).bind fun p=>if !p.1 then p.2.bad 3 else some p.2
def Rd.name (room:Bool) (r:Rd):Option (aK×Rd):=
 r.xK.bind fun t=>if !r.good ||t.kind != 1 then(r.bad 3).bind fun r=>some ([],r)else if !room then(r.bad 4).bind fun r=>some ([],r)else some (t.text,{r with i:=r.i+1})
def Rd.on (r:Rd):Rd:= {r with i:=r.i+1}
mutual
def Rd.one:Nat→Rd→Option (Ex×Rd)
 | 0,_=>none
 | n+1,r=>r.xK.bind fun t=>
  if !r.good then some (rA,r)
  else if t.kind==2 then some (⟨1,t.n,[],[]⟩,{r with i:=r.i+1})
  else if t.kind==1 then some (⟨2,0,t.text,[]⟩,{r with i:=r.i+1})
  else(r.take [40]).bind fun p=>
   if p.1 then(Rd.two n 1 p.2).bind fun x=>(x.2.want [41]).bind fun r=>some (x.1,r)
   else(p.2.take [45]).bind fun p=>
    if p.1 then(Rd.one n p.2).bind fun x=>some (⟨3,0,[],[x.1]⟩,x.2)
    else(p.2.take [33]).bind fun p=>
     if p.1 then(Rd.one n p.2).bind fun x=>some (⟨4,0,[],[x.1]⟩,x.2)
     else(p.2.bad 3).bind fun r=>some (rA,r)
def Rd.two:Nat→Int→Rd→Option (Ex×Rd)
 | 0,_,_=>none
 |n+1,least,r=>(Rd.one n r).bind fun x=>Rd.ahm n least x.1 x.2
def Rd.ahm:Nat→Int→Ex→Rd→Option (Ex×Rd)
 | 0,_,_,_=>none
 | n+1,least,x,r=>
  if r.good then r.xK.bind fun t=>
   if decide ((Ts t).2<least) ||(Ts t).1==0 then some (x,r)
   else(Rd.two n ((Ts t).2+1) {r with i:=r.i+1}).bind fun y=>Rd.ahm n least ⟨(Ts t).1,0,[],[x,y.1]⟩ y.2
  else some (x,r)
end
def Rd.whole (n:Nat) (r:Rd):Option (Ex×Rd):=
 r.xK.bind fun t=>(Rd.two n 1 r).bind fun x=>
  if x.2.good then(ahl x.1).bind fun d=>if decide (d > 20)then some (x.1,{x.2 with code:=4,MV:=t.pos})else some (x.1,x.2)
  else some (x.1,x.2)
def Rd.names:Nat→List aK→Int→Rd→Option (List aK×Rd)
 | 0,_,_,_=>none
 | n+1,l,ahn,r=>
  if r.good then(r.name (decide ((l.length:Int)<ahn))).bind fun p=>(push 17 l p.1).bind fun l=>(p.2.take [44]).bind fun q=>
   if !q.1 then(q.2.want [59]).bind fun r=>some (l,r)else Rd.names n l ahn q.2
  else some (l,r)
def Rd.ahead (sign:aK) (r:Rd):Option Bool:=
 if r.good then r.xK.bind fun t=>if t.kind==1 then(agV r.l (r.i+1)).bind fun u=>some (u.kind==4 && u.text==sign)else some false
 else some false
def Rd.labels:Nat→List aK→Rd→Option (List aK×Rd)
 | 0,_,_=>none
 |n+1,l,r=>(r.ahead [58]).bind fun b=>if b then r.xK.bind fun t=>(push 17 l t.text).bind fun l=>Rd.labels n l {r with i:=r.i+2}else some (l,r)
def Rd.aho (r:Rd):Option Bool:=
 r.xK.bind fun t=>some (if t.kind==1 then true else if t.kind != 3 then false
  else t.text == [105,102] ||t.text == [119,104,105,108,101] ||t.text == [98,114,101,97,107] ||t.text == [99,111,110,116,105,110,117,101] ||t.text == [114,101,116,117,114,110] ||t.text == [103,111,116,111] ||t.text == [114,101,97,100] ||t.text == [112,114,105,110,116])
def Rd.Tt (m:Nat):Nat→List Ar→Rd→Option (List Ar×Rd)
 | 0,_,_=>none
 | n+1,l,r=>
  if r.good then(r.take [114,101,102]).bind fun p=>
   if p.1 then(p.2.name true).bind fun x=>(push 81 l ⟨true,x.1,rA⟩).bind fun l=>(x.2.take [44]).bind fun c=>if !c.1 then some (l,c.2)else Rd.Tt m n l c.2
   else(Rd.whole m p.2).bind fun x=>(push 81 l ⟨false,[],x.1⟩).bind fun l=>(x.2.take [44]).bind fun c=>if !c.1 then some (l,c.2)else Rd.Tt m n l c.2
  else some (l,r)
def Rd.other (sign:aK) (r:Rd):Option Bool:=if r.good then(r.is sign).bind fun b=>some !b else some false
def Rd.call (m:Nat) (name proc:aK) (r:Rd):Option (Sm×Rd):=
 (r.want [40]).bind fun r=>(r.other [41]).bind fun b=>
  if b then(Rd.Tt m m [] r).bind fun q=>(q.2.want [41]).bind fun r=>(r.want [59]).bind fun r=>some (⟨0,4,[],name,proc,rA,false,q.1,[],[]⟩,r)
  else(r.want [41]).bind fun r=>(r.want [59]).bind fun r=>some (⟨0,4,[],name,proc,rA,false,[],[],[]⟩,r)
def Rd.named (m:Nat) (r:Rd):Option (Sm×Rd):=
 (r.name true).bind fun x=>(x.2.is [40]).bind fun b=>
  if b then Rd.call m [] x.1 x.2
  else(x.2.want [61]).bind fun r=>(r.ahead [40]).bind fun b=>
   if b then(r.name true).bind fun y=>Rd.call m x.1 y.1 y.2
   else(Rd.whole m r).bind fun y=>(y.2.want [59]).bind fun r=>some (⟨0,1,[],x.1,[],y.1,false,[],[],[]⟩,r)
def Rd.plain (m:Nat) (word:aK) (r:Rd):Option (Sm×Rd):=
 if word == [98,114,101,97,107]then some (⟨0,7,[],[],[],rA,false,[],[],[]⟩,r)
 else if word == [99,111,110,116,105,110,117,101]then some (⟨0,8,[],[],[],rA,false,[],[],[]⟩,r)
 else if word == [114,101,116,117,114,110]then(r.is [59]).bind fun b=>
  if !b then(Rd.whole m r).bind fun x=>some (⟨0,9,[],[],[],x.1,true,[],[],[]⟩,x.2)else some (⟨0,9,[],[],[],rA,false,[],[],[]⟩,r)
 else if word == [103,111,116,111]then(r.name true).bind fun x=>some (⟨0,10,[],x.1,[],rA,false,[],[],[]⟩,x.2)
 else if word == [114,101,97,100]then(r.name true).bind fun x=>some (⟨0,2,[],x.1,[],rA,false,[],[],[]⟩,x.2)
 else if word == [112,114,105,110,116]then(Rd.whole m r).bind fun x=>some (⟨0,3,[],[],[],x.1,false,[],[],[]⟩,x.2)
 else some (J9,r)
def Rd.head (m:Nat) (r:Rd):Option (Ex×Rd):=(r.want [40]).bind fun r=>(Rd.whole m r).bind fun x=>(x.2.want [41]).bind fun r=>some (x.1,r)
mutual
def Rd.rows (m:Nat):Nat→Int→Bool→Rd→Option ((List Sm×List aK)×Rd)
 | 0,_,_,_=>none
 |n+1,nest,body,r=>Rd.abW m n nest body [] r
def Rd.abW (m:Nat):Nat→Int→Bool→List Sm→Rd→Option ((List Sm×List aK)×Rd)
 | 0,_,_,_,_=>none
 | n+1,nest,body,out,r=>
  if r.good then(Rd.labels m [] r).bind fun l=>(l.2.is [125]).bind fun b=>
   if b && (body ||(l.1.length:Int)==0)then some ((out,l.1),{l.2 with i:=l.2.i+1})
   else(Rd.stmt m n nest l.2).bind fun s=>(push 209 out {s.1 with labels:=l.1}).bind fun out=>Rd.abW m n nest body out s.2
  else some (([],[]),r)
def Rd.stmt (m:Nat):Nat→Int→Rd→Option (Sm×Rd)
 | 0,_,_=>none
 | n+1,nest,r=>r.aho.bind fun b=>
  if !b then(r.bad 3).bind fun r=>some (J9,r)
  else(inc r.n).bind fun k=>
   if decide ((k:Int) > 200) ||decide (nest > 12)then(({r with n:=k} : Rd).bad 4).bind fun r=>some (J9,r)
   else({r with n:=k} : Rd).xK.bind fun t=>
    if t.kind==1 then Rd.named m {r with n:=k}
    else if t.text == [105,102]then Rd.choice m n nest {r with n:=k,i:=r.i+1}
    else if t.text == [119,104,105,108,101]then(Rd.head m {r with n:=k,i:=r.i+1}).bind fun x=>(Rd.block m n nest x.2).bind fun b=>some (⟨0,6,[],[],[],x.1,false,[],b.1,[]⟩,b.2)
    else(Rd.plain m t.text {r with n:=k,i:=r.i+1}).bind fun s=>(s.2.want [59]).bind fun r=>some (s.1,r)
def Rd.block (m:Nat):Nat→Int→Rd→Option (List Sm×Rd)
 | 0,_,_=>none
 |n+1,nest,r=>(r.want [123]).bind fun r=>(apx nest).bind fun k=>(Rd.rows m n k false r).bind fun p=>some (p.1.1,p.2)
def Rd.choice (m:Nat):Nat→Int→Rd→Option (Sm×Rd)
 | 0,_,_=>none
 |n+1,nest,r=>(Rd.head m r).bind fun x=>(Rd.block m n nest x.2).bind fun t=>(t.2.take [101,108,115,101]).bind fun q=>
  if q.1 then(Rd.block m n nest q.2).bind fun e=>some (⟨0,5,[],[],[],x.1,false,[],t.1,e.1⟩,e.2)
  else some (⟨0,5,[],[],[],x.1,false,[],t.1,[]⟩,q.2)
end
def Rd.params:Nat→List Pm→Rd→Option (List Pm×Rd)
 | 0,_,_=>none
 | n+1,l,r=>
  if r.good then(r.take [114,101,102]).bind fun q=>(q.2.name (decide ((l.length:Int)<8))).bind fun x=>(push 25 l ⟨x.1,q.1⟩).bind fun l=>(x.2.take [44]).bind fun c=>
   if !c.1 then some (l,c.2)else Rd.params n l c.2
  else some (l,r)
def Rd.vars (m:Nat):Nat→List aK→Rd→Option (List aK×Rd)
 | 0,_,_=>none
 |n+1,l,r=>(r.take [118,97,114]).bind fun q=>if q.1 then(Rd.names m l 16 q.2).bind fun x=>Rd.vars m n x.1 x.2 else some (l,q.2)
def Rd.abX (m:Nat) (name:aK) (ps:List Pm) (r:Rd):Option (Pc×Rd):=
 (Rd.vars m m [] r).bind fun v=>(Rd.rows m m 1 true v.2).bind fun b=>some (⟨name,ps,v.1,b.1.1,b.1.2⟩,b.2)
def Rd.proc (m:Nat) (r:Rd):Option (Pc×Rd):=
 (r.name true).bind fun x=>(x.2.want [40]).bind fun r=>(r.other [41]).bind fun b=>
  if b then(Rd.params m [] r).bind fun q=>(q.2.want [41]).bind fun r=>(r.want [123]).bind fun r=>Rd.abX m x.1 q.1 r
  else(r.want [41]).bind fun r=>(r.want [123]).bind fun r=>Rd.abX m x.1 [] r
def Rd.globals (m:Nat):Nat→List aK→Rd→Option (List aK×Rd)
 | 0,_,_=>none
 |n+1,l,r=>(r.take [103,108,111,98,97,108]).bind fun q=>if q.1 then(Rd.names m l 16 q.2).bind fun x=>Rd.globals m n x.1 x.2 else some (l,q.2)
def Rd.ahp (r:Rd):Option Bool:=if r.good then r.is [112,114,111,99]else some false
def Rd.Wh (r:Rd):Option Bool:=if r.good then r.xK.bind fun t=>some (t.kind != 0)else some false
def Rd.procs (m:Nat):Nat→List Pc→Rd→Option (List Pc×Rd)
 | 0,_,_=>none
 | n+1,l,r=>r.ahp.bind fun b=>
  if b then
   if(l.length:Int)==16 then(r.bad 4).bind fun r=>some (l,r)
   else(Rd.proc m {r with i:=r.i+1}).bind fun x=>(push 113 l x.1).bind fun l=>Rd.procs m n l x.2
  else r.Wh.bind fun b=>if b then(r.bad 3).bind fun r=>some (l,r)else some (l,r)
def Rd.program (m:Nat) (r:Rd):Option (Pg×Rd):=(Rd.globals m m [] r).bind fun g=>(Rd.procs m m [] g.2).bind fun q=>some (⟨g.1,q.1⟩,q.2)
mutual
def Ex.beq:Ex→Ex→Bool
 |⟨op,n,name,kids⟩,⟨op',n',Tv,abY⟩=>if op != op' ||n != n' || !(name==Tv) ||(kids.length:Int) != (abY.length:Int)then false else Ex.rI kids abY
def Ex.rI:List Ex→List Ex→Bool
 | [],_=>true
 |_::_,[]=>true
 |x::l,y::l'=>if !Ex.beq x y then false else Ex.rI l l'
end
def Ar.aS:List Ar→Nat
 | []=>0
 |a::l=>1+a.x.size+Ar.aS l
mutual
def Sm.size:Sm→Nat
 |⟨_,_,labels,_,_,x,_,args,aO,aN⟩=>1+labels.length+x.size+Ar.aS args+Sm.aS aO+Sm.aS aN
def Sm.aS:List Sm→Nat
 | []=>0
 |s::l=>1+s.size+Sm.aS l
end
def Pc.size (f:Pc):Nat:=1+f.params.length+f.vars.length+f.fin.length+Sm.aS f.body
def Pc.aS:List Pc→Nat
 | []=>0
 |f::l=>1+f.size+Pc.aS l
def Pg.size (p:Pg):Nat:=1+p.globals.length+Pc.aS p.procs
mutual
def Sm.num (b:Bool) (n:Nat):Sm→Sm×Nat
 |⟨id,kind,labels,name,proc,x,has,args,aO,aN⟩=>
  (⟨if b then((n+1:Nat):Int)else id,kind,labels,name,proc,x,has,args,(Sm.fC b (n+1) aO).1,(Sm.fC b (Sm.fC b (n+1) aO).2 aN).1⟩,(Sm.fC b (Sm.fC b (n+1) aO).2 aN).2)
def Sm.fC (b:Bool) (n:Nat):List Sm→List Sm×Nat
 | []=>([],n)
 |s::l=>((Sm.num b n s).1::(Sm.fC b (Sm.num b n s).2 l).1,(Sm.fC b (Sm.num b n s).2 l).2)
end
def Pc.fC (n:Nat):List Pc→List Pc
 | []=> []
 |f::l=> {f with body:=(Sm.fC true n f.body).1}::Pc.fC (Sm.fC true n f.body).2 l
def Pg.number (p:Pg):Pg:= {p with procs:=Pc.fC 0 p.procs}
def Pg.aer (p:Pg):Option Pg:=if p.size<1073741824 then some p.number else none
mutual
theorem Sm.ahq (b:Bool) (n:Nat) : ∀ s:Sm,(Sm.num b n s).2≤n+s.size
 |⟨id,kind,labels,name,proc,x,has,args,aO,aN⟩=>by
  simp only[Sm.num,Sm.size]
  have h1:=Sm.uO b (n+1) aO
  have h2:=Sm.uO b (Sm.fC b (n+1) aO).2 aN
  omega
theorem Sm.uO (b:Bool) (n:Nat) : ∀ l:List Sm,(Sm.fC b n l).2≤n+Sm.aS l
 | []=>by simp[Sm.fC,Sm.aS]
 |s::l=>by
  simp only[Sm.fC,Sm.aS]
  have h1:=Sm.ahq b n s
  have h2:=Sm.uO b (Sm.num b n s).2 l
  omega
end
theorem Sm.dr : ∀ (l:List Sm),l.length≤Sm.aS l
 | []=>Nat.le_refl _
 |x::l=>by simp only[Sm.aS,List.length_cons];have:=Sm.dr l;omega
theorem Ar.dr : ∀ (l:List Ar),l.length≤Ar.aS l
 | []=>Nat.le_refl _
 |x::l=>by simp only[Ar.aS,List.length_cons];have:=Ar.dr l;omega
theorem Pc.dr : ∀ (l:List Pc),l.length≤Pc.aS l
 | []=>Nat.le_refl _
 |x::l=>by simp only[Pc.aS,List.length_cons];have:=Pc.dr l;omega
theorem Ar.cu {x:Ar} : ∀ {l:List Ar},x∈l→x.x.size<Ar.aS l
 |y::l,h=>by
  simp only[Ar.aS]
  rcases List.mem_cons.1 h with rfl|h
  ·omega
  ·have:=Ar.cu h;omega
theorem Sm.cu {x:Sm} : ∀ {l:List Sm},x∈l→x.size<Sm.aS l
 |y::l,h=>by
  simp only[Sm.aS]
  rcases List.mem_cons.1 h with rfl|h
  ·omega
  ·have:=Sm.cu h;omega
theorem Pc.cu {x:Pc} : ∀ {l:List Pc},x∈l→x.size<Pc.aS l
 |y::l,h=>by
  simp only[Pc.aS]
  rcases List.mem_cons.1 h with rfl|h
  ·omega
  ·have:=Pc.cu h;omega
mutual
def Sm.kE:Sm→Nat
 |⟨_,_,_,_,_,_,_,_,aO,aN⟩=>1+Sm.jJ aO+Sm.jJ aN
def Sm.jJ:List Sm→Nat
 | []=>0
 |s::l=>s.kE+Sm.jJ l
end
structure Im where
 s:Sm
 proc:Int
 up:Int
 next:Int
 loop:Int
mutual
def Im.one (proc up next loop:Int) (out:List Im):Sm→List Im
 | ⟨id,kind,labels,name,pc,x,has,args,aO,aN⟩=>
  Im.rows proc ((out.length:Int)+1) (if kind==6 then(out.length:Int)+1 else next) (if kind==6 then(out.length:Int)+1 else loop)
   (Im.rows proc ((out.length:Int)+1) (if kind==6 then(out.length:Int)+1 else next) (if kind==6 then(out.length:Int)+1 else loop) (out++ [⟨⟨id,kind,labels,name,pc,x,has,args,aO,aN⟩,proc,up,next,loop⟩]) aO) aN
def Im.rows (proc up next loop:Int) (out:List Im):List Sm→List Im
 | []=>out
 |s::l=>Im.rows proc up next loop (Im.one proc up (if l.length=0 then next else(out.length:Int)+1+(s.kE:Int)) loop out s) l
end
theorem Im.ahr (proc up next loop:Int) (out:List Im) (s:Sm):Im.one proc up next loop out s =
 Im.rows proc ((out.length:Int)+1) (if s.kind==6 then(out.length:Int)+1 else next) (if s.kind==6 then(out.length:Int)+1 else loop)
  (Im.rows proc ((out.length:Int)+1) (if s.kind==6 then(out.length:Int)+1 else next) (if s.kind==6 then(out.length:Int)+1 else loop) (out++ [⟨s,proc,up,next,loop⟩]) s.aO) s.aN:=by
 cases s;simp only[Im.one]
mutual
theorem aes (proc up next loop:Int) (out:List Im) : ∀ s:Sm,(Im.one proc up next loop out s).length=out.length+s.kE
 |⟨id,kind,labels,name,pc,x,has,args,aO,aN⟩=>by
  simp only[Im.one,Sm.kE]
  rw[iQ,iQ]
  simp only[List.length_append,List.length_cons,List.length_nil];omega
theorem iQ (proc up next loop:Int) (out:List Im) : ∀ l:List Sm,(Im.rows proc up next loop out l).length=out.length+Sm.jJ l
 | []=>rfl
 |s::l=>by
  simp only[Im.rows,Sm.jJ]
  rw[iQ,aes];omega
end
mutual
theorem F7 : ∀ s:Sm,s.kE≤s.size
 |⟨_,_,labels,_,_,x,_,args,aO,aN⟩=>by
  have:=pz aO;have:=pz aN
  simp only[Sm.kE,Sm.size];omega
theorem pz : ∀ l:List Sm,Sm.jJ l≤Sm.aS l
 | []=>Nat.le_refl _
 |s::l=>by
  have:=F7 s;have:=pz l
  simp only[Sm.jJ,Sm.aS];omega
end
structure Sh where
 L:List Im
 lo:List Int
 hi:List Int
def Sh.go (i:Nat) (h:Sh):List Pc→Sh
 | []=>h
 |f::l=>Sh.go (i+1) ⟨Im.rows i 0 (-1) 0 h.L f.body,h.lo++ [(h.L.length:Int)+1],h.hi++ [((Im.rows i 0 (-1) 0 h.L f.body).length:Int)+1]⟩ l
def Pg.bb (p:Pg):Sh:=Sh.go 0 ⟨[],[],[]⟩ p.procs
def aet:Nat:=3
def abZ:Nat:=4
def ab0:Nat:=5
def ZH:Nat:=6
def ab1:Nat:=7
def ab2:Nat:=8
def aeu:Nat:=9
def ab3:Nat:=10
def ab4:Nat:=11
def xL:Nat:=12
def ab5:Nat:=13
def ZI:Nat:=14
def zS:Nat:=15
def zT:Nat:=16
def xM:Nat:=17
def aj6:Nat:=18
def afw:Nat:=19
def rS:Nat:=20
def wj:Nat:=21
def sf:Nat:=22
def afx:Nat:=23
def ab6:Nat:=24
def wk:Nat:=25
def alu:Nat:=26
def zU:Nat:=27
def oN:Nat:=28
def oO:Nat:=29
def aj7:Nat:=30
def ahs:Nat:=31
def zV:Nat:=32
def w5:Nat:=33
def mV:Nat:=34
def tw:Nat:=35
def rh:Nat:=36
def afy:Nat:=37
def zW:Nat:=38
def zX:Nat:=39
def kS:Nat:=40
def iB:Nat:=41
def l9:Nat:=42
def my:Nat:=43
def kg:Nat:=44
def jv:Nat:=45
def qJ:Nat:=46
def qi:Nat:=47
def sB:Nat:=48
def qj:Nat:=49
def aht:Nat:=50
def Qh:Nat:=51
def Tw:Nat:=52
def zY:Nat:=53
def zZ:Nat:=54
def rT:Nat:=55
def ZJ:Nat:=56
def ahu:Nat:=57
def ZK:Nat:=58
def rU:Nat:=59
def BK:Nat:=60
def wo:Nat:=61
def BL:Nat:=62
def iX:Nat:=63
def oP:Nat:=64
def pK:Nat:=65
def lI:Nat:=66
def K7:Nat:=67
def tx:Nat:=68
def mJ:Nat:=69
def w6:Nat:=70
def lj:Nat:=71
def lk:Nat:=72
def xN:Nat:=73
def qK:Nat:=74
def iy:Nat:=75
def nw:Nat:=76
def jF:Nat:=77
def ld:Nat:=78
def fy:Nat:=79
def qq:Nat:=80
def rV:Nat:=81
def mh:Nat:=82
def alv:Nat:=83
def ahv:Nat:=84
def vm:Nat:=85
def afz:Nat:=86
def UM:Nat:=87
def Qi:Nat:=88
def ahw:Nat:=89
def afA:Nat:=90
def Tx:Nat:=91
def Ty:Nat:=92
def Qj:Nat:=93
def Wi:Nat:=94
def nK:Nat:=95
def sg:Nat:=96
def xO:Nat:=97
def wq:Nat:=98
def z6:Nat:=99
def ab7:Nat:=100
def tz:Nat:=101
def kF:Nat:=102
def ll:Nat:=103
def tA:Nat:=104
def DN:Nat:=105
def BM:Nat:=106
def wu:Nat:=107
def od:Nat:=108
def lS:Nat:=109
def vn:Nat:=110
def ig:Nat:=111
def yV:Nat:=112
def oQ:Nat:=113
def iY:Nat:=114
def cT:Nat:=115
def ahx:Nat:=116
def ahy:Nat:=117
def ahz:Nat:=118
def ab8:Nat:=119
def oe:Nat:=120
def UN:Nat:=121
def aev:Nat:=122
def ahA:Nat:=123
def ahB:Nat:=124
def alw:Nat:=125
def alx:Nat:=126
def Tz:Nat:=127
def pZ:Nat:=128
def ij:Nat:=129
def qs:Nat:=130
def sh:Nat:=131
def xP:Nat:=132
def tB:Nat:=133
def rW:Nat:=134
def xQ:Nat:=135
def tC:Nat:=136
def uP:Nat:=137
def oR:Nat:=138
def pL:Nat:=139
def kG:Nat:=140
def z7:Nat:=141
def qL:Nat:=142
def tD:Nat:=143
def wv:Nat:=144
def mK:Nat:=145
def qM:Nat:=146
def aly:Nat:=147
def ahC:Nat:=148
def ahD:Nat:=149
def ahE:Nat:=150
def afB:Nat:=151
def aj8:Nat:=152
def aj9:Nat:=153
def anZ:Nat:=154
def ab9:Nat:=155
def afC:Nat:=156
def afD:Nat:=157
def ahF:Nat:=158
def aka:Nat:=159
def afE:Nat:=160
def ahG:Nat:=161
def alz:Nat:=162
def alA:Nat:=163
def aca:Nat:=164
def aew:Nat:=165
def ahH:Nat:=166
def mz:Nat:=167
def tF:Nat:=168
def xR:Nat:=169
def xS:Nat:=170
def wx:Nat:=171
def z8:Nat:=172
def kH:Nat:=173
def kZ:Nat:=174
def Aa:Nat:=175
def BN:Nat:=176
def tG:Nat:=177
def BO:Nat:=178
def ahI:Nat:=179
def akb:Nat:=180
def alB:Nat:=181
def ahJ:Nat:=182
def aex:Nat:=183
def alC:Nat:=184
def akc:Nat:=185
def alD:Nat:=186
def akd:Nat:=187
def ake:Nat:=188
def tH:Nat:=189
def iZ:Nat:=190
def qt:Nat:=191
def wy:Nat:=192
def Hz:Nat:=193
def acb:Nat:=194
def kI:Nat:=195
def wz:Nat:=196
def uQ:Nat:=197
def ahK:Nat:=198
def ahL:Nat:=199
def akf:Nat:=200
def aey:Nat:=201
def akg:Nat:=202
def alE:Nat:=203
def PA:Nat:=204
def afF:Nat:=205
def afG:Nat:=206
def jO:Nat:=207
def DO:Nat:=208
def GV:Nat:=209
def DP:Nat:=210
def Fe:Nat:=211
def EN:Nat:=212
def Aq:Nat:=213
def X4:Nat:=214
def Da:Nat:=215
def F8:Nat:=216
def X5:Nat:=217
def X6:Nat:=218
def ahM:Nat:=219
def akh:Nat:=220
def aki:Nat:=221
def afH:Nat:=222
def ahN:Nat:=223
def GX:Nat:=224
def OS:Nat:=225
def PB:Nat:=226
def Db:Nat:=227
def IU:Nat:=228
def Wj:Nat:=229
def IV:Nat:=230
abbrev AI.o (t:Nat) (a:AO):AI:= .op (some t) none a
abbrev AI.g (t c:Nat) (b:Bool) (a:AO):AI:= .op (some t) (some (c,b)) a
abbrev AI.c (t f:Nat) (l:List X):AI:= .call (some t) none f l
abbrev AI.d (t c:Nat) (b:Bool) (f:Nat) (l:List X):AI:= .call (some t) (some (c,b)) f l
abbrev AI.m (t:Nat) (x:X):AI:= .op (some t) none (.mv x)
abbrev bB:X:= .s 0
abbrev bq:X:= .s 1
abbrev du:X:= .s 2
abbrev cz:X:= .s 3
abbrev eZ:X:= .s 4
abbrev bV:X:= .s 5
abbrev dC:X:= .s 6
abbrev cR:X:= .s 7
abbrev cD:X:= .s 8
abbrev dh:X:= .s 9
abbrev bR:X:= .s 10
abbrev cG:X:= .s 11
abbrev cJ:X:= .s 12
abbrev db:X:= .s 13
abbrev cL:X:= .s 14
abbrev dq:X:= .s 15
abbrev dg:X:= .s 16
abbrev dE:X:= .s 17
abbrev dB:X:= .s 18
abbrev dX:X:= .s 19
abbrev ez:X:= .s 20
abbrev dY:X:= .s 21
abbrev eA:X:= .s 22
abbrev eC:X:= .s 23
abbrev eR:X:= .s 24
abbrev e9:X:= .s 25
abbrev fv:X:= .s 26
abbrev fG:X:= .s 27
abbrev fZ:X:= .s 28
abbrev gf:X:= .s 29
abbrev gn:X:= .s 30
abbrev gF:X:= .s 31
abbrev gU:X:= .s 32
abbrev gM:X:= .s 33
abbrev iC:X:= .s 34
abbrev gV:X:= .s 35
abbrev iD:X:= .s 36
abbrev jc:X:= .s 37
abbrev jw:X:= .s 38
abbrev jq:X:= .s 39
abbrev jY:X:= .s 40
abbrev jZ:X:= .s 41
abbrev kJ:X:= .s 42
abbrev kq:X:= .s 43
abbrev kK:X:= .s 44
abbrev lX:X:= .s 45
abbrev lY:X:= .s 46
abbrev nj:X:= .s 47
abbrev lZ:X:= .s 48
abbrev l5:X:= .s 49
abbrev mA:X:= .s 50
abbrev lJ:X:= .s 51
abbrev lK:X:= .s 52
abbrev mB:X:= .s 53
abbrev nn:X:= .s 54
abbrev nF:X:= .s 55
abbrev pM:X:= .s 56
abbrev qN:X:= .s 57
abbrev qk:X:= .s 58
abbrev og:X:= .s 59
abbrev rJ:X:= .s 60
abbrev tJ:X:= .s 61
abbrev sC:X:= .s 62
abbrev tL:X:= .s 63
abbrev tM:X:= .s 64
abbrev xT:X:= .s 65
abbrev Ab:X:= .s 66
abbrev Ac:X:= .s 67
abbrev xU:X:= .s 68
abbrev BP:X:= .s 69
abbrev BQ:X:= .s 70
abbrev F9:X:= .s 71
abbrev DQ:X:= .s 72
abbrev DR:X:= .s 73
abbrev Ga:X:= .s 74
abbrev Gb:X:= .s 75
abbrev DS:X:= .s 76
abbrev Gc:X:= .s 77
abbrev BR:X:= .s 78
abbrev Jd:X:= .s 79
abbrev Je:X:= .s 80
abbrev Jf:X:= .s 81
abbrev MW:X:= .s 82
abbrev MX:X:= .s 83
abbrev MY:X:= .s 84
abbrev MZ:X:= .s 85
abbrev M3:X:= .s 86
abbrev M4:X:= .s 87
abbrev M5:X:= .s 88
abbrev Gd:X:= .s 89
abbrev Jg:X:= .s 90
abbrev M6:X:= .s 91
abbrev TA:X:= .s 92
abbrev ZL:X:= .s 93
abbrev ZM:X:= .s 94
abbrev ZN:X:= .s 95
abbrev ahO:X:= .s 96
abbrev ahP:X:= .s 97
abbrev ahQ:X:= .s 98
abbrev ahR:X:= .s 99
abbrev ace:X:= .s 100
abbrev acf:X:= .s 101
abbrev acg:X:= .s 102
abbrev ach:X:= .s 103
abbrev aci:X:= .s 104
abbrev acj:X:= .s 105
abbrev ack:X:= .s 106
abbrev acm:X:= .s 107
abbrev aco:X:= .s 108
abbrev alG:X:= .s 109
abbrev acp:X:= .s 110
abbrev acq:X:= .s 111
abbrev TB:X:= .s 112
abbrev acr:X:= .s 113
abbrev acs:X:= .s 114
abbrev acu:X:= .s 115
abbrev acv:X:= .s 116
abbrev acw:X:= .s 117
abbrev acx:X:= .s 118
abbrev acy:X:= .s 119
abbrev acz:X:= .s 120
abbrev acA:X:= .s 121
abbrev acB:X:= .s 122
abbrev acC:X:= .s 123
abbrev acD:X:= .s 124
abbrev acE:X:= .s 125
abbrev alH:X:= .s 126
abbrev acF:X:= .s 127
abbrev HA:X:= .s 128
abbrev acG:X:= .s 129
abbrev acH:X:= .s 130
abbrev alI:X:= .s 131
abbrev alJ:X:= .s 132
abbrev alK:X:= .s 133
abbrev alL:X:= .s 134
abbrev alM:X:= .s 135
abbrev alN:X:= .s 136
abbrev alO:X:= .s 137
abbrev alP:X:= .s 138
abbrev alQ:X:= .s 139
abbrev alR:X:= .s 140
abbrev alS:X:= .s 141
abbrev alT:X:= .s 142
abbrev alU:X:= .s 143
abbrev alV:X:= .s 144
abbrev alW:X:= .s 145
abbrev alX:X:= .s 146
abbrev alY:X:= .s 147
abbrev alZ:X:= .s 148
abbrev al0:X:= .s 149
abbrev al1:X:= .s 150
abbrev al2:X:= .s 151
abbrev al3:X:= .s 152
abbrev al4:X:= .s 153
abbrev al5:X:= .s 154
abbrev al6:X:= .s 155
abbrev al7:X:= .s 156
abbrev al8:X:= .s 157
abbrev al9:X:= .s 158
abbrev ama:X:= .s 159
abbrev amb:X:= .s 160
abbrev amc:X:= .s 161
abbrev amd:X:= .s 162
abbrev ame:X:= .s 163
abbrev amf:X:= .s 164
abbrev amg:X:= .s 165
abbrev amh:X:= .s 166
abbrev ami:X:= .s 167
abbrev amj:X:= .s 168
abbrev amk:X:= .s 169
abbrev aml:X:= .s 170
abbrev amm:X:= .s 171
abbrev amn:X:= .s 172
abbrev amo:X:= .s 173
abbrev amp:X:= .s 174
abbrev amq:X:= .s 175
abbrev Q04:AC:= .cond cJ (.seq (.run [.o 8 (.mv (.k (.bool false)))]) .ret) .skip
abbrev Q09:AC:= .cond dq (.seq (.run [.o 8 (.mv (.k (.bool true)))]) .ret) .skip
abbrev Q0E:AC:= .cond ez (.seq (.run [.o 8 (.mv (.k (.bool true)))]) .ret) .skip
abbrev Q0K:AC:= .cond gM (.seq (.run [.o 8 (.mv (.k (.bool true)))]) .ret) .skip
abbrev Q0N:AC:= .par [.o 37 (.load bR true 2), .c 38 rh [jc], .o 39 (.un .not jw), .m 40 jq, .g 41 40 false (.load bR true 2), .d 42 40 false rS [jZ], .g 43 40 false (.mv kJ), .g 44 43 true (.load eZ true 2), .g 45 43 true (.mv bq), .g 46 43 true (.mv du), .d 47 43 true sf [kK,lX,lY], .g 48 43 true (.load bR true 2), .g 49 43 true (.mv bq), .g 50 43 true (.mv du), .d 51 43 true sf [lZ,l5,mA], .d 52 43 true wk [nj,lJ], .g 53 40 false (.pick kq lK (.k (.bool false))), .o 54 (.pick jY (.k (.bool true)) mB), .m 8 nn] [(0,0),(1,0),(2,0),(3,0),(4,0),(5,0),(6,0),(7,0),(8,0),(9,0),(10,0),(11,1),(12,0),(13,0),(14,0),(15,0),(16,0),(17,0),(18,0)]
abbrev Q0Q:AC:= .seq (.seq (.run [.m 25 dh, .o 26 (.bin .eql e9 (.k (.int .i64 0))), .m 27 fv, .g 28 27 false (.load eZ true 2), .g 29 27 false (.mv dh), .d 30 27 false zU [fZ,gf], .g 31 27 false (.De gn 11 false 1), .d 32 27 false mV [gF], .o 33 (.pick fG (.k (.bool true)) gU)]) Q0K) (.seq (.run [.o 34 (.load eZ true 2), .m 35 dh, .c 36 tw [iC,gV], .o 10 (.alloc [(.slice .full 0 []),(.slice .full 0 [])]), .op none none (.store bR iD 2)]) (.seq Q0N .ret))
abbrev Q0T:AC:= .seq (.seq (.run [.o 13 (.load eZ true 2), .c 14 zT [db], .o 15 (.un .not cL)]) Q09) (.seq (.seq (.run [.o 16 (.load eZ true 2), .m 17 bq, .m 18 du, .c 19 wj [dg,dE,dB], .o 20 (.un .not dX)]) Q0E) (.seq (.run [.o 21 (.load eZ true 2), .c 22 w5 [dY,(.k (.int .i64 6))], .m 23 cz, .c 24 zV [eA,eC], .m 9 eR]) Q0Q))
abbrev Q0V:AC:= .seq (.run [.o 4 (.box bB), .o 8 (.mv (.k (.bool false)))]) (.seq (.seq (.run [.c 11 zS [], .o 12 (.un .not cG)]) Q04) Q0T)
abbrev Q0Y:AC:= .run [.m 9 du, .o 10 (.bin .eql dh (.k (.int .i64 0))), .m 11 bR, .g 12 11 true (.av bq 0), .g 13 11 true (.load cJ false 1), .g 14 11 true (.bin .eql db (.k (.int .i64 1))), .o 15 (.pick cG cL (.k (.bool false))), .m 16 dq, .g 17 16 true (.av bq 1), .g 18 16 true (.load dE false 1), .g 19 16 true (.bin .eql dB (.k (.int .i64 7))), .o 20 (.pick dg dX (.k (.bool false))), .m 21 ez, .g 22 21 true (.av bq 3), .g 23 21 true (.load eA false 1),(.g 24 21 true (.dm [(.int .i64 0)] 1 2 [(0,(.k (.int .i64 5))),(1,(.k (.int .i64 5)))])), .d 25 21 true oN [eC,eR], .o 26 (.pick dY e9 (.k (.bool false))), .m 27 fv, .g 28 27 true (.av bq 4), .g 29 27 true (.load fZ false 1), .g 30 27 true (.len gf), .g 31 27 true (.bin .eql gn (.k (.int .i64 2))), .o 32 (.pick fG gF (.k (.bool false))), .m 33 gU, .g 34 33 true (.av bq 4), .g 35 33 true (.load iC false 1), .g 36 33 true (.bZ gV (.k (.int .i64 0)) 2), .g 37 33 true (.av iD 0), .g 38 33 true (.load jc false 1), .g 39 33 true (.bin .eql jw (.k (.int .i64 2))), .o 40 (.pick gM jq (.k (.bool false))), .m 41 jY, .g 42 41 true (.av bq 4), .g 43 41 true (.load kJ false 1), .g 44 41 true (.bZ kq (.k (.int .i64 1)) 2), .g 45 41 true (.av kK 1), .g 46 41 true (.load lX false 1),(.g 47 41 true (.dm [(.int .i64 0)] 1 1 [(0,(.k (.int .i64 5)))])), .d 48 41 true oN [lY,nj], .o 49 (.pick jZ lZ (.k (.bool false))), .m 50 l5, .g 51 50 true (.load bq true 5), .d 52 50 true zW [lJ], .g 53 50 true (.sX .real lK lK),(.g 54 50 true (.sX .eq mB (.k (.val (.float .f64 4619567317775286272))))), .o 55 (.pick mA nn (.k (.bool false))), .m 0 nF]
abbrev Q10:AC:= .seq (.run [.c 4 zX [],(.o 5 (.dm [(.int .i64 0)] 1 2 [(0,(.k (.int .i64 5))),(1,(.k (.int .i64 2)))])),(.c 6 xM [eZ,(.k (.slice .full 0 [])),(.k (.int .i64 50)),bV]), .m 3 dC, .o 7 (.ext cz 0), .o 8 (.ext cz 1), .o 1 (.alloc [(.int .i64 0),(.int .i64 0),(.int .i64 0),(.slice .full 0 []),(.slice .full 0 [])]), .op none none (.store bq cR 5), .m 2 cD]) (.seq Q0Y .ret)
abbrev Q11:AC:= .seq (.run [.o 0 (.mv (.k (.bool false)))]) Q10
abbrev Q19:AC:= .par [.o 26 (.av bV 4), .o 27 (.load fv false 1), .o 28 (.av bV 2), .o 29 (.load fZ false 1), .o 30 (.av bV 0), .o 31 (.load gn false 1), .m 32 cz, .c 33 iB [gF,gU], .c 34 kS [gf,gM], .c 35 kS [fG,iC], .m 3 gV] [(4,0),(5,0),(6,0),(7,0),(2,0),(3,1),(8,0),(0,0),(1,2),(9,0),(10,0)]
abbrev Q1I:AC:= .seq (.seq (.run [.m 36 dC, .o 37 (.av bV 1), .o 38 (.load jc false 1), .o 39 (.len jw), .o 40 (.bin .lss iD jq), .m 41 jY, .g 42 41 true (.mv cz), .g 43 41 true (.bin .leq kJ (.k (.int .i64 20000))), .o 44 (.pick jZ kq (.k (.bool false)))]) (.cond kK .skip (.exit 2))) (.seq (.block 3 (.run [.o 47 (.av bV 1), .o 48 (.load nj false 1), .m 49 dC, .o 50 (.bZ lZ l5 2), .o 51 (.av mA 0), .o 52 (.load lJ false 1), .m 53 cz, .c 54 iB [lK,mB], .m 3 nn])) (.run [.m 45 dC, .o 46 (.bin .add lX (.k (.int .i64 1))), .m 6 lY]))
abbrev Q1N:AC:= .seq (.seq (.run [.o 6 (.mv (.k (.int .i64 0)))]) (.block 2 (.loop Q1I))) (.run [.o 55 (.av bV 3), .o 56 (.load nF false 1), .m 57 cz, .c 58 l9 [pM,qN], .m 3 qk])
abbrev Q1S:AC:= .seq (.block 1 (.seq (.run [.o 21 (.av bq 1), .o 22 (.load dY false 1), .m 23 eZ, .o 24 (.bZ eA eC 5), .o 25 (.load eR true 5), .o 5 (.alloc [(.str []),(.slice .full 0 []),(.slice .full 0 []),(.slice .full 0 []),(.slice .full 0 [])]), .op none none (.store bV e9 5)]) (.seq Q19 Q1N))) (.run [.m 19 eZ, .o 20 (.bin .add dX (.k (.int .i64 1))), .m 4 ez])
abbrev Q1T:AC:= .seq (.seq (.run [.m 10 eZ, .o 11 (.av bq 1), .o 12 (.load cG false 1), .o 13 (.len cJ), .o 14 (.bin .lss bR db), .m 15 cL, .g 16 15 true (.mv cz), .g 17 15 true (.bin .leq dg (.k (.int .i64 20000))), .o 18 (.pick dq dE (.k (.bool false)))]) (.cond dB .skip (.exit 0))) Q1S
abbrev Q1Z:AC:= .seq (.seq (.run [.o 4 (.mv (.k (.int .i64 0)))]) (.block 0 (.loop Q1T))) (.seq (.run [.m 59 cz, .o 60 (.bin .leq og (.k (.int .i64 20000))), .m 2 rJ]) .ret)
abbrev Q21:AC:= .seq (.run [.o 1 (.box bB), .o 2 (.mv (.k (.bool false)))]) (.seq (.run [.o 7 (.av bq 0), .o 8 (.load cR false 1), .c 9 kS [cD,(.k (.int .i64 0))], .m 3 dh]) Q1Z)
abbrev Q26:AC:= .cond eR (.seq (.run [.o 25 (.build [(.int .i64 0),(.int .i64 0),(.int .i64 0),(.slice .full 0 []),(.slice .full 0 [])] []), .op none none (.store cD e9 5), .o 9 (.mv (.k (.int .i64 1)))]) .ret) .skip
abbrev Q2G:AC:= .seq (.cond iD .skip (.exit 0)) (.seq (.block 1 (.run [.m 37 bR, .m 38 bR, .o 39 (.cm jw), .o 40 (.av jq 1), .o 41 (.load jY false 1), .o 42 (.alloc [(.int .i64 0)]), .o 43 (.dm [.eY] 1 1 [(0,kJ)]), .o 44 (.app 1 8 jZ kq), .o 45 (.cm jc), .o 46 (.av lX 1), .op none none (.store lY kK 1)])) (.run [.o 47 (.bin .add gV (.k (.int .i64 1))), .m 35 nj]))
abbrev Q2H:AC:= .seq (.run [.o 36 (.bin .lss gV iC)]) Q2G
abbrev Q2R:AC:= .cond pM (.seq (.run [.o 12 (.mv (.k (.int .i64 0)))]) (.goto 0)) .skip
abbrev Q2S:AC:= .seq (.run [.m 55 db,(.o 56 (.bin .eql nF (.k (.int .i64 (-1)))))]) Q2R
abbrev Q2W:AC:= .cond tL (.seq (.run [.m 64 bR, .o 65 (.cm tM), .o 66 (.av xT 6), .o 67 (.av Ab 0), .op none none (.store Ac (.k (.int .i64 2)) 1)]) (.goto 2)) .skip
abbrev Q38:AC:= .seq (.run [.m 102 bR, .o 103 (.av cG 0), .o 104 (.load ach true 13), .c 105 qi [acg,aci], .m 12 acj]) (.seq (.run [.m 106 bR, .o 107 (.cm ack), .o 108 (.av acm 6), .o 109 (.av aco 0), .o 110 (.load alG false 1), .o 111 (.bin .eql acp (.k (.int .i64 0)))]) (.cond acq (.goto 0) .skip))
abbrev Q3C:AC:= .cond ZM (.run [.m 96 bR, .o 97 (.av cG 0), .o 98 (.load ahP true 13), .c 99 qJ [ahO,ahQ], .m 13 ahR]) (.seq (.run [.o 101 (.bin .eql Jg (.k (.int .i64 9))), .m 100 acf]) (.cond ace Q38 (.run [.m 91 bR, .o 92 (.load cG true 17), .c 93 sB [M6,TA], .m 13 ZL])))
abbrev Q3E:AC:= .block 2 (.seq (.run [.o 95 (.bin .eql Jg (.k (.int .i64 4))), .m 94 ZN]) Q3C)
abbrev Q3O:AC:= .seq (.run [.m 127 bR, .o 128 (.cm acF), .o 129 (.av HA 6), .o 130 (.load acG true 5), .op none none (.store cD acH 5), .o 9 (.mv (.k (.int .i64 0)))]) .ret
abbrev Q3Q:AC:= .seq (.seq (.run [.m 121 bR, .o 122 (.cm acA), .o 123 (.av acB 6), .o 124 (.av acC 0), .o 125 (.load acD false 1), .o 126 (.bin .eql acE (.k (.int .i64 0)))]) (.cond alH (.goto 1) .skip)) (.seq (.label 2) Q3O)
abbrev Q3R:AC:= .seq (.run [.m 118 bR, .m 119 cJ, .c 120 qj [acx,acy], .m 13 acz]) Q3Q
abbrev Q3U:AC:= .seq (.seq (.run [.m 112 bR, .o 113 (.cm TB), .o 114 (.av acr 6), .o 115 (.av acs 0), .o 116 (.load acu false 1), .o 117 (.bin .eql acv (.k (.int .i64 0)))]) (.cond acw (.goto 1) .skip)) (.seq (.goto 2) (.seq (.label 0) Q3R))
abbrev Q3X:AC:= .seq (.run [.m 68 bR, .o 69 (.cm xU), .o 70 (.av BP 6), .o 71 (.av BQ 1), .o 72 (.load F9 false 1), .o 73 (.bin .add DQ (.k (.int .i64 1))), .o 74 (.cm xU), .o 75 (.av Ga 6), .o 76 (.av Gb 1), .op none none (.store DS DR 1)]) (.seq (.run [.m 77 bR, .o 78 (.cm Gc), .o 79 (.av BR 0), .o 80 (.load Jd false 1), .o 81 (.cm Je), .o 82 (.av Jf 2), .o 83 (.load MW false 1), .m 84 db, .o 85 (.bin .sub MY (.k (.int .i64 1))), .o 86 (.bZ MX MZ 17), .o 87 (.load M3 true 17), .op none none (.store cG M4 17)]) (.seq (.seq (.run [.o 88 (.av cG 0), .o 89 (.av M5 1), .o 90 (.load Gd false 1)]) Q3E) Q3U))
abbrev Q3Z:AC:= .seq Q2S (.seq (.seq (.run [.m 57 bR, .o 58 (.cm qN), .o 59 (.av qk 6), .o 60 (.av og 1), .o 61 (.load rJ false 1), .m 62 du, .o 63 (.bin .eql tJ sC)]) Q2W) Q3X)
abbrev Q42:AC:= .seq (.run [.o 12 (.mv (.k (.int .i64 0)))]) (.seq (.run [.m 48 bR, .m 49 bR, .o 50 (.cm l5), .o 51 (.av mA 0), .o 52 (.load lJ false 1),(.c 53 jv [lK,(.k (.str [109,97,105,110]))]),(.c 54 kg [lZ,mB,(.k (.slice .full 0 [])),(.k (.int .i64 0))]), .m 13 nn]) (.seq (.label 1) Q3Z))
abbrev Q43:AC:= .seq (.run [.o 11 (.alloc [(.int .i64 0),(.int .i64 0),(.slice .full 0 []),(.str []),(.str []),(.int .i64 0),(.int .i64 0),(.str []),(.slice .full 0 []),(.bool false),(.slice .full 0 []),(.slice .full 0 []),(.slice .full 0 []),(.int .i64 0),(.int .i64 0),(.int .i64 0),(.int .i64 0)])]) Q42
abbrev Q44:AC:= .seq (.seq (.run [.o 32 (.av eZ 0), .o 33 (.load gU false 1), .o 34 (.len gM), .o 35 (.mv (.k (.int .i64 0)))]) (.block 0 (.loop Q2H))) Q43
abbrev Q46:AC:= .seq (.seq (.run [.m 14 du, .o 15 (.bin .lss cL (.k (.int .i64 0))), .m 16 dq, .g 17 16 false (.mv du), .g 18 16 false (.bin .gtr dE (.k (.int .i64 1000000))), .o 19 (.pick dg (.k (.bool true)) dB), .m 20 dX, .g 21 20 false (.load eZ true 2), .d 22 20 false rS [dY], .g 23 20 false (.un .not eA), .o 24 (.pick ez (.k (.bool true)) eC)]) Q26) (.seq (.run [.o 26 (.load eZ true 2), .c 27 my [fv], .m 28 bq, .m 29 cz, .o 30 (.build [.eY,(.slice .full 0 []),(.slice .full 0 []),(.slice .full 0 []),(.slice .full 0 []),(.slice .full 0 []),(.int .i64 0),(.int .i64 0),(.int .i64 0),(.slice .full 0 []),(.slice .full 0 [])] [(0,(1,fG)),(2,(1,fZ)),(3,(1,gf))]), .o 31 (.box gn), .m 10 gF]) Q44)
abbrev Q47:AC:= .scope Q46
abbrev Q48:AC:= .seq (.run [.o 4 (.box bB), .o 8 (.alloc [(.int .i64 0),(.int .i64 0),(.int .i64 0),(.slice .full 0 []),(.slice .full 0 [])]), .o 9 (.mv (.k (.int .i64 0)))]) Q47
abbrev Q4C:AC:= .seq (.run [.o 1 (.box bB), .o 2 (.mv (.k (.bool false)))]) (.seq (.run [.o 3 (.load bq true 2), .c 4 zY [cz], .o 5 (.De eZ 0 false 1), .o 6 (.bin .eql bV (.k (.int .i64 0))), .m 2 dC]) .ret)
abbrev Q4G:AC:= .seq (.run [.o 3 (.box bB), .o 6 (.mv (.k (.bool false)))]) (.seq (.run [.o 7 (.load cz true 2), .c 8 rS [cR], .m 9 cD, .g 10 9 true (.mv du), .g 11 9 true (.bin .geq bR (.k (.int .i64 0))), .o 12 (.pick dh cG (.k (.bool false))), .m 13 cJ, .g 14 13 true (.mv du), .g 15 13 true (.bin .leq cL (.k (.int .i64 400))), .o 16 (.pick db dq (.k (.bool false))), .m 17 dg, .g 18 17 true (.mv bq), .g 19 17 true (.len dB), .g 20 17 true (.bin .leq dX (.k (.int .i64 100))), .o 21 (.pick dE ez (.k (.bool false))), .m 6 dY]) .ret)
abbrev Q4I:AC:= .par [.o 10 (.load cz true 2), .m 11 bq, .m 12 du, .o 13 (.load cz true 2), .c 14 w5 [db,(.k (.int .i64 0))], .c 15 xM [bR,cG,cJ,cL], .m 9 dq, .o 16 (.ext dh 0), .o 17 (.ext dh 1), .o 7 (.alloc [(.int .i64 0),(.int .i64 0),(.int .i64 0),(.slice .full 0 []),(.slice .full 0 [])]), .op none none (.store cR dg 5), .m 8 dE] [(3,0),(4,0),(0,1),(1,0),(2,0),(5,0),(9,0),(6,0),(7,0),(10,0),(8,0),(11,0)]
abbrev Q4M:AC:= .seq (.run [.o 3 (.box bB), .o 6 (.alloc [(.int .i64 0),(.int .i64 0),(.int .i64 0),(.slice .full 0 []),(.slice .full 0 [])])]) (.seq Q4I (.seq (.run [.o 18 (.load cR true 5), .op none none (.store dC dB 5)]) .ret))
abbrev Q4O:AC:= .run [.o 5 (.av du 0), .o 6 (.load bV false 1), .o 7 (.av cz 0), .o 8 (.load cR false 1), .o 9 (.bin .eql dC cD), .m 10 dh, .g 11 10 true (.av du 1), .g 12 10 true (.load cG false 1), .g 13 10 true (.av cz 1), .g 14 10 true (.load db false 1), .g 15 10 true (.bin .eql cJ cL), .o 16 (.pick bR dq (.k (.bool false))), .m 17 dg, .g 18 17 true (.av du 2), .g 19 17 true (.load dB false 1), .g 20 17 true (.av cz 2), .g 21 17 true (.load ez false 1), .g 22 17 true (.bin .eql dX dY), .o 23 (.pick dE eA (.k (.bool false))), .m 24 eC, .g 25 24 true (.av du 3), .g 26 24 true (.load e9 false 1), .g 27 24 true (.av cz 3), .g 28 24 true (.load fG false 1), .d 29 24 true oN [fv,fZ], .o 30 (.pick eR gf (.k (.bool false))), .m 4 gn]
abbrev Q4Q:AC:= .seq (.run [.o 2 (.box bB), .o 3 (.box bq), .o 4 (.mv (.k (.bool false)))]) (.seq Q4O .ret)
abbrev Q4W:AC:= .seq (.run [.o 2 (.box bB), .o 4 (.alloc [(.int .i64 0),(.int .i64 0),(.slice .full 0 []),(.str []),(.str []),(.int .i64 0),(.int .i64 0),(.str []),(.slice .full 0 []),(.bool false),(.slice .full 0 []),(.slice .full 0 []),(.slice .full 0 [])])]) (.seq (.run [.o 9 (.load du true 2), .m 10 bq, .c 11 zZ [dh,bR], .m 8 cG, .o 12 (.ext cD 0), .o 13 (.ext cD 1), .o 14 (.ext cD 2), .o 5 (.alloc [(.int .i64 0),(.int .i64 0),(.slice .full 0 []),(.str []),(.str []),(.int .i64 0),(.int .i64 0),(.str []),(.slice .full 0 []),(.bool false),(.slice .full 0 []),(.slice .full 0 []),(.slice .full 0 []),(.int .i64 0),(.int .i64 0),(.bool false)]), .op none none (.store bV cJ 16), .m 6 db, .m 7 cL]) (.seq (.run [.o 15 (.av bV 0), .o 16 (.load dq true 13), .op none none (.store eZ dg 13)]) .ret))
abbrev Q51:AC:= .cond bR (.seq (.run [.o 4 (.mv (.k (.bool false)))]) .ret) .skip
abbrev Q57:AC:= .par [.m 16 bB, .m 17 bV, .o 18 (.bZ dg dE 1), .o 19 (.load dB false 1), .m 20 bq, .m 21 bV, .o 22 (.bZ ez dY 1), .o 23 (.load eA false 1), .o 24 (.bin .neq dX eC)] [(0,0),(1,0),(2,0),(3,0),(4,0),(5,0),(6,0),(7,0),(8,0)]
abbrev Q5A:AC:= .cond eR (.seq (.run [.o 4 (.mv (.k (.bool false)))]) .ret) .skip
abbrev Q5G:AC:= .seq (.cond cL .skip (.exit 0)) (.seq (.block 1 (.seq (.run [.m 15 db, .m 5 dq]) (.seq Q57 Q5A))) (.run [.o 25 (.bin .add db (.k (.int .i64 1))), .m 13 e9]))
abbrev Q5K:AC:= .seq (.run [.m 11 bB, .o 12 (.len cG), .o 13 (.mv (.k (.int .i64 0)))]) (.block 0 (.loop (.seq (.run [.o 14 (.bin .lss db cJ)]) Q5G)))
abbrev Q5N:AC:= .seq Q5K (.seq (.run [.o 4 (.mv (.k (.bool true)))]) .ret)
abbrev Q5P:AC:= .seq (.run [.o 4 (.mv (.k (.bool false)))]) (.seq (.seq (.run [.m 6 bB, .o 7 (.len dC), .m 8 bq, .o 9 (.len cD), .o 10 (.bin .neq cR dh)]) Q51) Q5N)
abbrev Q5T:AC:= .seq (.run [.o 1 (.box bB), .o 2 (.mv (.k (.bool false)))]) (.seq (.run [.o 3 (.load bq true 4), .c 4 rT [cz,(.k (.int .i64 20))], .m 2 eZ]) .ret)
abbrev Q5Y:AC:= .cond cR (.seq (.run [.o 4 (.mv (.k (.int .i64 0)))]) .ret) .skip
abbrev Q62:AC:= .seq (.seq (.run [.m 5 bB, .o 6 (.len bV), .o 7 (.bin .eql dC (.k (.int .i64 0)))]) Q5Y) (.seq (.run [.m 8 bB, .m 9 bq, .m 10 bB, .o 11 (.len bR), .c 12 BK [dh,cG], .o 13 (.bZ cD cJ 1), .o 14 (.load db false 1), .m 4 cL]) .ret)
abbrev Q63:AC:= .seq (.run [.o 4 (.mv (.k (.int .i64 0)))]) Q62
abbrev Q6E:AC:= .seq (.run [.o 13 (.bZ dh cG 16), .o 14 (.load db true 16), .o 7 (.alloc [(.int .i64 0),(.int .i64 0),(.slice .full 0 []),(.str []),(.str []),(.int .i64 0),(.int .i64 0),(.str []),(.slice .full 0 []),(.bool false),(.slice .full 0 []),(.slice .full 0 []),(.slice .full 0 []),(.int .i64 0),(.int .i64 0),(.bool false)]), .op none none (.store cR cL 16)]) (.seq (.run [.m 15 bq, .o 16 (.bin .eql dq (.k (.int .i64 0))), .m 17 dg, .g 18 17 false (.av cR 0), .g 19 17 false (.av dB 1), .g 20 17 false (.load dX false 1), .g 21 17 false (.mv bq), .g 22 17 false (.bin .eql ez dY), .o 23 (.pick dE (.k (.bool true)) eA)]) (.cond eC (.run [.m 24 bV, .o 25 (.av cR 0), .o 26 (.av e9 0), .o 27 (.load fv false 1), .o 28 (.dm [(.int .i64 0)] 1 1 [(0,fG)]), .o 29 (.app 1 8 eR fZ), .m 5 gf]) .skip))
abbrev Q6I:AC:= .seq (.cond cJ .skip (.exit 0)) (.seq (.block 1 Q6E) (.run [.o 30 (.bin .add cG (.k (.int .i64 1))), .m 11 gn]))
abbrev Q6M:AC:= .seq (.run [.o 8 (.load du true 2), .c 9 BL [cD], .o 10 (.len dh), .o 11 (.mv (.k (.int .i64 0)))]) (.block 0 (.loop (.seq (.run [.o 12 (.bin .lss cG bR)]) Q6I)))
abbrev Q6R:AC:= .seq (.run [.o 2 (.box bB), .o 4 (.mv (.k (.slice .full 0 [])))]) (.seq (.run [.o 5 (.mv (.k (.slice .full 0 [])))]) (.seq Q6M (.seq (.run [.m 31 bV, .m 4 gF]) .ret)))
abbrev Q6X:AC:= .run [.o 11 (.av eZ 1), .o 12 (.load cG false 1), .o 13 (.bin .eql cJ (.k (.int .i64 7))), .m 14 db, .g 15 14 false (.av eZ 1), .g 16 14 false (.load dq false 1), .g 17 14 false (.bin .eql dg (.k (.int .i64 8))), .o 18 (.pick cL (.k (.bool true)) dE), .m 19 dB, .g 20 19 false (.av eZ 1), .g 21 19 false (.load ez false 1), .g 22 19 false (.bin .eql dY (.k (.int .i64 10))), .o 23 (.pick dX (.k (.bool true)) eA), .m 24 eC, .g 25 24 false (.av eZ 2), .g 26 24 false (.load e9 false 1), .g 27 24 false (.len fv), .g 28 24 false (.bin .gtr fG (.k (.int .i64 0))), .o 29 (.pick eR (.k (.bool true)) fZ), .m 30 gf, .g 31 30 false (.av eZ 11), .g 32 30 false (.load gF false 1), .d 33 30 false mV [gU], .o 34 (.pick gn (.k (.bool true)) gM), .m 35 iC, .g 36 35 false (.av eZ 12), .g 37 35 false (.load iD false 1), .d 38 35 false mV [jc], .o 39 (.pick gV (.k (.bool true)) jw)]
abbrev Q70:AC:= .cond jq (.seq (.run [.o 2 (.mv (.k (.bool true)))]) .ret) .skip
abbrev Q75:AC:= .seq (.block 1 (.seq (.run [.o 9 (.bZ bV cR 13), .o 10 (.load dh true 13), .o 4 (.alloc [(.int .i64 0),(.int .i64 0),(.slice .full 0 []),(.str []),(.str []),(.int .i64 0),(.int .i64 0),(.str []),(.slice .full 0 []),(.bool false),(.slice .full 0 []),(.slice .full 0 []),(.slice .full 0 [])]), .op none none (.store eZ bR 13)]) (.seq Q6X Q70))) (.run [.o 40 (.bin .add cR (.k (.int .i64 1))), .m 7 jY])
abbrev Q79:AC:= .block 0 (.loop (.seq (.run [.o 8 (.bin .lss cR dC)]) (.seq (.cond cD .skip (.exit 0)) Q75)))
abbrev Q7D:AC:= .seq (.seq (.run [.m 5 bB, .o 6 (.len bV), .o 7 (.mv (.k (.int .i64 0)))]) Q79) (.seq (.run [.o 2 (.mv (.k (.bool false)))]) .ret)
abbrev Q7E:AC:= .seq (.run [.o 2 (.mv (.k (.bool false)))]) Q7D
abbrev Q7L:AC:= .par [.o 15 (.av bV 1), .o 16 (.load dq false 1), .m 17 dC, .o 18 (.av du 1), .o 19 (.load dB false 1), .m 20 dC, .o 21 (.bZ dX ez 5), .o 22 (.av dY 3), .o 23 (.load eA false 1), .m 24 bq, .c 25 iX [eC,eR], .o 26 (.bZ dg dE 5), .o 27 (.av fv 3), .op none none (.store fG e9 1)] [(3,0),(4,0),(5,0),(6,0),(7,0),(8,0),(9,0),(10,0),(0,0),(1,1),(2,0),(11,0),(12,0),(13,0)]
abbrev Q7Q:AC:= .seq (.cond db .skip (.exit 0)) (.seq (.block 1 (.seq (.run [.m 14 cJ, .m 6 cL]) Q7L)) (.run [.o 28 (.bin .add cJ (.k (.int .i64 1))), .m 12 fZ]))
abbrev Q7R:AC:= .seq (.run [.o 13 (.bin .lss cJ cG)]) Q7Q
abbrev Q7W:AC:= .seq (.run [.o 29 (.load bV true 2), .c 30 wo [gf], .op none none (.store eZ gn 2)]) .ret
abbrev Q7X:AC:= .seq (.seq (.run [.o 9 (.av bV 1), .o 10 (.load dh false 1), .o 11 (.len bR), .o 12 (.mv (.k (.int .i64 0)))]) (.block 0 (.loop Q7R))) Q7W
abbrev Q7Z:AC:= .seq (.run [.o 2 (.box bB), .o 4 (.alloc [(.slice .full 0 []),(.slice .full 0 [])])]) (.seq (.run [.o 7 (.load du true 2), .c 8 rU [cR], .o 5 (.alloc [(.slice .full 0 []),(.slice .full 0 [])]), .op none none (.store bV cD 2)]) Q7X)
abbrev Q84:AC:= .cond eC (.seq (.run [.o 2 (.mv (.k (.bool false)))]) .ret) .skip
abbrev Q8B:AC:= .run [.o 33 (.av bV 1), .o 34 (.load gM false 1), .o 35 (.len iC), .o 36 (.bin .gtr gV (.k (.int .i64 8))), .m 37 iD, .g 38 37 false (.av bV 2), .g 39 37 false (.load jw false 1), .g 40 37 false (.len jq), .g 41 37 false (.bin .gtr jY (.k (.int .i64 16))), .o 42 (.pick jc (.k (.bool true)) jZ), .m 43 kJ, .g 44 43 false (.av bV 0), .g 45 43 false (.load kK false 1), .d 46 43 false pK [lX], .g 47 43 false (.un .not lY), .o 48 (.pick kq (.k (.bool true)) nj), .m 49 lZ, .g 50 49 false (.av bV 2), .g 51 49 false (.load mA false 1), .d 52 49 false oP [lJ], .g 53 49 false (.un .not lK), .o 54 (.pick l5 (.k (.bool true)) mB), .m 55 nn, .g 56 55 false (.av bV 4), .g 57 55 false (.load pM false 1), .d 58 55 false oP [qN], .g 59 55 false (.un .not qk), .o 60 (.pick nF (.k (.bool true)) og)]
abbrev Q8E:AC:= .cond rJ (.seq (.run [.o 2 (.mv (.k (.bool false)))]) .ret) .skip
abbrev Q8N:AC:= .cond F9 (.seq (.run [.o 2 (.mv (.k (.bool false)))]) .ret) .skip
abbrev Q8S:AC:= .seq (.block 3 (.seq (.run [.o 66 (.bZ sC tM 2), .o 67 (.load Ab true 2), .o 7 (.alloc [(.str []),(.bool false)]), .op none none (.store cR Ac 2)]) (.seq (.run [.o 68 (.av cR 0), .o 69 (.load xU false 1), .c 70 pK [BP], .o 71 (.un .not BQ)]) Q8N))) (.run [.o 72 (.bin .add tM (.k (.int .i64 1))), .m 64 DQ])
abbrev Q8W:AC:= .block 2 (.loop (.seq (.run [.o 65 (.bin .lss tM tL)]) (.seq (.cond xT .skip (.exit 2)) Q8S)))
abbrev Q91:AC:= .cond Gc (.seq (.run [.o 2 (.mv (.k (.bool false)))]) .ret) .skip
abbrev Q93:AC:= .seq (.seq (.run [.o 61 (.av bV 1), .o 62 (.load tJ false 1), .o 63 (.len sC), .o 64 (.mv (.k (.int .i64 0)))]) Q8W) (.seq (.run [.m 73 cz, .o 74 (.av bV 3), .o 75 (.load Ga false 1), .c 76 lI [DR,Gb,(.k (.int .i64 1))], .o 77 (.un .not DS)]) Q91)
abbrev Q98:AC:= .seq (.block 1 (.seq (.run [.o 31 (.bZ fG gf 5), .o 32 (.load gF true 5), .o 5 (.alloc [(.str []),(.slice .full 0 []),(.slice .full 0 []),(.slice .full 0 []),(.slice .full 0 [])]), .op none none (.store bV gU 5)]) (.seq (.seq Q8B Q8E) Q93))) (.run [.o 78 (.bin .add gf (.k (.int .i64 1))), .m 29 BR])
abbrev Q9C:AC:= .block 0 (.loop (.seq (.run [.o 30 (.bin .lss gf fZ)]) (.seq (.cond gn .skip (.exit 0)) Q98)))
abbrev Q9G:AC:= .seq (.seq (.run [.o 26 (.av bq 1), .o 27 (.load fv false 1), .o 28 (.len fG), .o 29 (.mv (.k (.int .i64 0)))]) Q9C) (.seq (.run [.o 2 (.mv (.k (.bool true)))]) .ret)
abbrev Q9I:AC:= .seq (.seq (.run [.o 8 (.av bq 0), .o 9 (.load cD false 1), .o 10 (.len dh), .o 11 (.bin .gtr bR (.k (.int .i64 16))), .m 12 cG, .g 13 12 false (.av bq 1), .g 14 12 false (.load db false 1), .g 15 12 false (.len cL), .g 16 12 false (.bin .gtr dq (.k (.int .i64 16))), .o 17 (.pick cJ (.k (.bool true)) dg), .m 18 dE, .g 19 18 false (.av bq 0), .g 20 18 false (.load dX false 1), .d 21 18 false oP [ez], .g 22 18 false (.un .not dY), .o 23 (.pick dB (.k (.bool true)) eA)]) Q84) (.seq (.run [.o 24 (.build [(.int .i64 0)] []), .o 25 (.box eR), .m 3 e9]) Q9G)
abbrev Q9J:AC:= .seq (.run [.o 1 (.box bB), .o 2 (.mv (.k (.bool false)))]) Q9I
open Go.Proofs
theorem kh:Has Tryz.prog xL 55 [(8,none)] Q0V:=⟨Tryz.f12,by kernel_rfl,by kernel_rfl⟩
set_option maxRecDepth 20000 in
theorem K8 : Has Tryz.prog zS 56 [(0, none)] Q11 := ⟨Tryz.f15, by kernel_rfl, by kernel_rfl⟩
theorem K9:Has Tryz.prog zT 61 [(2,none)] Q21:=⟨Tryz.f16,by kernel_rfl,by kernel_rfl⟩
theorem w7:Has Tryz.prog xM 131 [(8,(some (true,5))),(9,none)] Q48:=⟨Tryz.f17,by kernel_rfl,by kernel_rfl⟩
theorem La:Has Tryz.prog rS 7 [(2,none)] Q4C:=⟨Tryz.f20,by kernel_rfl,by kernel_rfl⟩
theorem HC:Has Tryz.prog wj 22 [(6,none)] Q4G:=⟨Tryz.f21,by kernel_rfl,by kernel_rfl⟩
theorem HD:Has Tryz.prog sf 19 [(6,(some (true,5)))] Q4M:=⟨Tryz.f22,by kernel_rfl,by kernel_rfl⟩
theorem HE:Has Tryz.prog wk 31 [(4,none)] Q4Q:=⟨Tryz.f25,by kernel_rfl,by kernel_rfl⟩
theorem CM:Has Tryz.prog zU 17 [(4,(some (true,13)))] Q4W:=⟨Tryz.f27,by kernel_rfl,by kernel_rfl⟩
theorem xV:Has Tryz.prog oN 26 [(4,none)] Q5P:=⟨Tryz.f28,by kernel_rfl,by kernel_rfl⟩
theorem Ge:Has Tryz.prog oO 5 [(2,none)] Q5T:=⟨Tryz.f29,by kernel_rfl,by kernel_rfl⟩
theorem CN:Has Tryz.prog zV 15 [(4,none)] Q63:=⟨Tryz.f32,by kernel_rfl,by kernel_rfl⟩
theorem M7:Has Tryz.prog w5 32 [(4,none)] Q6R:=⟨Tryz.f33,by kernel_rfl,by kernel_rfl⟩
theorem Gf:Has Tryz.prog mV 41 [(2,none)] Q7E:=⟨Tryz.f34,by kernel_rfl,by kernel_rfl⟩
theorem Ff:Has Tryz.prog tw 31 [(4,(some (true,2)))] Q7Z:=⟨Tryz.f35,by kernel_rfl,by kernel_rfl⟩
theorem M8:Has Tryz.prog rh 79 [(2,none)] Q9J:=⟨Tryz.f36,by kernel_rfl,by kernel_rfl⟩
end Go.Abs
