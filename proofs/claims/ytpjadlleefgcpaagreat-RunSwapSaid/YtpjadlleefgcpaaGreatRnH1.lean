/-
  What is proved here: part 1 of the road to the claim (Frame, Frame2, Walk, Par, Par1, Par2, Par3, Step, Wp, Types, SelA, Lend, Sym, Frz, WpA, Mir, MirTree, Cnt, MirFlat, Nums, Codes0, Have0).
  No conditions.
-/
import Derived.Test.YtpjadlleefgcpaaGreatRnH0
import Derived.Attr
import Derived.Test.YtpjadlleefgcpaaGreatProg
import Derived.KernelRfl

set_option linter.unusedSimpArgs false
set_option linter.unusedVariables false
namespace Go.Abs
def Tag.ok (m:Nat):Tag→Bool
 | .tok t _=>decide (t<m)
 |_=>true
def Tag.dh (ts:List Nat):Tag→Tag
 | .tok t y=>match ts[t]? with|some t'=> .tok t' y|none=> .shared
 |g=>g
mutual
def D.ok (n m:Nat):D→Bool
 | .ptr o _=>decide (o<n)
 | .dI row _=>D.bJ n m row
 | .slice g _ rows=>g.ok m && D.gL n m rows
 | .agg cs=>D.bJ n m cs
 | .tuple ds=>D.bJ n m ds
 | .fF _ o=>decide (o<n)
 | .gw _ cs=>D.bJ n m cs
 | .gb o=>decide (o<n)
 | .eQ _ o _ _=>decide (o<n)
 | .fG o _ _=>decide (o<n)
 |_=>true
def D.bJ (n m:Nat):List D→Bool
 | []=>true
 |d::r=>D.ok n m d && D.bJ n m r
def D.gL (n m:Nat):List (List D)→Bool
 | []=>true
 |d::r=>D.bJ n m d && D.gL n m r
end
mutual
def D.dh (os ts:List Nat):D→D
 | .ptr o off=>match os[o]? with|some o'=> .ptr o' off|none=> .junk
 | .dI row off=> .dI (D.fk os ts row) off
 | .slice g z rows=> .slice (g.dh ts) z (D.ov os ts rows)
 | .agg cs=> .agg (D.fk os ts cs)
 | .tuple ds=> .tuple (D.fk os ts ds)
 | .junk=> .junk
 | .int k x=> .int k x
 | .bool b=> .bool b
 | .str l=> .str l
 | .ew=> .ew
 | .val v=> .val v
 | .fF T o=>match os[o]? with|some o'=> .fF T o'|none=> .junk
 | .gw f cs=> .gw f (D.fk os ts cs)
 | .gb o=>match os[o]? with|some o'=> .gb o'|none=> .junk
 | .eQ z o g len=>match os[o]? with|some o'=> .eQ z o' g len|none=> .junk
 | .fG o g off=>match os[o]? with|some o'=> .fG o' g off|none=> .junk
 | .eJ z=> .eJ z
def D.fk (os ts:List Nat):List D→List D
 | []=> []
 |d::r=>D.dh os ts d::D.fk os ts r
def D.ov (os ts:List Nat):List (List D)→List (List D)
 | []=> []
 |d::r=>D.fk os ts d::D.ov os ts r
end
theorem fZ (os ts:List Nat) : ∀ l,D.fk os ts l=l.map (D.dh os ts)
 | []=>by simp[D.fk]
 |d::r=>by simp[D.fk,fZ os ts r]
theorem Dh (os ts:List Nat) : ∀ l,D.ov os ts l=l.map (D.fk os ts)
 | []=>by simp[D.ov]
 |d::r=>by simp[D.ov,Dh os ts r]
theorem zf (n m:Nat) : ∀ l,D.bJ n m l=l.all (D.ok n m)
 | []=>by simp[D.bJ]
 |d::r=>by simp[D.bJ,zf n m r]
theorem Fs (n m:Nat) : ∀ l,D.gL n m l=l.all (D.bJ n m)
 | []=>by simp[D.gL]
 |d::r=>by simp[D.gL,Fs n m r]
theorem wj {n m:Nat} {l:List D} (h:D.bJ n m l=true) {i:Nat} {d:D} (e:l[i]? = some d):D.ok n m d=true:=by
 rw[zf]at h;exact List.all_eq_true.1 h d (List.mem_of_getElem? e)
theorem aau {n m:Nat} {l:List (List D)} (h:D.gL n m l=true) {i:Nat} {d:List D} (e:l[i]? = some d):D.bJ n m d=true:=by
 rw[Fs]at h;exact List.all_eq_true.1 h d (List.mem_of_getElem? e)
section
variable {M M0:Map} {s s0:St} {os ts:List Nat}
theorem jg.Di (lr : ∀ (i:Nat) t,ts[i]? = some t→M0.be i=M.be t) (ht : ∀ (i t:Nat),ts[i]? = some t→s0.ay[i]? = s.ay[t]?) (hlen:s0.ay.length=ts.length) {g:Tag} {z len cap:Nat} {base:Option (Nat×Nat)} (qw:g.ok ts.length=true) (h:jg M s (g.dh ts) z len base cap):jg M0 s0 g z len base cap:=by
 cases g with
 |full=>exact h
 |shared=>exact h
 |tok t y=>
  have hD:t<ts.length:=by simpa[Tag.ok]using qw
  have e:ts[t]? = some ts[t]:=List.getElem?_eq_getElem hD
  simp only[Tag.dh,e]at h
  obtain⟨h1,h2⟩:=h
  refine⟨by omega,fun n hn=>?_⟩
  rw[ht t _ e]at hn
  rw[lr t _ e]
  exact h2 n hn
theorem RD.Di (hG:M0.G=M.G) (jH : ∀ (i:Nat) o,os[i]? = some o→M0.loc i=M.loc o) (jA:s0.ah.length=os.length)
 (lr : ∀ (i:Nat) t,ts[i]? = some t→M0.be i=M.be t) (ht : ∀ (i t:Nat),ts[i]? = some t→s0.ay[i]? = s.ay[t]?) (hlen:s0.ay.length=ts.length) {d:D} {v:Value} (h:RD M s d v) :
 ∀ d0:D,d0.dh os ts=d→d0.ok os.length ts.length=true→RD M0 s0 d0 v:=by
 have nG : ∀ (i:Nat) o,os[i]? = some o→M0.mu i=M.mu o:=fun i o h=>congrArg Prod.fst (jH i o h)
 have tag:=fun {g z len cap base}=>@jg.Di M M0 s s0 ts lr ht hlen g z len cap base
 induction h with
 | junk v=>
  intro d0 e ok
  cases d0<;>simp only[D.dh]at e<;>try (cases e;done)
  ·exact .junk v
  ·rename_i o off
   have hD:o<os.length:=by simpa[D.ok]using ok
   rw[List.getElem?_eq_getElem hD]at e;cases e
  ·rename_i T o
   have hD:o<os.length:=by simpa[D.ok]using ok
   rw[List.getElem?_eq_getElem hD]at e;cases e
  ·rename_i o
   have hD:o<os.length:=by simpa[D.ok]using ok
   rw[List.getElem?_eq_getElem hD]at e;cases e
  ·rename_i z o g len
   have hD:o<os.length:=by simpa[D.ok]using ok
   rw[List.getElem?_eq_getElem hD]at e;cases e
  ·rename_i o g off
   have hD:o<os.length:=by simpa[D.ok]using ok
   rw[List.getElem?_eq_getElem hD]at e;cases e
 |eJ z a=>intro d0 e ok;cases d0<;>simp only[D.dh]at e<;>first|(cases e;exact .eJ _ _)|(split at e<;>cases e)|cases e
 |eQ z o g len b cap A ho hm ha hl=>
  intro d0 e ok
  cases d0<;>simp only[D.dh]at e<;>first|(cases e;done)|skip
  all_goals try (split at e<;>cases e;done)
  rename_i z0 o0 g0 Ps
  have hD:o0<os.length:=by simpa[D.ok]using ok
  rw[List.getElem?_eq_getElem hD]at e
  cases e
  exact RD.eQ (s:=s0) z o0 g len b cap A (by omega) ((congrArg Prod.snd (jH o0 _ (List.getElem?_eq_getElem hD))).trans hm) ha hl
 |fG z o g off b cap A ho hm ha=>
  intro d0 e ok
  cases d0<;>simp only[D.dh]at e<;>first|(cases e;done)|skip
  all_goals try (split at e<;>cases e;done)
  rename_i o0 g0 VG
  have hD:o0<os.length:=by simpa[D.ok]using ok
  rw[List.getElem?_eq_getElem hD]at e
  cases e
  exact RD.fG (s:=s0) z o0 g off b cap A (by omega) ((congrArg Prod.snd (jH o0 _ (List.getElem?_eq_getElem hD))).trans hm) ha
 |val v hv=>intro d0 e ok;cases d0<;>simp only[D.dh]at e<;>first|(cases e;exact .val _ hv)|(split at e<;>cases e)|cases e
 |fF T o v ho ht hv=>
  intro d0 e ok
  cases d0<;>simp only[D.dh]at e<;>first|(split at e<;>cases e;done)|skip
  all_goals try (cases e;done)
  rename_i T0 o0
  have hD:o0<os.length:=by simpa[D.ok]using ok
  rw[List.getElem?_eq_getElem hD]at e
  cases e
  have hl:=jH o0 _ (List.getElem?_eq_getElem hD)
  exact .fF _ o0 v (by omega) ((congrArg (fun x=>x.2.ty?) hl).trans ht) (by rw[nG o0 _ (List.getElem?_eq_getElem hD)];exact hv)
 |int k x=>intro d0 e ok;cases d0<;>simp only[D.dh]at e<;>first|(cases e;exact .int _ _)|(split at e<;>cases e)|cases e
 |bool b=>intro d0 e ok;cases d0<;>simp only[D.dh]at e<;>first|(cases e;exact .bool _)|(split at e<;>cases e)|cases e
 |str l=>intro d0 e ok;cases d0<;>simp only[D.dh]at e<;>first|(cases e;exact .str _)|(split at e<;>cases e)|cases e
 |ew=>intro d0 e ok;cases d0<;>simp only[D.dh]at e<;>first|(cases e;exact .ew)|(split at e<;>cases e)|cases e
 |gb o ho hm=>
  intro d0 e ok
  cases d0<;>simp only[D.dh]at e<;>first|(cases e;done)|skip
  all_goals try (split at e<;>cases e;done)
  rename_i o0
  have hD:o0<os.length:=by simpa[D.ok]using ok
  rw[List.getElem?_eq_getElem hD]at e
  cases e
  rw[← nG o0 _ (List.getElem?_eq_getElem hD)]
  exact RD.gb (s:=s0) o0 (by omega) ((congrArg Prod.snd (jH o0 _ (List.getElem?_eq_getElem hD))).trans hm)
 |gw f ds vs hl _ ih=>
  intro d0 e ok
  cases d0<;>simp only[D.dh]at e<;>first|(split at e<;>cases e;done)|skip
  all_goals try (cases e;done)
  rename_i f0 SI
  simp only[D.gw.injEq]at e
  obtain⟨rfl,rfl⟩:=e
  simp only[D.ok]at ok
  rw[fZ]at hl ih
  refine .gw _ SI vs (by simpa using hl) (fun i d v e1 e2=>ih i _ v (by rw[List.getElem?_map,e1];rfl) e2 d rfl (wj ok e1))
 |ptr o off ho hm=>
  intro d0 e ok
  cases d0<;>simp only[D.dh]at e<;>first|(cases e;done)|skip
  all_goals try (split at e<;>cases e;done)
  rename_i o0 VG
  have hD:o0<os.length:=by simpa[D.ok]using ok
  rw[List.getElem?_eq_getElem hD]at e
  cases e
  rw[← nG o0 _ (List.getElem?_eq_getElem hD)]
  exact RD.ptr (s:=s0) o0 _ (by omega) (by rw[show M0.ob o0=_ from congrArg Prod.snd (jH o0 _ (List.getElem?_eq_getElem hD))];exact hm)
 |dI row off b k h1 h2 ih=>
  intro d0 e ok
  cases d0<;>simp only[D.dh]at e<;>first|(split at e<;>cases e;done)|skip
  all_goals try (cases e;done)
  rename_i alL VG
  simp only[D.dI.injEq]at e
  obtain⟨rfl,rfl⟩:=e
  simp only[D.ok]at ok
  rw[fZ]at h1 ih
  refine .dI alL VG b k (fun i d e=>?_) (fun i d u e eu=>?_)
  ·rw[hG];exact h1 i _ (by rw[List.getElem?_map,e];rfl)
  ·rw[hG]at eu;exact ih i _ u (by rw[List.getElem?_map,e];rfl) eu d rfl (wj ok e)
 |jb g z cap hc qx=>
  intro d0 e ok
  cases d0<;>simp only[D.dh]at e<;>first|(split at e<;>cases e;done)|skip
  all_goals try (cases e;done)
  rename_i g0 z0 kP
  simp only[D.slice.injEq]at e
  obtain⟨rfl,rfl,e⟩:=e
  have:kP = []:=by cases kP<;>simp[D.ov]at e;rfl
  subst this
  simp only[D.ok,Bool.and_eq_true]at ok
  exact .jb g0 z0 cap hc (tag ok.1 qx)
 | mg z a cap=>
  intro d0 e ok
  cases d0<;>simp only[D.dh]at e<;>first|(split at e<;>cases e;done)|skip
  all_goals try (cases e;done)
  rename_i g0 z0 kP
  simp only[D.slice.injEq]at e
  obtain⟨hg,rfl,e⟩:=e
  have:kP = []:=by cases kP<;>simp[D.ov]at e;rfl
  subst this
  simp only[D.ok,Bool.and_eq_true]at ok
  have:g0 = .shared:=by
   cases g0 with
   |tok t y=>
    have ht:t<ts.length:=by simpa[Tag.ok]using ok.1
    simp[Tag.dh,ht]at hg
   |shared=>rfl
   |_=>simp[Tag.dh]at hg
  subst this
  exact .mg _ a cap
 | slice g z rows b k cap hl hs h1 h2 qx ih=>
  intro d0 e ok
  cases d0<;>simp only[D.dh]at e<;>first|(split at e<;>cases e;done)|skip
  all_goals try (cases e;done)
  rename_i g0 z0 kP
  simp only[D.slice.injEq]at e
  obtain⟨rfl,rfl,rfl⟩:=e
  simp only[D.ok,Bool.and_eq_true]at ok
  rw[Dh]at hl hs h1 ih qx
  simp only[Dh,List.length_map]at hl qx ⊢
  have eH : ∀ (i:Nat) (row:List D),kP[i]? = some row→(kP.map (D.fk os ts))[i]? = some (D.fk os ts row):=fun i row e=>by rw[List.getElem?_map,e];rfl
  have iV : ∀ (row:List D) (j:Nat) (d:D),row[j]? = some d→(D.fk os ts row)[j]? = some (D.dh os ts d):=fun row j d e=>by rw[fZ,List.getElem?_map,e];rfl
  refine .slice g0 z0 kP b k cap hl (fun row hr=>?_) (fun i row j d e1 e2=>?_) (fun i row j d u e1 e2 eu=>?_) (tag ok.1 qx)
  ·have:=hs (D.fk os ts row) (List.mem_map.2 ⟨row,hr,rfl⟩)
   rwa [fZ,List.length_map]at this
  ·rw[hG];exact h1 i _ j _ (eH i row e1) (iV row j d e2)
  ·rw[hG]at eu;exact ih i _ j _ u (eH i row e1) (iV row j d e2) eu d rfl (wj (aau ok.2 e1) e2)
 |agg cells vs hl h1 _ ih=>
  intro d0 e ok
  cases d0<;>simp only[D.dh]at e<;>first|(split at e<;>cases e;done)|skip
  all_goals try (cases e;done)
  rename_i SI
  simp only[D.agg.injEq]at e
  subst e
  simp only[D.ok]at ok
  rw[fZ]at hl ih
  refine .agg SI vs (by simpa using hl) h1 (fun i d v e1 e2=>ih i _ v (by rw[List.getElem?_map,e1];rfl) e2 d rfl (wj ok e1))
 |tuple ds vs hl _ ih=>
  intro d0 e ok
  cases d0<;>simp only[D.dh]at e<;>first|(split at e<;>cases e;done)|skip
  all_goals try (cases e;done)
  rename_i SI
  simp only[D.tuple.injEq]at e
  subst e
  simp only[D.ok]at ok
  rw[fZ]at hl ih
  refine .tuple SI vs (by simpa using hl) (fun i d v e1 e2=>ih i _ v (by rw[List.getElem?_map,e1];rfl) e2 d rfl (wj ok e1))
theorem RD.dh (hG:M0.G=M.G) (jH : ∀ i,i<s0.ah.length→∃ o,os[i]? = some o∧o<s.ah.length∧M.loc o=M0.loc i)
 (lr : ∀ i,i<s0.ay.length→∃ t,ts[i]? = some t∧t<s.ay.length∧s.ay[t]? = s0.ay[i]? ∧M.be t=M0.be i) {d:D} {v:Value} (h:RD M0 s0 d v):RD M s (d.dh os ts) v:=by
 have tag : ∀ {g:Tag} {z len cap:Nat} {base:Option (Nat×Nat)},jg M0 s0 g z len base cap→jg M s (g.dh ts) z len base cap:=by
  intro g z len cap base h
  cases g with
  |full=>exact h
  |shared=>exact h
  |tok t y=>
   obtain⟨h1,h2⟩:=h
   obtain⟨t',e,hD,Kh,hb⟩:=lr t h1
   simp only[Tag.dh,e]
   refine⟨hD,fun n hn=>?_⟩
   rw[hb]
   exact h2 n (Kh ▸ hn)
 induction h with
 |junk v=>simp only[D.dh];exact .junk v
 |int k x=>simp only[D.dh];exact .int k x
 |bool b=>simp only[D.dh];exact .bool b
 |str l=>simp only[D.dh];exact .str l
 |ew=>simp only[D.dh];exact .ew
 |ptr o off ho hk=>
  obtain⟨o',e,hD,hm⟩:=jH o ho
  simp only[D.dh,e]
  have hb:M.ob o'=M0.ob o:=congrArg Prod.snd hm
  have hm:M.mu o'=M0.mu o:=congrArg Prod.fst hm
  rw[← hm]
  exact .ptr o' off hD (by rw[hb];exact hk)
 |gb o ho hk=>
  obtain⟨o',e,hD,hm⟩:=jH o ho
  simp only[D.dh,e]
  have hb:M.ob o'=M0.ob o:=congrArg Prod.snd hm
  have hm:M.mu o'=M0.mu o:=congrArg Prod.fst hm
  rw[← hm]
  exact .gb o' hD (by rw[hb];exact hk)
 |eJ z a=>simp only[D.dh];exact .eJ z a
 |eQ z o g len b cap A ho hk ha hl=>
  obtain⟨o',e,hD,hm⟩:=jH o ho
  simp only[D.dh,e]
  exact .eQ z o' g len b cap A hD ((congrArg Prod.snd hm).trans hk) ha hl
 |fG z o g off b cap A ho hk ha=>
  obtain⟨o',e,hD,hm⟩:=jH o ho
  simp only[D.dh,e]
  exact .fG z o' g off b cap A hD ((congrArg Prod.snd hm).trans hk) ha
 |gw f ds vs hl _ ih=>
  simp only[D.dh,fZ]
  refine .gw f _ vs (by simpa using hl) (fun i d v e1 e2=>?_)
  simp only[List.getElem?_map,Option.map_eq_some_iff]at e1
  obtain⟨d',e1,rfl⟩:=e1
  exact ih i d' v e1 e2
 |val v hv=>simp only[D.dh];exact .val v hv
 |fF T o v ho ht hv=>
  obtain⟨o',e,hD,hm⟩:=jH o ho
  simp only[D.dh,e]
  have h1:M.mu o'=M0.mu o:=congrArg Prod.fst hm
  have h2:M.ty o'=M0.ty o:=congrArg (fun x=>x.2.ty?) hm
  exact .fF T o' v hD (by rw[h2];exact ht) (by rw[h1];exact hv)
 | dI row off b k h1 h2 ih=>
  simp only[D.dh,fZ]
  refine .dI _ off b k (fun i d e=>?_) (fun i d u e eu=>?_)
  ·simp only [List.getElem?_map,Option.map_eq_some_iff]at e
   obtain⟨d',e,rfl⟩:=e
   rw[← hG];exact h1 i d' e
  ·simp only [List.getElem?_map,Option.map_eq_some_iff]at e
   obtain⟨d',e,rfl⟩:=e
   rw[← hG]at eu;exact ih i d' u e eu
 |jb g z cap hc ht=>simp only[D.dh,D.ov];exact .jb _ z cap hc (tag ht)
 |mg z a cap=>simp only[D.dh,D.ov,Tag.dh];exact .mg z a cap
 | slice g z rows b k cap hl hs h1 h2 ht ih=>
  simp only[D.dh,Dh]
  have hlen:(rows.map (D.fk os ts)).length=rows.length:=by simp
  have key:=RD.slice (M:=M) (s:=s) (g.dh ts) z (rows.map (D.fk os ts)) b k cap (by rw[hlen];exact hl) (fun row hr=>by
   obtain⟨kT,h',rfl⟩:=List.mem_map.1 hr
   rw[fZ,List.length_map];exact hs kT h')
   (fun i row j d e1 e2=>by
    simp only[List.getElem?_map,Option.map_eq_some_iff]at e1
    obtain⟨kT,e1,rfl⟩:=e1
    rw[fZ]at e2
    simp only[List.getElem?_map,Option.map_eq_some_iff]at e2
    obtain⟨d',e2,rfl⟩:=e2
    rw[← hG];exact h1 i kT j d' e1 e2)
   (fun i row j d u e1 e2 eu=>by
    simp only[List.getElem?_map,Option.map_eq_some_iff]at e1
    obtain⟨kT,e1,rfl⟩:=e1
    rw[fZ]at e2
    simp only[List.getElem?_map,Option.map_eq_some_iff]at e2
    obtain⟨d',e2,rfl⟩:=e2
    rw[← hG]at eu;exact ih i kT j d' u e1 e2 eu)
   (by rw[hlen];exact tag ht)
  rw[hlen]at key
  exact key
 |agg cells vs hl h1 _ ih=>
  simp only[D.dh,fZ]
  refine .agg _ vs (by simpa using hl) h1 (fun i d v e1 e2=>?_)
  simp only[List.getElem?_map,Option.map_eq_some_iff]at e1
  obtain⟨d',e1,rfl⟩:=e1
  exact ih i d' v e1 e2
 |tuple ds vs hl _ ih=>
  simp only[D.dh,fZ]
  refine .tuple _ vs (by simpa using hl) (fun i d v e1 e2=>?_)
  simp only[List.getElem?_map,Option.map_eq_some_iff]at e1
  obtain⟨d',e1,rfl⟩:=e1
  exact ih i d' v e1 e2
def lg {α:Type} : List Nat→List α→List α→List α
 | [],new,l=>l++new
 |_::_,[],l=>l
 |o::os,x::xs,l=>lg os xs (l.set o x)
def k8 (os:List Nat) (n k:Nat):List Nat:=os++(List.range k).map (n + ·)
theorem yc {α:Type} : ∀ (os:List Nat) (xs l:List α),os.length≤xs.length→(lg os xs l).length=l.length+(xs.length - os.length)
 | [],xs,l,_=>by simp[lg]
 |o::os,[],l,h=>by simp at h
 |o::os,x::xs,l,h=>by
  simp only[lg]
  rw[yc os xs _ (by simpa using h)]
  simp
theorem Ez {α:Type} : ∀ (os:List Nat) (xs l:List α),os.length≤xs.length→os.Nodup→(∀ o∈os,o<l.length)→
 (∀ (i:Nat) (o:Nat),os[i]? = some o→(lg os xs l)[o]? = xs[i]?)∧(∀ o,o<l.length→o∉os→(lg os xs l)[o]? = l[o]?)∧
 (∀ k,(lg os xs l)[l.length+k]? = xs[os.length+k]?)
 | [],xs,l,_,_,_=>by
  refine⟨by simp,fun o ho _=>by simp only[lg];rw[List.getElem?_append_left ho],fun k=>by simp only[lg];rw[List.getElem?_append_right (by omega)];simp⟩
 |o::os,[],l,h,_,_=>by simp at h
 | o::os,x::xs,l,h,hn,hD=>by
  simp only[List.nodup_cons]at hn
  have Bl : ∀ q∈os,q<(l.set o x).length:=fun q hq=>by simpa using hD q (by simp[hq])
  obtain⟨h1,h2,h3⟩:=Ez os xs (l.set o x) (by simpa using h) hn.2 Bl
  have ho:o<l.length:=hD o (by simp)
  simp only[lg]
  refine⟨fun i q e=>?_,fun q hq Cc=>?_,fun k=>?_⟩
  ·cases i with
   |zero=>
    simp only[List.getElem?_cons_zero,Option.some.injEq]at e
    subst e
    rw[h2 o (by simpa using ho) hn.1]
    simp[ho]
   |succ i=>simpa using h1 i q (by simpa using e)
  ·have wg:q≠o:=fun e=>Cc (by simp [e])
   rw[h2 q (by simpa using hq) (fun h=>Cc (by simp[h])),List.getElem?_set_ne (Ne.symm wg)]
  ·have:=h3 k
   simp only[List.length_set]at this
   rw[this]
   simp only[List.length_cons]
   rw[show os.length+1+k=(os.length+k)+1 by omega];simp
theorem D3 (os:List Nat) (n k i:Nat):(k8 os n k)[i]? = if i<os.length then os[i]? else if i<os.length+k then some (n+(i - os.length))else none:=by
 unfold k8
 split
 ·rename_i h;rw[List.getElem?_append_left h]
 ·rename_i h
  rw[List.getElem?_append_right (by omega)]
  split
  ·rename_i h2
   rw[List.getElem?_map,List.getElem?_range (by omega)];rfl
  ·rename_i h2
   rw[List.getElem?_eq_none]
   simp;omega
def posOf:List Nat→Nat→Option Nat
 | [],_=>none
 |x::r,o=>if x=o then some 0 else(posOf r o).map (· + 1)
theorem jh : ∀ {l:List Nat} {o i:Nat},posOf l o=some i→l[i]? = some o
 | x::r,o,i,h=>by
  simp only[posOf]at h
  split at h
  ·rename_i e;cases h;simp[e]
  ·cases hp:posOf r o with
   |none=>rw[hp]at h;cases h
   |some j=>rw[hp]at h;cases h;simpa using jh hp
theorem mT : ∀ {l:List Nat} {o i:Nat},l.Nodup→l[i]? = some o→posOf l o=some i
 | x::r,o,i,hn,h=>by
  simp only[List.nodup_cons]at hn
  simp only[posOf]
  cases i with
  |zero=>simp at h;simp[h]
  |succ i=>
   simp at h
   have:x≠o:=fun e=>hn.1 (by rw[e];exact List.mem_of_getElem? h)
   rw[if_neg this,mT hn.2 h];rfl
end
end Go.Abs
namespace Go.Abs
theorem Bm {l:List Nat} {n k:Nat} (h:l.Nodup) (hl : ∀ o∈l,o<n):(k8 l n k).Nodup:=by
 unfold k8
 rw[List.nodup_append]
 refine⟨h, ?_,fun a ha b hb=>?_⟩
 ·rw [List.nodup_iff_pairwise_ne,List.pairwise_map]
  exact List.Pairwise.imp (fun h=>by omega) (List.nodup_iff_pairwise_ne.1 List.nodup_range)
 ·obtain⟨c,hc,rfl⟩:=List.mem_map.1 hb
  have:=hl a ha
  omega
def gU (M:Map) (os ts:List Nat):Map:=⟨M.G,fun i=>M.loc (os.getD i 0),fun i=>M.be (ts.getD i 0)⟩
def zh (M M0:Map) (os ts:List Nat):Map:=
 ⟨M0.G,fun o=>match posOf os o with|some i=>M0.loc i|none=>M.loc o,fun t=>match posOf ts t with|some i=>M0.be i|none=>M.be t⟩
section
variable {P:Program} {M:Map} {s s0:St} {w:World} {os ts:List Nat}
theorem vU {l:List Nat} {i o:Nat} (h:l[i]? = some o):l.getD i 0=o:=by simp[List.getD,h]
theorem Rel.sub (r:Rel M s w) (vr:os.Nodup) (wk:ts.Nodup) (jA : ∀ o∈os,o<s.ah.length)
 (ho:s0.ah.length=os.length) (yd : ∀ (i o:Nat) (ds:List D),os[i]? = some o→s0.ah[i]? = some ds→s.ah[o]? = some (D.fk os ts ds)∧D.bJ os.length ts.length ds=true)
 (ht:s0.ay.length=ts.length) (uK : ∀ (i t:Nat),ts[i]? = some t→s0.ay[i]? = s.ay[t]?):Rel (gU M os ts) s0 w:=by
 have nth : ∀ i,i<s0.ah.length→∃ o,os[i]? = some o∧o<s.ah.length:=fun i hi=>⟨os[i],List.getElem?_eq_getElem (by omega),jA _ (List.getElem_mem _)⟩
 have loc : ∀ (i:Nat) o,os[i]? = some o→(gU M os ts).loc i=M.loc o:=fun i o h=>by simp only[gU,vU h]
 have mu : ∀ (i:Nat) o,os[i]? = some o→(gU M os ts).mu i=M.mu o:=fun i o h=>congrArg Prod.fst (loc i o h)
 have be : ∀ (i:Nat) t,ts[i]? = some t→(gU M os ts).be i=M.be t:=fun i t h=>by simp only[gU,vU h]
 have YI : ∀ t,s0.live t→∃ t',ts[t]? = some t'∧s.live t':=fun t ⟨n,hn⟩=>by
  have hD:=(List.getElem?_eq_some_iff.1 hn).1
  have e:ts[t]? = some ts[t]:=List.getElem?_eq_getElem (by omega)
  exact⟨_,e,n,by rw[← uK t _ e];exact hn⟩
 refine⟨r.comm,fun i ds e=>?_,fun i hi off=>?_,fun i i' hi iA e=>?_,fun t n e=>?_,fun t b c z i hl e hi=>?_,fun t t' b c z c' z' h h' e e'=>?_⟩
 ·obtain⟨o,h1,_⟩:=nth i (List.getElem?_eq_some_iff.1 e).1
  obtain⟨h2,h3⟩:=yd i o ds h1 e
  obtain⟨vs,T,g1,g2,g3,g4⟩:=r.obj o _ h2
  refine⟨vs,T,by rw[loc i o h1];exact g1,by rw[fZ]at g2;simpa using g2,⟨g3.1,by rw[show(gU M os ts).ty i=M.ty o from congrArg (fun x=>x.2.ty?) (loc i o h1)];exact g3.2⟩,fun j d v e1 e2=>?_⟩
  exact RD.Di (M:=M) (M0:=gU M os ts) (s:=s) rfl loc ho be uK ht (g4 j (d.dh os ts) v (by rw[fZ,List.getElem?_map,e1];rfl) e2) d rfl (wj h3 e1)
 ·obtain⟨o,h1,h2⟩:=nth i hi
  rw[mu i o h1];exact r.ki o h2 off
 ·obtain⟨o,h1,h2⟩:=nth i hi
  obtain⟨o',sU,vt⟩:=nth i' iA
  rw[mu i o h1,mu i' o' sU]at e
  have:=r.inj o o' h2 vt e
  subst this
  have a:=mT vr h1
  have b:=mT vr sU
  rw[a]at b;cases b;rfl
 ·obtain⟨t',h1,h2⟩:=YI t ⟨n,e⟩
  rw[be t t' h1]
  exact r.tok t' n (by rw[← uK t t' h1];exact e)
 ·obtain⟨t',h1,h2⟩:=YI t hl
  obtain⟨o,h3,h4⟩:=nth i hi
  rw[be t t' h1]at e
  rw[mu i o h3]
  exact r.fy t' b c z o h2 e h4
 ·obtain⟨q,h1,h2⟩:=YI t h
  obtain⟨q',sU,vt⟩:=YI t' h'
  rw[be t q h1]at e
  rw[be t' q' sU]at e'
  have:=r.gd q q' b c z c' z' h2 vt e e'
  subst this
  have a:=mT wk h1
  have b:=mT wk sU
  rw[a]at b;cases b;rfl
end
def St.back (s:St) (os ts:List Nat) (s':St):St:=
 ⟨lg os (s'.ah.map (D.fk (k8 os s.ah.length (s'.ah.length - os.length)) (k8 ts s.ay.length (s'.ay.length - ts.length)))) s.ah,lg ts s'.ay s.ay⟩
def D.back (s:St) (os ts:List Nat) (s':St) (d:D):D:=
 d.dh (k8 os s.ah.length (s'.ah.length - os.length)) (k8 ts s.ay.length (s'.ay.length - ts.length))
theorem bP.frame {P:Program} {f:FuncId} {Pt args:List D} {s s0:St} {Q0 Q:D→St→Prop} (os ts:List Nat) (h:bP P f Pt s0 Q0) (vr:os.Nodup) (wk:ts.Nodup) (jA : ∀ o∈os,o<s.ah.length) (vn : ∀ t∈ts,t<s.ay.length)
 (ho:s0.ah.length=os.length) (yd : ∀ (i o:Nat) (ds:List D),os[i]? = some o→s0.ah[i]? = some ds→s.ah[o]? = some (D.fk os ts ds)∧D.bJ os.length ts.length ds=true)
 (ht:s0.ay.length=ts.length) (uK : ∀ (i t:Nat),ts[i]? = some t→s0.ay[i]? = s.ay[t]?)
 (Ae:args=D.fk os ts Pt) (qw:D.bJ os.length ts.length Pt=true) (k : ∀ d s',Q0 d s'→Q (d.back s os ts s') (s.back os ts s')):bP P f args s Q:=by
 intro M w fS r k6 dP ha
 have r0:=r.sub vr wk jA ho yd ht uK
 have loc : ∀ (i:Nat) o,os[i]? = some o→(gU M os ts).loc i=M.loc o:=fun i o h=>by simp only[gU,vU h]
 have mu : ∀ (i:Nat) o,os[i]? = some o→(gU M os ts).mu i=M.mu o:=fun i o h=>congrArg Prod.fst (loc i o h)
 have be : ∀ (i:Nat) t,ts[i]? = some t→(gU M os ts).be i=M.be t:=fun i t h=>by simp only[gU,vU h]
 subst Ae
 have adj:Laid (gU M os ts) s0 w:=by
  intro g cs hg
  obtain⟨h1,h2,h3⟩:=k6 g cs hg
  refine⟨h1,fun o hD=>?_,fun t c z hl hb=>?_⟩
  ·obtain⟨o',od⟩ : ∃ o',os[o]? = some o':=⟨_,List.getElem?_eq_getElem (by omega)⟩
   rw[mu o o' od]
   exact h2 o' (jA o' (List.mem_of_getElem? od))
  ·obtain⟨n,hn⟩:=hl
   have hD:=(List.getElem?_eq_some_iff.1 hn).1
   obtain⟨t',Ft⟩ : ∃ t',ts[t]? = some t':=⟨_,List.getElem?_eq_getElem (by omega)⟩
   rw[be t t' Ft]at hb
   exact h3 t' c z ⟨n,by rw[← uK t t' Ft];exact hn⟩ hb
 have hc:=h (gU M os ts) w fS r0 adj (by rw[dP,fZ,List.length_map]) (fun i d v e1 e2=>
  RD.Di (M:=M) (M0:=gU M os ts) (s:=s) rfl loc ho be uK ht (ha i (d.dh os ts) v (by rw[fZ,List.getElem?_map,e1];rfl) e2) d rfl (wj qw e1))
 refine hc.mono ?_
 rintro en w' ⟨zi,d,v,s',rfl,hq,e,r',hv⟩
 have Kl:=e.le.n
 have Fg:=e.le.t
 generalize Pu:k8 os s.ah.length (s'.ah.length - os.length)=mE
 generalize Pv:k8 ts s.ay.length (s'.ay.length - ts.length)=pR
 have nd:mE.Nodup:=by rw[← Pu];exact Bm vr jA
 have ndt:pR.Nodup:=by rw[← Pv];exact Bm wk vn
 have Pw : ∀ i,mE[i]? = if i<os.length then os[i]? else if i<s'.ah.length then some (s.ah.length+(i - os.length))else none:=fun i=>by
  rw[← Pu,D3];split
  ·rfl
  ·rw[show os.length+(s'.ah.length - os.length)=s'.ah.length by omega]
 have Px : ∀ i,pR[i]? = if i<ts.length then ts[i]? else if i<s'.ay.length then some (s.ay.length+(i - ts.length))else none:=fun i=>by
  rw[← Pv,D3];split
  ·rfl
  ·rw[show ts.length+(s'.ay.length - ts.length)=s'.ay.length by omega]
 have hsb:s.back os ts s' = ⟨lg os (s'.ah.map (D.fk mE pR)) s.ah,lg ts s'.ay s.ay⟩:=by simp only[St.back,Pu,Pv]
 have hdb:d.back s os ts s'=d.dh mE pR:=by simp only[D.back,Pu,Pv]
 have np:=k d s' hq
 rw[hsb,hdb]at np
 obtain⟨p1,p2,p3⟩:=Ez os (s'.ah.map (D.fk mE pR)) s.ah (by simp;omega) vr jA
 obtain⟨q1,q2,q3⟩:=Ez ts s'.ay s.ay (by omega) wk vn
 have Kr:=yc os (s'.ah.map (D.fk mE pR)) s.ah (by simp;omega)
 have Ks:=yc ts s'.ay s.ay (by omega)
 simp only[List.length_map]at Kr
 generalize Bi:(⟨lg os (s'.ah.map (D.fk mE pR)) s.ah,lg ts s'.ay s.ay⟩:St)=s2 at np
 have so:s2.ah=lg os (s'.ah.map (D.fk mE pR)) s.ah:=by rw[← Bi]
 have st:s2.ay=lg ts s'.ay s.ay:=by rw[← Bi]
 -- the framed objects
 have fo : ∀ (i o:Nat),mE[i]? = some o→o<s2.ah.length∧s2.ah[o]? = (s'.ah[i]?).map (D.fk mE pR)∧i<s'.ah.length∧(i<os.length→o<s.ah.length∧os[i]? = some o)∧(os.length≤i→s.ah.length≤o):=by
  intro i o hi
  rw[Pw]at hi
  split at hi
  ·rename_i h1
   have hD:=jA o (List.mem_of_getElem? hi)
   refine⟨by rw[so,Kr];omega,by rw[so,p1 i o hi,List.getElem?_map],by omega,fun _=>⟨hD,hi⟩,fun h=>by omega⟩
  ·split at hi
   ·rename_i h1 h2
    cases hi
    refine⟨by rw[so,Kr];omega, ?_,h2,fun h=>by omega,fun _=>by omega⟩
    rw[so,p3,List.getElem?_map,show os.length+(i - os.length)=i by omega]
   ·cases hi
 have ft : ∀ (i t:Nat),pR[i]? = some t→t<s2.ay.length∧s2.ay[t]? = s'.ay[i]? ∧i<s'.ay.length∧(i<ts.length→t<s.ay.length∧ts[i]? = some t)∧(ts.length≤i→s.ay.length≤t):=by
  intro i t hi
  rw[Px]at hi
  split at hi
  ·rename_i h1
   have hD:=vn t (List.mem_of_getElem? hi)
   refine⟨by rw[st,Ks];omega,by rw[st,q1 i t hi],by omega,fun _=>⟨hD,hi⟩,fun h=>by omega⟩
  ·split at hi
   ·rename_i h1 h2
    cases hi
    refine⟨by rw[st,Ks];omega, ?_,h2,fun h=>by omega,fun _=>by omega⟩
    rw[st,q3,show ts.length+(i - ts.length)=i by omega]
   ·cases hi
 -- all others
 have uo : ∀ o,o<s2.ah.length→posOf mE o=none→o<s.ah.length∧o∉os∧s2.ah[o]? = s.ah[o]? :=by
  intro o hD hp
  have ow : ∀ i,mE[i]? ≠some o:=fun i hi=>by rw[mT nd hi]at hp;cases hp
  have h1:o<s.ah.length:=by
   rcases Nat.lt_or_ge o s.ah.length with h|h
   ·exact h
   ·exfalso
    rw[so,Kr]at hD
    refine ow (os.length+(o - s.ah.length)) ?_
    rw[Pw,if_neg (by omega),if_pos (by omega)]
    congr 1;omega
  have h2:o∉os:=fun hm=>by
   obtain⟨i,hi⟩:=List.mem_iff_getElem?.1 hm
   have rG:=(List.getElem?_eq_some_iff.1 hi).1
   exact ow i (by rw[Pw,if_pos rG];exact hi)
  exact⟨h1,h2,by rw[so,p2 o h1 h2]⟩
 have ut : ∀ t,t<s2.ay.length→posOf pR t=none→t<s.ay.length∧t∉ts∧s2.ay[t]? = s.ay[t]? :=by
  intro t hD hp
  have ow : ∀ i,pR[i]? ≠some t:=fun i hi=>by rw[mT ndt hi]at hp;cases hp
  have h1:t<s.ay.length:=by
   rcases Nat.lt_or_ge t s.ay.length with h|h
   ·exact h
   ·exfalso
    rw[st,Ks]at hD
    refine ow (ts.length+(t - s.ay.length)) ?_
    rw[Px,if_neg (by omega),if_pos (by omega)]
    congr 1;omega
  have h2:t∉ts:=fun hm=>by
   obtain⟨i,hi⟩:=List.mem_iff_getElem?.1 hm
   have rG:=(List.getElem?_eq_some_iff.1 hi).1
   exact ow i (by rw[Px,if_pos rG];exact hi)
  exact⟨h1,h2,by rw[st,q2 t h1 h2]⟩
 generalize SK:zh M zi mE pR=M2
 have mG:zi.G=M2.G:=by rw[← SK];rfl
 have lo : ∀ (i o:Nat),mE[i]? = some o→M2.loc o=zi.loc i:=fun i o hi=>by rw[← SK];simp only[zh,mT nd hi]
 have YJ : ∀ o,posOf mE o=none→M2.loc o=M.loc o:=fun o hp=>by rw[← SK];simp only[zh,hp]
 have mo : ∀ (i o:Nat),mE[i]? = some o→M2.mu o=zi.mu i:=fun i o hi=>congrArg Prod.fst (lo i o hi)
 have Kt : ∀ o,posOf mE o=none→M2.mu o=M.mu o:=fun o hp=>congrArg Prod.fst (YJ o hp)
 have mt : ∀ (i t:Nat),pR[i]? = some t→M2.be t=zi.be i:=fun i t hi=>by rw[← SK];simp only[zh,mT ndt hi]
 have Ku : ∀ t,posOf pR t=none→M2.be t=M.be t:=fun t hp=>by rw[← SK];simp only[zh,hp]
 have le:Le M s M2 s2:=by
  refine⟨fun b o v hg=>by rw[← mG];exact e.le.G b o v hg,by rw[so,Kr];omega,fun o hD=>?_,by rw[st,Ks];omega,fun t n' hD rV=>?_⟩
  ·cases hp:posOf mE o with
   |none=>rw[YJ o hp];exact .refl _
   | some i=>
    have hi:=jh hp
    rw[lo i o hi]
    obtain⟨_,_,_,h1,h2⟩:=fo i o hi
    have rG:i<os.length:=by
     rcases Nat.lt_or_ge i os.length with h|h
     ·exact h
     ·have:=h2 h;omega
    have h3:=e.le.loc i (by omega)
    rw[loc i o (h1 rG).2]at h3
    exact h3
  ·cases hp:posOf pR t with
   |none=>
    obtain⟨_,_,h3⟩:=ut t (by rw[st,Ks];omega) hp
    rw[h3]at rV
    exact⟨n',rV,Nat.le_refl _,fun _=>Ku t hp⟩
   | some i=>
    have hi:=jh hp
    obtain⟨_,g1,_,h1,h2⟩:=ft i t hi
    have rG:i<ts.length:=by
     rcases Nat.lt_or_ge i ts.length with h|h
     ·exact h
     ·have:=h2 h;omega
    rw[g1]at rV
    obtain⟨n,h3,h4,h5⟩:=e.le.tk i n' (by omega) rV
    refine⟨n,by rw[← uK i t (h1 rG).2];exact h3,h4,fun eq=>?_⟩
    rw[mt i t hi,h5 eq,be i t (h1 rG).2]
 have adk : ∀ {d:D} {v:Value},RD zi s' d v→RD M2 s2 (d.dh mE pR) v:=fun hd=>RD.dh mG
  (fun i hi=>by
   obtain⟨o,ho⟩ : ∃ o,mE[i]? = some o:=by
    rw[Pw];split
    ·rename_i h1;exact⟨_,List.getElem?_eq_getElem h1⟩
    ·exact⟨_,rfl⟩
   exact⟨o,ho,(fo i o ho).1,lo i o ho⟩)
  (fun i hi=>by
   obtain⟨t,ht⟩ : ∃ t,pR[i]? = some t:=by
    rw[Px];split
    ·rename_i h1;exact⟨_,List.getElem?_eq_getElem h1⟩
    ·exact⟨_,rfl⟩
   exact⟨t,ht,(ft i t ht).1,(ft i t ht).2.1,mt i t ht⟩) hd
 -- blocks that the callee did not know
 have JH : ∀ i,s0.live i→∃ t,ts[i]? = some t∧s.live t:=fun i ⟨n,hn⟩=>by
  have hD:=(List.getElem?_eq_some_iff.1 hn).1
  have e1:ts[i]? = some ts[i]:=List.getElem?_eq_getElem (by omega)
  exact⟨_,e1,n,by rw[← uK i _ e1];exact hn⟩
 have Py : ∀ b,b<w.heap.size→(∀ (i o:Nat),os[i]? = some o→M.mu o≠b)→(∀ (i t:Nat) c z,ts[i]? = some t→s.live t→M.be t≠some (b,c,z))→
  w'.heap[b]? = w.heap[b]? ∧∀ off,zi.G b off=M.G b off:=by
  intro b hb h1 h2
  refine⟨e.kept b hb (fun i hi=>?_) (fun i c z hl=>?_),fun off=>?_⟩
  ·have e1:os[i]? = some os[i]:=List.getElem?_eq_getElem (by omega)
   rw[mu i _ e1];exact h1 i _ e1
  ·obtain⟨t,e1,hD⟩:=JH i hl
   rw[be i t e1];exact h2 i t c z e1 hD
  ·apply Classical.byContradiction
   intro eW
   rcases e.sY b off eW with h3|⟨i,c,z,hl,h3⟩
   ·omega
   ·obtain⟨t,e1,hD⟩:=JH i hl
    rw[be i t e1]at h3
    exact h2 i t c z e1 hD h3
 have YK : ∀ o,o<s.ah.length→o∉os→w'.heap[M.mu o]? = w.heap[M.mu o]? ∧∀ off,zi.G (M.mu o) off=M.G (M.mu o) off:=fun o hD ow=>
  Py _ (r.qX hD) (fun i o' h1 h2=>ow (by rw[← r.inj o' o (jA o' (List.mem_of_getElem? h1)) hD h2];exact List.mem_of_getElem? h1))
   (fun i t c z _ hl h2=>r.fy t _ c z o hl h2 hD rfl)
 have ahs : ∀ t b c z,s.live t→t∉ts→M.be t=some (b,c,z)→w'.heap[b]? = w.heap[b]? ∧∀ off,zi.G b off=M.G b off:=fun t b c z hl ow hb=>
  Py b (r.tB hl hb) (fun i o h1=>r.fy t b c z o hl hb (jA o (List.mem_of_getElem? h1)))
   (fun i t' c' z' h1 mN h2=>ow (by rw[r.gd t t' b c z c' z' hl mN hb h2];exact List.mem_of_getElem? h1))
 have lv : ∀ t,s2.live t→(∃ i,pR[i]? = some t∧s'.live i)∨(posOf pR t=none∧s.live t∧t∉ts):=by
  rintro t ⟨n,hn⟩
  cases hp:posOf pR t with
  |none=>
   obtain⟨h1,h2,h3⟩:=ut t (List.getElem?_eq_some_iff.1 hn).1 hp
   exact .inr ⟨rfl,⟨n,by rw[← h3];exact hn⟩,h2⟩
  |some i=>
   have hi:=jh hp
   exact .inl ⟨i,hi,n,by rw[← (ft i t hi).2.1];exact hn⟩
 -- where a framed object lies
 have YL : ∀ (i o:Nat),mE[i]? = some o→(o<s.ah.length∧o∈os∧zi.mu i=M.mu o)∨w.heap.size≤zi.mu i:=by
  intro i o hi
  obtain⟨_,_,h1,h2,h3⟩:=fo i o hi
  rcases e.mo h1 with ⟨h4,h5⟩|h4
  ·have h:i<os.length:=by omega
   exact .inl ⟨(h2 h).1,List.mem_of_getElem? (h2 h).2,by rw[h5,mu i o (h2 h).2]⟩
  ·exact .inr h4
 have YM : ∀ (i t b c z:Nat),pR[i]? = some t→s'.live i→zi.be i=some (b,c,z)→(s.live t∧t∈ts∧∃ c' z',M.be t=some (b,c',z'))∨w.heap.size≤b:=by
  intro i t b c z hi hl hb
  rcases e.rf i b c z hl hb with ⟨h1,c',z',h2⟩|h1
  ·obtain⟨t',e1,hD⟩:=JH i h1
   have rG:=(List.getElem?_eq_some_iff.1 e1).1
   obtain⟨_,_,_,h3,_⟩:=ft i t hi
   have:=(h3 rG).2
   rw[e1]at this;cases this
   rw[be i _ e1]at h2
   exact .inl ⟨hD,List.mem_of_getElem? e1,c',z',h2⟩
  ·exact .inr h1
 refine⟨M2,d.dh mE pR,v,s2,rfl,np, ?_, ?_,adk hv⟩
 ·-- Ext
  refine⟨le,fun b hb h1 h2=>?_,fun o h1 h2=>?_,fun t b c z hl hb=>?_,fun b off eW=>?_,e.size,e.os,e.tape,e.output⟩
  ·exact(Py b hb (fun i o h3=>h1 o (jA o (List.mem_of_getElem? h3))) (fun i t c z _ hl=>h2 t c z hl)).1
  ·cases hp:posOf mE o with
   |none=>
    have:=(uo o h2 hp).1
    rcases h1 with h1|h1
    ·omega
    ·exact(h1 (Kt o hp)).elim
   | some i=>
    have hi:=jh hp
    rw[mo i o hi]at h1 ⊢
    rcases YL i o hi with ⟨h3,_,h5⟩|h3
    ·rcases h1 with h1 | h1
     ·omega
     ·exact(h1 h5).elim
    ·exact h3
  ·rcases lv t hl with ⟨i,hi,mN⟩ | ⟨hp,mN,_⟩
   ·rw [mt i t hi]at hb
    rcases YM i t b c z hi mN hb with ⟨h1,_,h2⟩|h1
    ·exact .inl ⟨h1,h2⟩
    ·exact .inr h1
   ·rw [Ku t hp]at hb
    exact .inl ⟨mN,c,z,hb⟩
  ·rw [← mG]at eW
   rcases e.sY b off eW with h1|⟨i,c,z,hl,hb⟩
   ·exact .inl h1
   ·obtain⟨t,e1,hD⟩:=JH i hl
    rw[be i t e1]at hb
    exact .inr ⟨t,c,z,hD,hb⟩
 ·-- Rel
  refine⟨fun b o v hg=>r'.comm b o v (by rw[mG];exact hg),fun o ds B5=>?_,fun o hD off=>?_,fun o o' hD Bl heq=>?_,fun t n hn=>?_,fun t b c z o hl hb hD=>?_,fun t t' b c z c' z' hl mN hb sS=>?_⟩
  ·cases hp:posOf mE o with
   |some i=>
    have hi:=jh hp
    obtain⟨_,g1,_⟩:=fo i o hi
    rw[g1]at B5
    obtain⟨oc,h1,rfl⟩:=Option.map_eq_some_iff.1 B5
    obtain⟨vs,T,h2,h3,h4,h5⟩:=r'.obj i oc h1
    refine⟨vs,T,by rw[lo i o hi];exact h2,by rw[fZ];simpa using h3,⟨h4.1,by rw[show M2.ty o=zi.ty i from congrArg (fun x=>x.2.ty?) (lo i o hi)];exact h4.2⟩,fun j d v e1 e2=>?_⟩
    rw[fZ]at e1
    simp only[List.getElem?_map,Option.map_eq_some_iff]at e1
    obtain⟨d',e1,rfl⟩:=e1
    exact adk (h5 j d' v e1 e2)
   |none=>
    obtain⟨h1,h2,h3⟩:=uo o (List.getElem?_eq_some_iff.1 B5).1 hp
    rw[h3]at B5
    obtain⟨vs,T,g1,g2,g3,g4⟩:=r.obj o ds B5
    exact⟨vs,T,by rw[YJ o hp];exact g1.keep (YK o h1 h2).1,g2,⟨g3.1,by rw[show M2.ty o=M.ty o from congrArg (fun x=>x.2.ty?) (YJ o hp)];exact g3.2⟩,fun j d v e1 e2=>(g4 j d v e1 e2).mono le⟩
  ·cases hp:posOf mE o with
   |some i=>
    have hi:=jh hp
    rw[mo i o hi, ← mG];exact r'.ki i (fo i o hi).2.2.1 off
   |none=>
    obtain⟨h1,h2,h3⟩:=uo o hD hp
    rw[Kt o hp, ← mG,(YK o h1 h2).2 off];exact r.ki o h1 off
  ·cases hp:posOf mE o with
   | some i=>
    have hi:=jh hp
    rw[mo i o hi]at heq
    cases nD:posOf mE o' with
    |some i'=>
     have iA:=jh nD
     rw[mo i' o' iA]at heq
     have:=r'.inj i i' (fo i o hi).2.2.1 (fo i' o' iA).2.2.1 heq
     subst this
     rw[hi]at iA;cases iA;rfl
    | none=>
     obtain⟨h1,h2,_⟩:=uo o' Bl nD
     rw[Kt o' nD]at heq
     rcases YL i o hi with ⟨h3,h4,h5⟩|h3
     ·rw [h5]at heq
      have:=r.inj o o' h3 h1 heq
      subst this;exact(h2 h4).elim
     ·have:=r.qX h1;omega
   | none=>
    obtain⟨h1,h2,_⟩:=uo o hD hp
    rw[Kt o hp]at heq
    cases nD:posOf mE o' with
    | some i'=>
     have iA:=jh nD
     rw[mo i' o' iA]at heq
     rcases YL i' o' iA with ⟨h3,h4,h5⟩|h3
     ·rw [h5]at heq
      have:=r.inj o o' h1 h3 heq
      subst this;exact(h2 h4).elim
     ·have:=r.qX h1;omega
    |none=>
     obtain⟨sU,_,_⟩:=uo o' Bl nD
     rw[Kt o' nD]at heq
     exact r.inj o o' h1 sU heq
  ·rcases lv t ⟨n,hn⟩with ⟨i,hi,hl⟩ | ⟨hp,hl,ow⟩
   ·rw [mt i t hi, ← mG]
    exact r'.tok i n (by rw[← (ft i t hi).2.1];exact hn)
   ·obtain⟨_,_,h3⟩:=ut t (List.getElem?_eq_some_iff.1 hn).1 hp
    rw[h3]at hn
    rw[Ku t hp]
    rcases r.tok t n hn with h4|⟨b,cap,size,vs,T,g1,g2,g3,g4,g5⟩
    ·exact .inl h4
    ·obtain⟨k1,k2⟩:=ahs t b cap size hl ow g1
     exact .inr ⟨b,cap,size,vs,T,g1,by rw[k1];exact g2,g3,g4,fun off ho=>by rw[← mG,k2 off];exact g5.1 off ho,g5.2⟩
  ·rcases lv t hl with ⟨i,hi,mN⟩ | ⟨hp,mN,ow⟩
   ·rw [mt i t hi]at hb
    cases Kv:posOf mE o with
    |some j=>
     have hj:=jh Kv
     rw[mo j o hj]
     exact r'.fy i b c z j mN hb (fo j o hj).2.2.1
    |none=>
     obtain⟨h1,h2,_⟩:=uo o hD Kv
     rw[Kt o Kv]
     rcases YM i t b c z hi mN hb with ⟨h3,_,c',z',h4⟩|h3
     ·exact r.fy t b c' z' o h3 h4 h1
     ·have:=r.qX h1;omega
   ·rw [Ku t hp]at hb
    cases Kv:posOf mE o with
    |some j=>
     have hj:=jh Kv
     rw[mo j o hj]
     rcases YL j o hj with ⟨h3,_,h5⟩|h3
     ·rw[h5];exact r.fy t b c z o mN hb h3
     ·have:=r.tB mN hb;omega
    |none=>
     obtain⟨h1,_,_⟩:=uo o hD Kv
     rw[Kt o Kv];exact r.fy t b c z o mN hb h1
  ·rcases lv t hl with ⟨i,hi,Bn⟩ | ⟨hp,hD,ow⟩
   ·rw [mt i t hi]at hb
    rcases lv t' mN with ⟨i',iA,VH⟩|⟨nD,Bl,YN⟩
    ·rw [mt i' t' iA]at sS
     have:=r'.gd i i' b c z c' z' Bn VH hb sS
     subst this
     rw[hi]at iA;cases iA;rfl
    ·rw [Ku t' nD]at sS
     rcases YM i t b c z hi Bn hb with ⟨h3,h4,c2,z2,h5⟩|h3
     ·have:=r.gd t t' b c2 z2 c' z' h3 Bl h5 sS
      subst this;exact(YN h4).elim
     ·have:=r.tB Bl sS;omega
   ·rw [Ku t hp]at hb
    rcases lv t' mN with ⟨i',iA,VH⟩|⟨nD,Bl,YN⟩
    ·rw [mt i' t' iA]at sS
     rcases YM i' t' b c' z' iA VH sS with ⟨h3,h4,c2,z2,h5⟩|h3
     ·have:=r.gd t t' b c z c2 z2 hD h3 hb h5
      subst this;exact(ow h4).elim
     ·have:=r.tB hD hb;omega
    ·rw [Ku t' nD]at sS
     exact r.gd t t' b c z c' z' hD Bl hb sS
end Go.Abs
namespace Go.Abs
def Wk (d d':D):Prop:=∀ (M:Map) (s:St) (v:Value),RD M s d v→RD M s d' v
inductive jK:List D→List D→Prop where
 |nil:jK [] []
 |cons {d d':D} {l l':List D} (h:Wk d d') (t:jK l l'):jK (d::l) (d'::l')
inductive gM:List (List D)→List (List D)→Prop where
 |nil:gM [] []
 |cons {r r':List D} {l l':List (List D)} (h:jK r r') (t:gM l l'):gM (r::l) (r'::l')
theorem Wk.refl (d:D):Wk d d:=fun _ _ _ h=>h
theorem Wk.trans {a b c:D} (h:Wk a b) (k:Wk b c):Wk a c:=fun M s v r=>k M s v (h M s v r)
theorem Wk.junk (d:D):Wk d .junk:=fun _ _ v _=> .junk v
theorem jK.refl : ∀ l,jK l l
 | []=> .nil
 |d::l=> .cons (Wk.refl d) (jK.refl l)
theorem gM.refl : ∀ l,gM l l
 | []=> .nil
 |d::l=> .cons (jK.refl d) (gM.refl l)
theorem jK.len {l l':List D} (h:jK l l'):l.length=l'.length:=by
 induction h with
 |nil=>rfl
 |cons _ _ ih=>simp[ih]
theorem gM.len {l l':List (List D)} (h:gM l l'):l.length=l'.length:=by
 induction h with
 |nil=>rfl
 |cons _ _ ih=>simp[ih]
theorem jK.get {l l':List D} (h:jK l l') : ∀ {i:Nat} {d':D},l'[i]? = some d'→∃ d,l[i]? = some d∧Wk d d':=by
 induction h with
 |nil=>intro i d' e;simp at e
 |cons hd _ ih=>
  intro i d' e
  cases i with
  |zero=>simp at e;subst e;exact⟨_,rfl,hd⟩
  |succ i=>simp at e;simpa using ih e
theorem gM.get {l l':List (List D)} (h:gM l l') : ∀ {i:Nat} {d':List D},l'[i]? = some d'→∃ d,l[i]? = some d∧jK d d':=by
 induction h with
 |nil=>intro i d' e;simp at e
 |cons hd _ ih=>
  intro i d' e
  cases i with
  |zero=>simp at e;subst e;exact⟨_,rfl,hd⟩
  |succ i=>simp at e;simpa using ih e
theorem jK.append {a a' b b':List D} (h:jK a a') (k:jK b b'):jK (a++b) (a'++b'):=by
 induction h with
 |nil=>exact k
 |cons hd _ ih=>exact .cons hd ih
theorem gM.append {a a' b b':List (List D)} (h:gM a a') (k:gM b b'):gM (a++b) (a'++b'):=by
 induction h with
 |nil=>exact k
 |cons hd _ ih=>exact .cons hd ih
theorem Wk.agg {l l':List D} (h:jK l l'):Wk (.agg l) (.agg l'):=by
 intro M s v r
 cases r with
 |agg _ vs hl h1 hr=>
  refine .agg _ vs (by rw[← hl,h.len]) h1 fun i d' u e e2=>?_
  obtain⟨d,e1,hw⟩:=h.get e
  exact hw M s u (hr i d u e1 e2)
theorem Wk.tuple {l l':List D} (h:jK l l'):Wk (.tuple l) (.tuple l'):=by
 intro M s v r
 cases r with
 |tuple _ vs hl hr=>
  refine .tuple _ vs (by rw[← hl,h.len]) fun i d' u e e2=>?_
  obtain⟨d,e1,hw⟩:=h.get e
  exact hw M s u (hr i d u e1 e2)
theorem Wk.rows {g:Tag} {z:Nat} {l l':List (List D)} (h:gM l l'):Wk (.slice g z l) (.slice g z l'):=by
 intro M s v r
 cases r with
 |jb _ _ cap hc ht=>cases h;exact .jb _ _ _ hc ht
 |mg _ a cap=>cases h;exact .mg _ a cap
 | slice _ _ _ b k cap hl hs h1 h2 ht=>
  rw[h.len]
  refine .slice g z l' b k cap (by rw[← h.len];exact hl) (fun row hm=>?_) (fun i row j d e e2=>?_) (fun i row j d u e e2 eu=>?_) (by rw[← h.len];exact ht)
  ·obtain⟨i,hi,he⟩:=List.mem_iff_getElem.1 hm
   obtain⟨r0,g1,g2⟩:=h.get (i:=i) (by rw[List.getElem?_eq_getElem hi,he])
   rw[← g2.len];exact hs r0 (List.mem_of_getElem? g1)
  ·obtain⟨r0,g1,g2⟩:=h.get e
   obtain⟨d0,g3,_⟩:=g2.get e2
   exact h1 i r0 j d0 g1 g3
  ·obtain⟨r0,g1,g2⟩:=h.get e
   obtain⟨d0,g3,g4⟩:=g2.get e2
   exact g4 M s u (h2 i r0 j d0 u g1 g3 eu)
theorem Wk.shared (g:Tag) (z:Nat) (l:List (List D)):Wk (.slice g z l) (.slice .shared z l):=by
 intro M s v r
 cases r with
 |jb _ _ cap hc ht=>exact .jb _ _ _ hc trivial
 |mg _ a cap=>exact .mg _ a cap
 |slice _ _ _ b k cap hl hs h1 h2 ht=>exact .slice _ _ _ b k cap hl hs h1 h2 trivial
theorem Wk.slice {g:Tag} {z:Nat} {l l':List (List D)} (h:gM l l'):Wk (.slice g z l) (.slice .shared z l'):=(Wk.shared g z l).trans (Wk.rows h)
theorem Wk.nil (g:Tag) (z z':Nat):Wk (.slice g z []) (.slice .shared z' []):=by
 intro M s v r
 cases r with
 |jb _ _ cap hc ht=>exact .jb _ _ _ hc trivial
 |mg _ a cap=>exact .mg _ a cap
 |slice _ _ _ b k cap hl hs h1 h2 ht=>exact .slice _ _ [] b k cap hl (by simp) (by simp) (by simp) trivial
theorem Wk.alM (z z':Nat):Wk (.slice .full z []) (.slice .full z' []):=by
 intro M s v r
 cases r with
 |jb _ _ cap hc ht=>exact .jb _ _ _ hc ht
 |slice _ _ _ b k cap hl hs h1 h2 ht=>exact .slice _ _ [] b k cap hl (by simp) (by simp) (by simp) ht
theorem Rel.sb {M:Map} {s:St} {w:World} {ah:List (List D)} (r:Rel M s w) (h:gM s.ah ah):Rel M ⟨ah,s.ay⟩ w∧Le M s M ⟨ah,s.ay⟩:=by
 have le:Le M s M ⟨ah,s.ay⟩:=⟨fun _ _ _ h=>h,Nat.le_of_eq h.len,fun _ _=> .refl _,Nat.le_refl _,fun t n' _ e=>⟨n',e,Nat.le_refl _,fun _=>rfl⟩⟩
 have hl:=h.len
 refine⟨⟨r.comm,fun o ds e=>?_,fun o ho=>r.ki o (by rw[hl];exact ho),fun o o' ho od=>r.inj o o' (by rw[hl];exact ho) (by rw[hl];exact od),r.tok,
  fun t b c z o hv e ho=>r.fy t b c z o hv e (by rw[hl];exact ho),r.gd⟩,le⟩
 obtain⟨ds0,g1,g2⟩:=h.get e
 obtain⟨vs,T,h1,h2,h3,h4⟩:=r.obj o ds0 g1
 refine⟨vs,T,h1,by rw[h2,g2.len],h3,fun i d v e1 e2=>?_⟩
 obtain⟨d0,k1,k2⟩:=g2.get e1
 exact(k2 _ _ _ (h4 i d0 v k1 e2)).mono le
theorem Rel.blank {M:Map} {s:St} {w:World} (r:Rel M s w) :
 Rel (M.fi s.ay.length none) {s with ay:=s.ay++ [some 0]} w∧Le M s (M.fi s.ay.length none) {s with ay:=s.ay++ [some 0]}:=by
 have iU : ∀ t,St.live {s with ay:=s.ay++ [some 0]} t→s.live t∨t=s.ay.length:=by
  rintro t ⟨k,hk⟩
  rcases Nat.lt_or_ge t s.ay.length with h|h
  ·rw[List.getElem?_append_left h]at hk;exact .inl ⟨k,hk⟩
  ·have:=(List.getElem?_eq_some_iff.1 hk).1
   simp at this;exact .inr (by omega)
 have hD : ∀ t,s.live t→t<s.ay.length:=fun t ⟨k,hk⟩=>(List.getElem?_eq_some_iff.1 hk).1
 have hold : ∀ t,t<s.ay.length→(M.fi s.ay.length none).be t=M.be t:=fun t h=>by simp[Map.fi];omega
 have dw:(M.fi s.ay.length none).be s.ay.length=none:=by simp[Map.fi]
 have le:Le M s (M.fi s.ay.length none) {s with ay:=s.ay++ [some 0]}:=
  ⟨fun _ _ _ h=>h,Nat.le_refl _,fun _ _=> .refl _,by simp,fun t k h e=>by
   rw[List.getElem?_append_left h]at e
   exact⟨k,e,Nat.le_refl _,fun _=>hold t h⟩⟩
 refine⟨⟨r.comm,fun o ds e=>?_,r.ki,r.inj,fun t k e=>?_,fun t b' c z o hl e od=>?_,fun t t' b' c z c' z' h h' e e'=>?_⟩,le⟩
 ·obtain⟨fO,T',h3,h4,h5,h6⟩:=r.obj o ds e
  exact⟨fO,T',h3,h4,h5,fun i d v e1 e2=>(h6 i d v e1 e2).mono le⟩
 ·rcases Nat.lt_or_ge t s.ay.length with h | h
  ·rw [List.getElem?_append_left h]at e
   rw[hold t h];exact r.tok t k e
  ·have:=(List.getElem?_eq_some_iff.1 e).1
   simp at this
   have:t=s.ay.length:=by omega
   subst this
   simp at e;subst e
   exact .inl ⟨dw,rfl⟩
 ·rcases iU t hl with h | h
  ·rw[hold t (hD t h)]at e;exact r.fy t b' c z o h e od
  ·subst h;rw[dw]at e;cases e
 ·rcases iU t h with h | h <;> rcases iU t' h' with h' | h'
  ·rw[hold t (hD t h)]at e;rw[hold t' (hD t' h')]at e';exact r.gd t t' b' c z c' z' h h' e e'
  ·subst h';rw[dw]at e';cases e'
  ·subst h;rw[dw]at e;cases e
  ·omega
theorem RD.own {M:Map} {s:St} {z z':Nat} {v:Value} (h:RD M s (.slice .full z []) v):RD (M.fi s.ay.length none) {s with ay:=s.ay++ [some 0]} (.slice (.tok s.ay.length) z' []) v:=by
 have key : ∀ base:Option (Nat×Nat),jg (M.fi s.ay.length none) {s with ay:=s.ay++ [some 0]} (.tok s.ay.length) z' 0 base 0:=by
  intro base
  refine⟨by simp,fun n e=>?_⟩
  simp at e
  subst e
  exact⟨Nat.le_refl _,fun _=> .inl ⟨by simp[Map.fi],rfl,fun h=>by cases h⟩⟩
 cases h with
 |jb _ _ cap hc ht=>subst hc;exact .jb _ _ _ rfl (key none)
 |slice _ _ _ b k cap hl hs h1 h2 ht=>
  have:cap=0:=ht
  subst this
  exact .slice _ _ [] b k 0 (Nat.le_refl _) (by simp) (by simp) (by simp) (key _)
section
variable {P:Program} {B:gi} {nt:Nat} {Q:Exit→Tm→St→Prop} {tm:Tm} {s:St}
theorem Sem.wkO {ac:AC} (ah:List (List D)) (hw:gM s.ah ah) (h:Sem P B nt ac Q tm ⟨ah,s.ay⟩):Sem P B nt ac Q tm s:=by
 intro c hc act w ⟨M,e,r,ht,h1,h2⟩
 obtain⟨r',le⟩:=r.sb hw
 refine h c hc act w ⟨M,e.trans ⟨le,fun _ _ _ _=>rfl,fun o h1 h2=>?_,fun t b c z hl e=> .inl ⟨hl,c,z,e⟩,fun _ _ h=>(h rfl).elim,Nat.le_refl _,rfl,rfl,rfl⟩,r',fun k=>(ht k).mono le,h1,h2⟩
 simp only[← hw.len]at h2
 exact h1.elim (fun h1=>absurd h2 (Nat.not_lt.2 h1)) fun h1=>(h1 rfl).elim
theorem H6 {M0 M:Map} {s0 s:St} {w0 w:World} (e:Ext M0 s0 w0 M s w) (le:Le M s (M.fi s.ay.length none) {s with ay:=s.ay++ [some 0]}) :
 Ext M0 s0 w0 (M.fi s.ay.length none) {s with ay:=s.ay++ [some 0]} w:=by
 refine e.trans ⟨le,fun _ _ _ _=>rfl,fun o h1 h2=>h1.elim (fun h1=>absurd h2 (Nat.not_lt.2 h1)) (fun h1=>(h1 rfl).elim),fun t b c z hl eq=>?_,fun _ _ h=>(h rfl).elim,Nat.le_refl _,rfl,rfl,rfl⟩
 obtain⟨k,hk⟩:=hl
 rcases Nat.lt_or_ge t s.ay.length with h|h
 ·refine .inl ⟨⟨k,by rw [List.getElem?_append_left h]at hk;exact hk⟩,c,z, ?_⟩
  have:(M.fi s.ay.length none).be t=M.be t:=by simp[Map.fi];omega
  rw[← this];exact eq
 ·have:=(List.getElem?_eq_some_iff.1 hk).1
  simp at this
  have:t=s.ay.length:=by omega
  subst this
  simp[Map.fi]at eq
end
def aF (P:Program) (f:Nat) (args:List D) (s:St) (d:D) (s':St):Prop:=bP P f args s fun x y=>x=d∧y=s'
def qE (n m:Nat) (res:List (Nat×Option (Bool×Nat))) (d:D) (s':St):Exit→Tm→St→Prop
 | .normal,tm,s| .ret,tm,s=>∃ l,aT res tm s=some l∧Wk ((aV l).fg n m) d∧gM (s.cut n m).ah s'.ah∧(s.cut n m).ay=s'.ay
 |_,_,_=>False
theorem bP.sb {P:Program} {f:FuncId} {args Fv:List D} {s:St} {Q:D→St→Prop} (ha:jK args Fv) (h:bP P f Fv s Q):bP P f args s Q:=
 fun M w fS r k6 hl hr=>h M w fS r k6 (by rw[hl,ha.len]) fun i d v e1 e2=>by
  obtain⟨d0,g1,g2⟩:=ha.get e1
  exact g2 _ _ _ (hr i d0 v g1 e2)
theorem bP.JI {P:Program} {f:FuncId} {args:List D} {s:St} {Q Q':D→St→Prop} (h:bP P f args s Q) (hq : ∀ d s1,Q d s1→∃ d' s',Wk d d'∧gM s1.ah s'.ah∧s1.ay=s'.ay∧Q' d' s'):bP P f args s Q':=
 fun M w fS r k6 hl ha=>(h M w fS r k6 hl ha).mono fun _ _ ⟨M',d,v,s1,h1,h2,h3,h4,h5⟩=>by
  obtain⟨d',s',g1,g2,g3,g4⟩:=hq d s1 h2
  obtain⟨r',le⟩:=h4.sb g2
  have hs:(⟨s'.ah,s1.ay⟩:St)=s':=by rw[g3]
  rw[hs]at r' le
  refine⟨M',d',v,s',h1,g4,h3.trans ⟨le,fun _ _ _ _=>rfl,fun o h1 h2=>?_,fun t b c z hl e=> .inl ⟨by obtain⟨n,hn⟩:=hl;exact⟨n,by rw[g3];exact hn⟩,c,z,e⟩,fun _ _ h=>(h rfl).elim,Nat.le_refl _,rfl,rfl,rfl⟩,r',(g1 _ _ _ h5).mono le⟩
  rw[← g2.len]at h2
  exact h1.elim (fun h1=>absurd h2 (Nat.not_lt.2 h1)) fun h1=>(h1 rfl).elim
theorem aF.intro {P:Program} {f:FuncId} {af:AF} {args:List D} {s:St} {d:D} {s':St} (h0 : ∃ fn,P.funcs[f]? = some fn∧cF P fn=some af) (hl:args.length≤af.ntmps)
 (h : ∀ B:gi,B.s=s→Sem P B af.ntmps af.body (qE s.ah.length s.ay.length af.results d s') (nA 0 args) s):aF P f args s d s':=by
 obtain⟨fn,hf,hc⟩:=h0
 refine bP.JI (bP.intro (Q:=fun d1 s1=>Wk d1 d∧gM s1.ah s'.ah∧s1.ay=s'.ay) hf hc hl fun B hB=>(h B hB).mono fun e tm s1 hr=>?_) fun d1 s1 ⟨h1,h2,h3⟩=>⟨d,s',h1,h2,h3,rfl,rfl⟩
 subst hB
 cases e with
 |normal=>obtain⟨l,h1,h2,h3,h4⟩:=hr;exact⟨l,h1,_,_,Nat.le_refl _,Nat.le_refl _,h2,h3,h4⟩
 |ret=>obtain⟨l,h1,h2,h3,h4⟩:=hr;exact⟨l,h1,_,_,Nat.le_refl _,Nat.le_refl _,h2,h3,h4⟩
 |exit id=>exact hr.elim
 |goto l=>exact hr.elim
 |panic ch=>exact hr.elim
 |outgrown=>exact hr.elim
theorem aF.use {P:Program} {f:FuncId} {args:List D} {s:St} {d:D} {s':St} {Q:D→St→Prop} (h:aF P f args s d s') (hq:Q d s'):bP P f args s Q:=
 bP.mono h fun x y ⟨h1,h2⟩=>by subst h1;subst h2;exact hq
mutual
theorem rm (os ts:List Nat) : ∀ d,D.ok 0 0 d=true→D.dh os ts d=d
 | .junk,_=>by simp[D.dh]
 | .int k n,_=>by simp[D.dh]
 | .bool b,_=>by simp[D.dh]
 | .str l,_=>by simp[D.dh]
 | .ew,_=>by simp[D.dh]
 | .val v,_=>by simp[D.dh]
 | .fF T o,h=>by simp[D.ok]at h
 | .gb o,h=>by simp[D.ok]at h
 | .eQ z o g len,h=>by simp[D.ok]at h
 | .fG o g off,h=>by simp[D.ok]at h
 | .eJ z,_=>by simp[D.dh]
 | .gw f cs,h=>by
  simp only[D.ok]at h
  simp only[D.dh,fM os ts cs h]
 | .ptr o f,h=>by simp[D.ok]at h
 | .dI r f,h=>by
  simp only[D.ok]at h
  simp only[D.dh,fM os ts r h]
 | .slice g z rows,h=>by
  simp only[D.ok,Bool.and_eq_true]at h
  simp only[D.dh,jB os ts rows h.2]
  cases g with
  |tok t y=>simp[Tag.ok]at h
  |full=>rfl
  |shared=>rfl
 | .agg cs,h=>by
  simp only[D.ok]at h
  simp only[D.dh,fM os ts cs h]
 | .tuple cs,h=>by
  simp only[D.ok]at h
  simp only[D.dh,fM os ts cs h]
theorem fM (os ts:List Nat) : ∀ l,D.bJ 0 0 l=true→D.fk os ts l=l
 | [],_=>by simp[D.fk]
 |d::r,h=>by
  simp only[D.bJ,Bool.and_eq_true]at h
  simp only[D.fk,rm os ts d h.1,fM os ts r h.2]
theorem jB (os ts:List Nat) : ∀ l,D.gL 0 0 l=true→D.ov os ts l=l
 | [],_=>by simp[D.ov]
 |d::r,h=>by
  simp only[D.gL,Bool.and_eq_true]at h
  simp only[D.ov,fM os ts d h.1,jB os ts r h.2]
end
mutual
theorem G0 {n m n' m':Nat} (hn:n≤n') (hm:m≤m') : ∀ d,D.ok n m d=true→D.ok n' m' d=true
 | .junk,_=>rfl
 | .int k n,_=>rfl
 | .bool b,_=>rfl
 | .str l,_=>rfl
 | .ew,_=>rfl
 | .val v,_=>rfl
 | .fF T o,h=>by simp[D.ok]at h ⊢;omega
 | .gb o,h=>by simp[D.ok]at h ⊢;omega
 | .eQ z o g len,h=>by simp[D.ok]at h ⊢;omega
 | .fG o g off,h=>by simp[D.ok]at h ⊢;omega
 | .eJ z,_=>rfl
 | .gw f cs,h=>by
  simp only[D.ok]at h ⊢
  exact iQ hn hm cs h
 | .ptr o f,h=>by simp only[D.ok,decide_eq_true_eq]at h ⊢;omega
 | .dI r f,h=>by
  simp only[D.ok]at h ⊢
  exact iQ hn hm r h
 | .slice g z rows,h=>by
  simp only[D.ok,Bool.and_eq_true]at h ⊢
  refine⟨?_,ng hn hm rows h.2⟩
  cases g with
  |tok t y=>simp only[Tag.ok,decide_eq_true_eq]at h ⊢;omega
  |full=>rfl
  |shared=>rfl
 | .agg cs,h=>by
  simp only[D.ok]at h ⊢
  exact iQ hn hm cs h
 | .tuple cs,h=>by
  simp only[D.ok]at h ⊢
  exact iQ hn hm cs h
theorem iQ {n m n' m':Nat} (hn:n≤n') (hm:m≤m') : ∀ l,D.bJ n m l=true→D.bJ n' m' l=true
 | [],_=>rfl
 |d::r,h=>by
  simp only[D.bJ,Bool.and_eq_true]at h ⊢
  exact⟨G0 hn hm d h.1,iQ hn hm r h.2⟩
theorem ng {n m n' m':Nat} (hn:n≤n') (hm:m≤m') : ∀ l,D.gL n m l=true→D.gL n' m' l=true
 | [],_=>rfl
 |d::r,h=>by
  simp only[D.gL,Bool.and_eq_true]at h ⊢
  exact⟨iQ hn hm d h.1,ng hn hm r h.2⟩
end
def S0:St:=⟨[],[]⟩
section
variable {P:Program} {f:Nat}
theorem aF.pure {args:List D} {d:D} (h:aF P f args S0 d S0) (ha:D.bJ 0 0 args=true) (hd:D.ok 0 0 d=true) (s:St):aF P f args s d s:=by
 refine bP.frame [] [] h List.nodup_nil List.nodup_nil (by simp) (by simp) rfl (by simp) rfl (by simp) (by rw[fM _ _ _ ha]) ha ?_
 rintro _ _ ⟨rfl,rfl⟩
 refine⟨rm _ _ _ hd, ?_⟩
 simp[St.back,lg,S0]
theorem aF.VI {args row kT:List D} {d:D} (h:aF P f (.ptr 0 0::args) ⟨[row],[]⟩ d ⟨[kT],[]⟩) (ha:D.bJ 0 0 args=true) (hr:D.bJ 0 0 row=true) (Sl:D.bJ 0 0 kT=true) (hd:D.ok 0 0 d=true)
 {s:St} {o:Nat} (ho:s.ah[o]? = some row):aF P f (.ptr o 0::args) s d ⟨s.ah.set o kT,s.ay⟩:=by
 refine bP.frame [o] [] h (by simp) List.nodup_nil (by simpa using (List.getElem?_eq_some_iff.1 ho).1) (by simp) rfl (fun i o' ds e1 e2=>?_) rfl (by simp) (by simp[D.fk,D.dh,fM _ _ _ ha])
  (by simp[D.bJ,D.ok,iQ (Nat.zero_le 1) (Nat.le_refl 0) _ ha]) ?_
 ·cases i with
  |zero=>simp at e1 e2;subst e1;subst e2;exact⟨by rw[fM _ _ _ hr];exact ho,iQ (Nat.zero_le 1) (Nat.le_refl 0) _ hr⟩
  |succ i=>simp at e1
 ·rintro _ _ ⟨rfl,rfl⟩
  refine⟨rm _ _ _ hd, ?_⟩
  simp[St.back,lg,fM _ _ _ Sl]
end
end Go.Abs
namespace Go.Abs
theorem X.ct {x:X} {tm bD:Tm} (h : ∀ t∈x.reads,tm.get t=bD.get t):x.ev tm=x.ev bD:=by
 cases x with
 |s t=>exact h t (by simp[X.reads])
 |k d=>rfl
theorem sc {t:Nat} {x:X} : ∀ {l:List X},x∈l→t∈x.reads→t∈oN l
 | [],h,_=>by cases h
 |y::r,h,ht=>by
  simp only[oN,List.mem_append]
  rcases List.mem_cons.1 h with rfl|h
  ·exact .inl ht
  ·exact .inr (sc h ht)
theorem xn {x:Option X} {tm bD:Tm} (h : ∀ t∈BN x,tm.get t=bD.get t):x.map (·.ev tm)=x.map (·.ev bD):=by
 cases x with
 |none=>rfl
 |some y=>simp only[Option.map_some];rw[X.ct h]
theorem D4 {o:AO} {tm bD:Tm} {s:St} (h : ∀ t∈o.reads,tm.get t=bD.get t):aM o tm s=aM o bD s:=by
 cases o with
 |mv x=>
  have hx:x.ev tm=x.ev bD:=X.ct fun t ht=>h t (by simp[AO.reads,ht])
  simp only[aM,hx]
 |pick c a b=>
  have hc:c.ev tm=c.ev bD:=X.ct fun t ht=>h t (by simp[AO.reads,ht])
  have ha:a.ev tm=a.ev bD:=X.ct fun t ht=>h t (by simp[AO.reads,ht])
  have hb:b.ev tm=b.ev bD:=X.ct fun t ht=>h t (by simp[AO.reads,ht])
  simp only[aM,hc,ha,hb]
 |alloc z=>
  rfl
 |tV z T=>rfl
 |BK x T=>
  have hx:x.ev tm=x.ev bD:=X.ct fun t ht=>h t (by simp[AO.reads,ht])
  simp only[aM,hx]
 |BL x y=>
  have hx:x.ev tm=x.ev bD:=X.ct fun t ht=>h t (by simp[AO.reads,ht])
  have hy:y.ev tm=y.ev bD:=X.ct fun t ht=>h t (by simp[AO.reads,ht])
  simp only[aM,hx,hy]
 |apps x y=>
  have hx:x.ev tm=x.ev bD:=X.ct fun t ht=>h t (by simp[AO.reads,ht])
  have hy:y.ev tm=y.ev bD:=X.ct fun t ht=>h t (by simp[AO.reads,ht])
  simp only[aM,hx,hy]
 |box x=>
  have hx:x.ev tm=x.ev bD:=X.ct fun t ht=>h t (by simp[AO.reads,ht])
  simp only[aM,hx]
 |BI x=>
  have hx:x.ev tm=x.ev bD:=X.ct fun t ht=>h t (by simp[AO.reads,ht])
  simp only[aM,hx]
 |load x g n=>
  have hx:x.ev tm=x.ev bD:=X.ct fun t ht=>h t (by simp[AO.reads,ht])
  simp only[aM,hx]
 |store p x n=>
  have hp:p.ev tm=p.ev bD:=X.ct fun t ht=>h t (by simp[AO.reads,ht])
  have hx:x.ev tm=x.ev bD:=X.ct fun t ht=>h t (by simp[AO.reads,ht])
  simp only[aM,hp,hx]
 |bY x=>
  have hx:x.ev tm=x.ev bD:=X.ct fun t ht=>h t (by simp[AO.reads,ht])
  simp only[aM,hx]
 |bin op x y=>
  have hx:x.ev tm=x.ev bD:=X.ct fun t ht=>h t (by simp[AO.reads,ht])
  have hy:y.ev tm=y.ev bD:=X.ct fun t ht=>h t (by simp[AO.reads,ht])
  simp only[aM,hx,hy]
 |HR n x y=>
  have hx:x.ev tm=x.ev bD:=X.ct fun t ht=>h t (by simp[AO.reads,ht])
  have hy:y.ev tm=y.ev bD:=X.ct fun t ht=>h t (by simp[AO.reads,ht])
  simp only[aM,hx,hy]
 |eqs n ks x y=>
  have hx:x.ev tm=x.ev bD:=X.ct fun t ht=>h t (by simp[AO.reads,ht])
  have hy:y.ev tm=y.ev bD:=X.ct fun t ht=>h t (by simp[AO.reads,ht])
  simp only[aM,hx,hy]
 |HS n x y=>
  have hx:x.ev tm=x.ev bD:=X.ct fun t ht=>h t (by simp[AO.reads,ht])
  have hy:y.ev tm=y.ev bD:=X.ct fun t ht=>h t (by simp[AO.reads,ht])
  simp only[aM,hx,hy]
 |un op x=>
  have hx:x.ev tm=x.ev bD:=X.ct fun t ht=>h t (by simp[AO.reads,ht])
  simp only[aM,hx]
 |conv k x=>
  have hx:x.ev tm=x.ev bD:=X.ct fun t ht=>h t (by simp[AO.reads,ht])
  simp only[aM,hx]
 |E8 x=>
  have hx:x.ev tm=x.ev bD:=X.ct fun t ht=>h t (by simp[AO.reads,ht])
  simp only[aM,hx]
 |yO x=>
  have hx:x.ev tm=x.ev bD:=X.ct fun t ht=>h t (by simp[AO.reads,ht])
  simp only[aM,hx]
 |aq x n=>
  have hx:x.ev tm=x.ev bD:=X.ct fun t ht=>h t (by simp[AO.reads,ht])
  simp only[aM,hx]
 |DW x n g m=>
  have hx:x.ev tm=x.ev bD:=X.ct fun t ht=>h t (by simp[AO.reads,ht])
  simp only[aM,hx]
 |bZ x i n=>
  have hx:x.ev tm=x.ev bD:=X.ct fun t ht=>h t (by simp[AO.reads,ht])
  have hi:i.ev tm=i.ev bD:=X.ct fun t ht=>h t (by simp[AO.reads,ht])
  simp only[aM,hx,hi]
 |BJ x i=>
  have hx:x.ev tm=x.ev bD:=X.ct fun t ht=>h t (by simp[AO.reads,ht])
  have hi:i.ev tm=i.ev bD:=X.ct fun t ht=>h t (by simp[AO.reads,ht])
  simp only[aM,hx,hi]
 |ext x i=>
  have hx:x.ev tm=x.ev bD:=X.ct fun t ht=>h t (by simp[AO.reads,ht])
  simp only[aM,hx]
 |len x=>
  have hx:x.ev tm=x.ev bD:=X.ct fun t ht=>h t (by simp[AO.reads,ht])
  simp only[aM,hx]
 |vY x=>
  have hx:x.ev tm=x.ev bD:=X.ct fun t ht=>h t (by simp[AO.reads,ht])
  simp only[aM,hx]
 |app a b x y=>
  have hx:x.ev tm=x.ev bD:=X.ct fun t ht=>h t (by simp[AO.reads,ht])
  have hy:y.ev tm=y.ev bD:=X.ct fun t ht=>h t (by simp[AO.reads,ht])
  simp only[aM,hx,hy]
 |mm b x y=>
  have hx:x.ev tm=x.ev bD:=X.ct fun t ht=>h t (by simp[AO.reads,ht])
  have hy:y.ev tm=y.ev bD:=X.ct fun t ht=>h t (by simp[AO.reads,ht])
  simp only[aM,hx,hy]
 | build z ps=>
  have hp:(ps.map fun p=>(p.1,p.2.1,p.2.2.ev tm))=ps.map fun p=>(p.1,p.2.1,p.2.2.ev bD):=List.map_congr_left fun p hp=>by
   have:p.2.2.ev tm=p.2.2.ev bD:=X.ct fun t ht=>h t (by simp only[AO.reads];exact sc (List.mem_map_of_mem hp) ht)
   rw[this]
  simp only[aM,hp]
 | dq z m n ps=>
  have hp:(ps.map fun p=>(p.1,p.2.ev tm))=ps.map fun p=>(p.1,p.2.ev bD):=List.map_congr_left fun p hp=>by
   have:p.2.ev tm=p.2.ev bD:=X.ct fun t ht=>h t (by simp only[AO.reads];exact sc (List.mem_map_of_mem hp) ht)
   rw[this]
  simp only[aM,hp]
 | vX z m n ps=>
  have hp:(ps.map fun p=>(p.1,p.2.ev tm))=ps.map fun p=>(p.1,p.2.ev bD):=List.map_congr_left fun p hp=>by
   have:p.2.ev tm=p.2.ev bD:=X.ct fun t ht=>h t (by simp only[AO.reads];exact sc (List.mem_map_of_mem hp) ht)
   rw[this]
  simp only[aM,hp]
 |E9 n x lo hi=>
  have hx:x.ev tm=x.ev bD:=X.ct fun t ht=>h t (by simp[AO.reads,ht])
  have hl:lo.map (·.ev tm)=lo.map (·.ev bD):=xn fun t ht=>h t (by simp[AO.reads,ht])
  have hh:hi.map (·.ev tm)=hi.map (·.ev bD):=xn fun t ht=>h t (by simp[AO.reads,ht])
  simp only[aM,hx,hl,hh]
 |JY x lo hi=>
  have hx:x.ev tm=x.ev bD:=X.ct fun t ht=>h t (by simp[AO.reads,ht])
  have hl:lo.map (·.ev tm)=lo.map (·.ev bD):=xn fun t ht=>h t (by simp[AO.reads,ht])
  have hh:hi.map (·.ev tm)=hi.map (·.ev bD):=xn fun t ht=>h t (by simp[AO.reads,ht])
  simp only[aM,hx,hl,hh]
 |vE f xs=>
  have hp:(xs.map fun x=>x.ev tm)=xs.map fun x=>x.ev bD:=List.map_congr_left fun x hx=>X.ct fun t ht=>h t (by simp only[AO.reads];exact sc hx ht)
  simp only[aM,hp]
 |vF=>rfl
 |zR m k v=>
  have hm:m.ev tm=m.ev bD:=X.ct fun t ht=>h t (by simp[AO.reads,ht])
  have hk:k.ev tm=k.ev bD:=X.ct fun t ht=>h t (by simp[AO.reads,ht])
  have hv:v.ev tm=v.ev bD:=X.ct fun t ht=>h t (by simp[AO.reads,ht])
  simp only[aM,hm,hk,hv]
 |BM a b z l c=>
  have hl:l.ev tm=l.ev bD:=X.ct fun t ht=>h t (by simp[AO.reads,ht])
  have hk:c.ev tm=c.ev bD:=X.ct fun t ht=>h t (by simp[AO.reads,ht])
  simp only[aM,hl,hk]
 |rO o x y=>
  have hx:x.ev tm=x.ev bD:=X.ct fun t ht=>h t (by simp[AO.reads,ht])
  have hy:y.ev tm=y.ev bD:=X.ct fun t ht=>h t (by simp[AO.reads,ht])
  simp only[aM,hx,hy]
 |xd m k z=>
  have hm:m.ev tm=m.ev bD:=X.ct fun t ht=>h t (by simp[AO.reads,ht])
  have hk:k.ev tm=k.ev bD:=X.ct fun t ht=>h t (by simp[AO.reads,ht])
  simp only[aM,hm,hk]
theorem MC {x d:D} {agg:Bool} {size:Nat} {s s':St} (h:zT x agg size s=some (d,s')):s'=s:=by
 unfold zT at h
 (repeat' (split at h))<;>first|(cases h;rfl)|cases h
theorem MD {o:AO} (ho:gT o.kind=false) {tm:Tm} {s s':St} {d:D} (h:aM o tm s=some (d,s')):s'=s:=by
 cases o<;>simp only[AO.kind,gT]at ho<;>first|cases ho|skip
 all_goals
  simp only[aM]at h
  first
   |(cases h;rfl)
   |(repeat' (split at h))<;>first|exact MC h|(cases h;rfl)|cases h
theorem Pz {o:AO} (ho:o.kind = .pure) {tm:Tm} {s s':St} : (aM o tm s).map (·.1)=(aM o tm s').map (·.1):=by
 cases o<;>simp only[AO.kind]at ho<;>first|cases ho|skip
 all_goals
  simp only[aM]
  first
   |rfl
   |(repeat' split)<;>rfl
def kq (ai:AI) (tm:Tm) (s:St):Option D:=
 match ai with
 | .op _ none o=>(aM o tm s).map (·.1)
 | .op _ (some (t,want)) o=>
  match tm.get t with
  | .bool b=>if b=want then(aM o tm s).map (·.1)else some (.tuple [])
  | .tuple _=>some (.tuple [])
  |_=>none
 |_=>none
def tG (P:Program) (ai:AI) (tm:Tm) (s:St) (d:D) (s':St):Prop:=
 match ai with
 | .op _ g o=>guarded g tm (aM o tm s=some (d,s')) (d = .tuple []∧s'=s)
 | .call _ g f xs=>guarded g tm (bP P f (xs.map (·.ev tm)) s fun x y=>x=d∧y=s') (d = .tuple []∧s'=s)
 | .nil .. =>False
 | .jM .. =>False
def lD (P:Program) (is:List AI) (K:Tm→St→Prop):List (Nat×Nat)→List St→Tm→St→Prop
 | [],_,tm,s=>K tm s
 | (q,b)::r,bL,tm,s=>
  match is[q]? with
  |none=>False
  |some ai=>
   match gT ai.kind with
   |true=>∃ d s',tG P ai tm s d s'∧lD P is K r (s::bL) (tm.put ai.dst d) s'
   |false=>∃ d,kq ai tm s=some d∧(ai.kind = .load→∀ s'∈bL.take b,kq ai tm s'=some d)∧lD P is K r bL (tm.put ai.dst d) s
def Tm.eqv (a b:Tm):Prop:=∀ t,a.get t=b.get t
theorem Tm.l6 (tm:Tm) (dst:Option Nat) (d:D) (t:Nat):(tm.put dst d).get t=if dst=some t then d else tm.get t:=by
 cases dst with
 |none=>simp[Tm.put]
 |some u=>
  simp only[Tm.put,Tm.GU,Option.some.injEq]
  by_cases h:t=u
  ·subst h;simp
  ·rw[if_neg h,if_neg (fun e=>h e.symm)]
theorem Tm.eqv.put {a b:Tm} (h:a.eqv b) (dst:Option Nat) (d:D):(a.put dst d).eqv (b.put dst d):=fun t=>by
 rw[Tm.l6,Tm.l6,h t]
theorem Tm.Kw (tm:Tm) {x y:Option Nat} (h : ∀ t,x=some t→y≠some t) (d e:D):((tm.put x d).put y e).eqv ((tm.put y e).put x d):=fun t=>by
 simp only[Tm.l6]
 by_cases h1:x=some t
 ·simp only[h1,h t h1,if_true,if_false]
 ·simp only[h1,if_false]
theorem Bo {g:Option (Nat×Bool)} {tm bD:Tm} {A A' C:Prop} (h : ∀ t∈vZ g,tm.get t=bD.get t) (ha:A→A') (hh:guarded g tm A C):guarded g bD A' C:=by
 cases g with
 |none=>exact ha hh
 | some p=>
  obtain⟨t,want⟩:=p
  unfold guarded at *
  simp only at *
  rw[← h t (by simp[vZ])]
  split
  ·rename_i b hb
   rw[hb]at hh
   exact⟨fun e=>ha (hh.1 e),hh.2⟩
  ·rename_i hb
   rw[hb]at hh
   exact hh
  ·rename_i x h1 h2
   split at hh
   ·exact h1 _ ‹_›
   ·exact h2 _ ‹_›
   ·exact hh
theorem H7 {tm bD:Tm} : ∀ {l:List X},(∀ t∈oN l,tm.get t=bD.get t)→l.map (·.ev tm)=l.map (·.ev bD)
 | [],_=>rfl
 |x::r,h=>by
  simp only[List.map_cons]
  rw[X.ct fun t ht=>h t (by simp[oN,ht]),H7 (l:=r) fun t ht=>h t (by simp[oN,ht])]
theorem ye {P:Program} {ai:AI} {tm bD:Tm} {s s':St} {d:D} (h : ∀ t∈ai.reads,tm.get t=bD.get t) (hh:tG P ai tm s d s'):tG P ai bD s d s':=by
 cases ai with
 |op dst g o=>
  simp only[AI.reads,List.mem_append]at h
  exact Bo (fun t ht=>h t (.inl ht)) (fun e=>by rw[← D4 fun t ht=>h t (.inr ht)];exact e) hh
 |call dst g f xs=>
  simp only[AI.reads,List.mem_append]at h
  exact Bo (fun t ht=>h t (.inl ht)) (fun e=>by rw[← H7 fun t ht=>h t (.inr ht)];exact e) hh
 |nil dst g n x=>exact hh
 |jM dst g t xs=>exact hh
theorem rH {ai:AI} {tm bD:Tm} {s:St} (h : ∀ t∈ai.reads,tm.get t=bD.get t):kq ai tm s=kq ai bD s:=by
 cases ai with
 | op dst g o=>
  simp only[AI.reads,List.mem_append]at h
  have he:=D4 (s:=s) fun t ht=>h t (.inr ht)
  cases g with
  |none=>simp only[kq,he]
  |some p=>
   obtain⟨t,want⟩:=p
   simp only[kq,he,h t (.inl (by simp[vZ]))]
 |call dst g f xs=>rfl
 |nil dst g n x=>rfl
 |jM dst g t xs=>rfl
theorem Nv {dst:Option Nat} {g:Option (Nat×Bool)} {o:AO} (h:gT (AI.op dst g o).kind=false):(AI.op dst g o).kind=o.kind:=by
 unfold AI.kind at *
 split at h
 ·cases h
 ·rename_i heq;cases heq;rfl
 ·cases h
theorem VJ {ai:AI} (hk:ai.kind = .pure) {tm:Tm} {s s':St} : kq ai tm s=kq ai tm s':=by
 cases ai with
 |op dst g o=>
  have ho:o.kind = .pure:=by rw[← hk];exact(Nv (by rw[hk];rfl)).symm
  have he:=Pz ho (tm:=tm) (s:=s) (s':=s')
  cases g with
  |none=>simp only[kq,he]
  |some p=>simp only[kq,he]
 |call dst g f xs=>rfl
 |nil dst g n x=>rfl
 |jM dst g t xs=>rfl
theorem apart_spec {a q:AI} (h:a.apart q=true):(∀ t,a.dst=some t→t∉q.reads)∧(∀ t,q.dst=some t→t∉a.reads)∧(∀ t,a.dst=some t→q.dst≠some t):=by
 unfold AI.apart at h
 simp only[Bool.and_eq_true]at h
 obtain⟨⟨h1,h2⟩,h3⟩:=h
 refine⟨fun t e=>?_,fun t e=>?_,fun t e e'=>?_⟩
 ·rw[e]at h1;simpa[Fb]using h1
 ·rw[e]at h2;simpa[Fb]using h2
 ·rw[e,e']at h3;simp at h3
theorem tH {tm:Tm} {dst:Option Nat} {d:D} {l:List Nat} (h : ∀ t,dst=some t→t∉l) : ∀ t∈l,tm.get t=(tm.put dst d).get t:=fun t ht=>by
 rw[Tm.l6,if_neg fun e=>h t e ht]
section
variable {P:Program} {is:List AI} {K:Tm→St→Prop}
theorem tJ (hK : ∀ tm bD s,Tm.eqv tm bD→K tm s→K bD s) : ∀ (R:List (Nat×Nat)) (bL:List St) (tm bD:Tm) (s:St),tm.eqv bD→lD P is K R bL tm s→lD P is K R bL bD s
 | [],_,tm,bD,s,e,h=>hK tm bD s e h
 | (q,b)::R,bL,tm,bD,s,e,h=>by
  unfold lD at *
  split at h
  ·exact h.elim
  ·rename_i ai xm
   split at h
   ·rename_i hc
    obtain⟨d,s',h1,h2⟩:=h
    exact⟨d,s',ye (fun t _=>e t) h1,tJ hK R _ _ _ _ (e.put _ d) h2⟩
   ·rename_i hc
    obtain⟨d,h1,h2,h3⟩:=h
    refine⟨d, ?_,fun hl s' nJ=>?_,tJ hK R _ _ _ _ (e.put _ d) h3⟩
    ·rw[← rH fun t _=>e t];exact h1
    ·rw[← rH fun t _=>e t];exact h2 hl s' nJ
theorem Kx (i:Nat) (l:List Nat):j9 is (i::l)=(if gT (jN is i)then 1 else 0)+j9 is l:=by
 unfold j9
 rw[List.filter_cons]
 split<;>simp<;>omega
theorem yf (hK : ∀ tm bD s,Tm.eqv tm bD→K tm s→K bD s) {q b:Nat} {ai:AI} (hq:is[q]? = some ai) (hm:gT ai.kind=false) (Y:List (Nat×Nat)) :
 ∀ (X:List (Nat×Nat)) (bL:List St) (tm:Tm) (s:St),(∀ a∈X,lW is a.1 q=true)→(ai.kind = .load→j9 is (X.map (·.1))≤b)→
  lD P is K (X++(q,b)::Y) bL tm s→
  ∃ d,kq ai tm s=some d∧(ai.kind = .load→∀ s'∈bL.take (b - j9 is (X.map (·.1))),kq ai tm s'=some d)∧lD P is K (X++Y) bL (tm.put ai.dst d) s
 | [],bL,tm,s,_,_,h=>by
  simp only[List.nil_append,lD,hq,hm]at h
  obtain⟨d,h1,h2,h3⟩:=h
  exact⟨d,h1,fun hl s' nJ=>h2 hl s' (by simpa[j9]using nJ),h3⟩
 | (a,c)::X,bL,tm,s,fb,hb,h=>by
  have PA:=fb (a,c) (by simp)
  unfold lW at PA
  split at PA
  ·rename_i ia iq hia vu
   rw[hq]at vu
   cases vu
   obtain⟨p1,p2,p3⟩:=apart_spec PA
   have B6:jN is a=ia.kind:=by simp[jN,hia]
   have JG : ∀ x∈X,lW is x.1 q=true:=fun x hx=>fb x (List.mem_cons_of_mem _ hx)
   rw[List.map_cons,Kx,B6]at hb ⊢
   simp only[List.cons_append,lD,hia]at h ⊢
   cases hc:gT ia.kind
   ·simp only [hc,Bool.false_eq_true,if_false,Nat.zero_add]at h hb ⊢
    obtain⟨d,h1,h2,h3⟩:=h
    obtain⟨e,g1,g2,g3⟩:=yf hK hq hm Y X bL _ s JG hb h3
    have cg : ∀ s,kq ai tm s=kq ai (tm.put ia.dst d) s:=fun s=>rH (tH p1)
    have cg' : ∀ s,kq ia tm s=kq ia (tm.put ai.dst e) s:=fun s=>rH (tH p2)
    refine⟨e,by rw[cg];exact g1,fun hl s' nJ=>by rw[cg];exact g2 hl s' nJ,d,by rw[← cg'];exact h1,fun hl s' nJ=>by rw[← cg'];exact h2 hl s' nJ, ?_⟩
    exact tJ hK _ _ _ _ _ (Tm.Kw tm p3 d e) g3
   ·simp only [hc,if_true]at h hb ⊢
    obtain⟨d,s1,h1,h3⟩:=h
    obtain⟨e,g1,g2,g3⟩:=yf hK hq hm Y X (s::bL) _ s1 JG (fun hl=>by have:=hb hl;omega) h3
    have cg : ∀ s,kq ai tm s=kq ai (tm.put ia.dst d) s:=fun s=>rH (tH p1)
    have qZ:kq ai tm s=some e:=by
     cases hk:ai.kind with
     |pure=>rw[cg,VJ hk (s':=s1)];exact g1
     |load=>
      have:=hb hk
      rw[cg]
      refine g2 hk s ?_
      rw[show b - j9 is (X.map (·.1))=(b - (1+j9 is (X.map (·.1))))+1 by omega,List.take_succ_cons]
      exact List.mem_cons_self
     |alloc=>rw[hk]at hm;cases hm
     |core=>rw[hk]at hm;cases hm
    refine⟨e,qZ,fun hl s' nJ=>?_,d,s1,ye (tH p2) h1,tJ hK _ _ _ _ _ (Tm.Kw tm p3 d e) g3⟩
    have:=hb hl
    rw[cg]
    refine g2 hl s' ?_
    rw[show b - j9 is (X.map (·.1))=(b - (1+j9 is (X.map (·.1))))+1 by omega,List.take_succ_cons]
    exact List.mem_cons_of_mem _ nJ
  ·cases PA
end
end Go.Abs
namespace Go.Abs
section
variable {P:Program}
theorem SM {o:Oper} {z:List D} (h:Fe P o=some (.alloc z)) : ∃ t,o.op = .alloc t∧zeroOf P t=some z:=by
 obtain⟨dst,op,type,pos,after,guard⟩:=o
 unfold Fe at h
 simp only at h
 split at h
 case h_4 t=>
  split at h
  ·obtain⟨z',h1,h2⟩:=map_some h;cases h2
  ·obtain⟨z',h1,h2⟩:=map_some h;cases h2;exact⟨t,rfl,h1⟩
 all_goals
  first
   |(rw[Option.map_eq_some_iff]at h;obtain⟨_,_,h⟩:=h;cases h)
   |skip
 all_goals
  (repeat' (split at h))<;>first|(cases h;done)|(rw[Option.map_eq_some_iff]at h;obtain⟨_,_,h⟩:=h;cases h)
theorem Cd {nt:Nat} {ops:Array Oper} {o:Oper} {ai:AI} (h:cI P nt ops o=some ai) :
 ∃ g,v7 ops o.guard=some g∧(∀ t,o.dst=some t→t<nt)∧tA P ops o g=some ai:=by
 have h2:=ze h
 unfold cI at h
 split at h
 ·cases h
 ·rename_i g hg
  split at h
  ·exact⟨g,hg,h2,h⟩
  ·cases h
theorem uh {ops:Array Oper} {o:Oper} {g:Option (Nat×Bool)} {ai:AI} (h:tA P ops o g=some ai):ai.dst=o.dst:=by
 unfold tA at h
 split at h
 ·split at h
  ·obtain⟨xs,_,rfl⟩:=map_some h;rfl
  ·cases h
 ·obtain⟨xs,_,rfl⟩:=map_some h;rfl
 ·split at h
  ·cases h;rfl
  ·split at h
   ·cases h;rfl
   ·cases h;rfl
   ·cases h
theorem ui {nt:Nat} {ops:Array Oper} {o:Oper} {ai:AI} (h:cI P nt ops o=some ai):ai.dst=o.dst:=by
 obtain⟨g,_,_,h⟩:=Cd h
 exact uh h
theorem yh {nt:Nat} {ops:Array Oper} {i:Nat} {o:Oper} {ai:AI} (hi:ops[i]? = some o) (hc:cI P nt ops o=some ai)
 {M:Map} {s:St} {w:World} {tm:Tm} {act:Act} (r:Rel M s w) (k6:Laid M s w) (ht:mM M s tm act.tmps) {K':Tm→St→Prop} (h:jm P [ai] K' tm s)
 {K:Act→World→Prop} {Q:Exit→Act→World→Prop}
 (hK : ∀ d v s1 w1 M1,K' (tm.put ai.dst d) s1→Ext M s w M1 s1 w1→Rel M1 s1 w1→RD M1 s1 d v→K (act.put o.dst v) w1):wpOp P ops Q i K act w:=by
 obtain⟨g,hg,_,hb⟩:=Cd hc
 rw[uh hb]at hK
 simp only[wpOp,hi]
 have skip:K' (tm.put o.dst (.tuple [])) s→K (act.put o.dst Go.undef) w:=fun hk=>hK _ _ _ _ _ hk (Ext.refl M s w) r .undef
 unfold tA at hb
 split at hb
 ·rename_i f args nr nq
  split at hb
  ·rename_i Ab
   obtain⟨xs,pB,rfl⟩:=map_some hb
   simp only[jm]at h
   rcases kO hg ht h with ⟨hw,hA⟩|⟨hw,hB⟩
   ·simp only [hw,if_true]
    left
    have hex:(execOp act.eval o).run P w = .ok (.enter f (args.map act.eval)) w:=by
     obtain⟨dst,op,type,pos,after,guard⟩:=o
     simp only at nq
     subst nq
     exact ya act.eval dst f args nr type pos after guard rfl Ab w
    obtain⟨c1,c2⟩:=xl ht pB
    unfold Oper.wp
    rw[hex,Oper.upon_enter]
    refine(hA M w (args.map act.eval) r k6 (by simp[c1]) (fun i d v e1 e2=>c2 i d v e1 (by simpa using e2))).mono ?_
    rintro en w' ⟨M',d,v,s',rfl,hk,e',r',hv⟩
    exact hK _ _ _ _ _ hk e' r' hv
   ·simp only [hw]
    exact skip hB
  ·cases hb
 ·rename_i t args nr nq
  obtain⟨xs,pB,rfl⟩:=map_some hb
  simp only[jm]at h
  rcases kO hg ht h with ⟨hw,hA⟩|⟨hw,hB⟩
  ·simp only [hw,if_true]
   left
   split at hA
   ·rename_i f oi pA
    obtain⟨Ab,hA⟩:=hA
    have SB:=ht t
    rw[pA]at SB
    obtain⟨vs,pQ,hlen,Fq⟩:=SB.Nq
    have hex:(execOp act.eval o).run P w = .ok (.enter f (args.map act.eval++vs)) w:=by
     obtain⟨dst,op,type,pos,after,guard⟩:=o
     simp only at nq
     subst nq
     exact B8 act.eval dst (.tmp t) f vs args nr type pos after guard pQ Ab w
    have cc:=H4 pB ht hlen Fq
    unfold Oper.wp
    rw[hex,Oper.upon_enter]
    refine(hA M w (args.map act.eval++vs) r k6 cc.1 cc.2).mono ?_
    rintro en w' ⟨M',d,v,s',rfl,hk,e',r',hv⟩
    exact hK _ _ _ _ _ hk e' r' hv
   ·exact hA.elim
  ·simp only [hw]
   exact skip hB
 ·split at hb
  ·rename_i neg x Ew
   cases hb
   simp only[jm]at h
   rcases kO hg ht h with ⟨hw,hA⟩|⟨hw,hB⟩
   ·simp only [hw,if_true]
    left
    split at hA
    ·rename_i g' z rows hx
     obtain⟨b,hb,hex⟩:=Bk (w:=w) Ew ht hx
     unfold Oper.wp
     rw[hex,Oper.upon_value]
     exact hK _ _ _ _ _ (hA b hb) (Ext.refl M s w) r (.bool _)
    ·exact hA.elim
   ·simp only [hw]
    exact skip hB
  ·have fin : ∀ ao,ai = .op o.dst g ao→(∀ d s',aM ao tm s=some (d,s')→dg P M s w (execOp act.eval o) d s')→
    (if Region.wanted o (yielded ops act.tmps)=true then o.wp P act w K Q∨(o.asks P act w∧LetsOut Q)else K (act.put o.dst Go.undef) w):=by
    intro ao xm hdo
    subst xm
    simp only[jm]at h
    rcases kO hg ht h with ⟨hw,hA⟩|⟨hw,hB⟩
    ·simp only [hw,if_true]
     left
     split at hA
     ·rename_i d s' rF
      obtain⟨v,w',M',dM,r',hv,e'⟩:=hdo d s' rF
      unfold Oper.wp
      rcases dM with dM|⟨dM,rfl⟩
      ·rw [dM,Oper.upon_value]
       exact hK _ _ _ _ _ hA e' r' hv
      ·rw [dM,Oper.upon_skip]
       exact hK _ _ _ _ _ hA e' r' hv
     ·exact hA.elim
    ·simp only [hw]
     exact skip hB
   split at hb
   ·rename_i z k n ps oP
    cases hb
    refine fin _ rfl (fun d s' rF=>?_)
    split at rF
    ·exact Aa oP r ht rF
    ·exact tF oP r ht rF
   ·rename_i ao oP
    cases hb
    exact fin _ rfl (fun d s' rF=>tF oP r ht rF)
   ·cases hb
structure Nw (M:Map) (s:St) (b:Nat):Prop where
 o : ∀ o,o<s.ah.length→M.mu o≠b
 t : ∀ t c z,s.live t→M.be t≠some (b,c,z)
 g : ∀ off,M.G b off=none
theorem Nw.mono {M M':Map} {s s':St} {w w':World} {b:Nat} (h:Nw M s b) (e:Ext M s w M' s' w') (hb:b<w.heap.size):Nw M' s' b:=by
 refine⟨fun o ho=>?_,fun t c z hl he=>?_,fun off=>?_⟩
 ·rcases e.mo ho with ⟨h1,h2⟩ | h1
  ·rw[h2];exact h.o o h1
  ·omega
 ·rcases e.rf t b c z hl he with ⟨h1,c',z',h2⟩ | h1
  ·exact h.t t c' z' h1 h2
  ·omega
 ·by_cases hg:M'.G b off=M.G b off
  ·rw[hg];exact h.g off
  ·rcases e.sY b off hg with h1 | ⟨t,c,z,h1,h2⟩
   ·omega
   ·exact(h.t t c z h1 h2).elim
theorem Rel.idle {M:Map} {s:St} {w:World} (r:Rel M s w) (x:Obj):Rel M s (w.alloc x)∧Ext M s w M s (w.alloc x)∧Nw M s w.heap.size:=by
 refine⟨⟨fun b o v e=>?_,fun o ds e=>?_,r.ki,r.inj,fun t n e=>?_,r.fy,r.gd⟩, ?_,⟨fun o ho=>?_,fun t c z hl e=>?_,fun off=>r.OR (Nat.le_refl _) off⟩⟩
 ·obtain⟨h3,h4⟩:=r.comm b o v e
  refine⟨?_,h4⟩
  rw[World.cell?_alloc_lt]
  ·exact h3
  ·exact r.BS e
 ·obtain⟨vs,T,h3,h4,h5,h6⟩:=r.obj o ds e
  exact⟨vs,T,h3.keep (heap_alloc_old w _ _ h3.lt),h4,h5,h6⟩
 ·rcases r.tok t n e with h3 | ⟨b,cap,size,fO,T',h3,h4,h5⟩
  ·exact .inl h3
  ·exact .inr ⟨b,cap,size,fO,T',h3,by rw[heap_alloc_old w _ _ (kM h4)];exact h4,h5⟩
 ·exact⟨Le.refl M s,fun b hb _ _=>heap_alloc_old w _ b hb,fun o h3 h4=>by rcases h3 with h3|h3;omega;exact(h3 rfl).elim,fun t b c z h e=> .inl ⟨h,c,z,e⟩,fun _ _ h=>(h rfl).elim,by simp,rfl,rfl,rfl⟩
 ·have:=r.qX ho;omega
 ·have:=r.tB hl e;omega
theorem Rel.aht {M:Map} {s:St} {w:World} (r:Rel M s w) {B:gi} (e:Ext B.M B.s B.w M s w) {b:Nat} (u:Nw M s b) (hb:B.w.heap.size≤b)
 (ds:List D) (vs:Array Value) (T:TypeId) (hh:w.heap[b]? = some (.cells vs T (0,0))) (hl:vs.size=ds.length) (h1 : ∀ v∈vs,v.oneCell'=true)
 (h2 : ∀ (i:Nat) (d:D) (v:Value),ds[i]? = some d→vs[i]? = some v→RD M s d v) :
 Rel (M.dZ s.ah.length b) {s with ah:=s.ah++ [ds]} w∧Ext B.M B.s B.w (M.dZ s.ah.length b) {s with ah:=s.ah++ [ds]} w∧
 Le M s (M.dZ s.ah.length b) {s with ah:=s.ah++ [ds]}:=by
 have le:=s5 (M:=M) s b ds
 have nG : ∀ o,o<s.ah.length→(M.dZ s.ah.length b).mu o=M.mu o:=fun o ho=>congrArg Prod.fst (tY M b .any ho)
 have dw:(M.dZ s.ah.length b).mu s.ah.length=b:=by simp[Map.dZ,Map.mu]
 refine⟨⟨r.comm,fun o oc e'=>?_,fun o ho off=>?_,fun o o' ho od e'=>?_,r.tok,fun t b' c z o hl e' ho=>?_,r.gd⟩, ?_,le⟩
 ·rcases Nat.lt_or_ge o s.ah.length with ho | ho
  ·rw [List.getElem?_append_left ho]at e'
   obtain⟨fO,T',h3,h4,h5,h6⟩:=r.obj o oc e'
   refine⟨fO,T', ?_,h4,⟨h5.1,by rw[le.ty o ho];exact h5.2⟩,fun i d v e1 e2=>(h6 i d v e1 e2).mono le⟩
   rw[tY M b .any ho];exact h3
  ·rw [List.getElem?_append_right ho]at e'
   have:o=s.ah.length:=by
    have:=(List.getElem?_eq_some_iff.1 e').1
    simp at this;omega
   subst this
   simp at e';subst e'
   refine⟨vs,T, ?_,hl,⟨h1,fun T' h=>by simp[Map.dZ,Map.ty,Ob.ty?]at h⟩,fun i d v e1 e2=>(h2 i d v e1 e2).mono le⟩
   have hl:(M.dZ s.ah.length b).loc s.ah.length=(b, .any):=by simp[Map.dZ]
   rw[hl];exact iT.of hh trivial
 ·simp at ho
  rcases Nat.lt_or_ge o s.ah.length with h3|h3
  ·rw[nG o h3];exact r.ki o h3 off
  ·have:o=s.ah.length:=by omega
   subst this
   rw[dw];exact u.g off
 ·simp at ho od
  rcases Nat.lt_or_ge o s.ah.length with h3|h3<;>rcases Nat.lt_or_ge o' s.ah.length with h4|h4
  ·rw[nG o h3,nG o' h4]at e';exact r.inj o o' h3 h4 e'
  ·have:o'=s.ah.length:=by omega
   subst this
   rw[nG o h3,dw]at e'
   exact(u.o o h3 e').elim
  ·have:o=s.ah.length:=by omega
   subst this
   rw[nG o' h4,dw]at e'
   exact(u.o o' h4 e'.symm).elim
  ·omega
 ·simp at ho
  rcases Nat.lt_or_ge o s.ah.length with h3|h3
  ·rw[nG o h3];exact r.fy t b' c z o hl e' h3
  ·have:o=s.ah.length:=by omega
   subst this
   rw[dw]
   intro he
   subst he
   exact u.t t c z hl e'
 ·refine⟨e.le.trans le,e.kept,fun o h3 h4=> ?_,e.rf,e.sY,e.size,e.os,e.tape,e.output⟩
  simp at h4
  rcases Nat.lt_or_ge o s.ah.length with h5|h5
  ·rw[nG o h5]at h3 ⊢;exact e.uI o h3 h5
  ·have:o=s.ah.length:=by omega
   subst this
   rw[dw];exact hb
theorem ME {nt:Nat} {ops:Array Oper} {i:Nat} {o:Oper} {t:Nat} {z:List D} (hi:ops[i]? = some o) (hc:cI P nt ops o=some (.op (some t) none (.alloc z)))
 {w:World} {act:Act} {K:Act→World→Prop} {Q:Exit→Act→World→Prop}
 (hK : ∀ vs T,vs.size=z.length→(∀ v∈vs,v.oneCell'=true)→(∀ (M:Map) (s:St) (i:Nat) (d:D) (v:Value),z[i]? = some d→vs[i]? = some v→RD M s d v)→
  K (act.put (some t) (.pointer (some ⟨w.heap.size,0,none⟩))) (w.alloc (.cells vs T))):wpOp P ops Q i K act w:=by
 obtain⟨g,hg,_,hb⟩:=Cd hc
 have rl:=uh hb
 simp only[AI.dst]at rl
 simp only[wpOp,hi]
 have nq:g=none∧Fe P o=some (.alloc z):=by
  unfold tA at hb
  split at hb
  ·split at hb
   ·obtain⟨xs,_,h⟩:=map_some hb;cases h
   ·cases hb
  ·obtain⟨xs,_,h⟩:=map_some hb;cases h
  ·split at hb
   ·cases hb
   ·split at hb
    ·rename_i oP
     simp only[Option.some.injEq,AI.op.injEq]at hb
     obtain⟨_,_,h⟩:=hb
     split at h<;>cases h
    ·rename_i ao oP
     simp only[Option.some.injEq,AI.op.injEq]at hb
     obtain⟨_,h1,h2⟩:=hb
     subst h2
     exact⟨h1,oP⟩
    ·cases hb
 obtain⟨rfl,oP⟩:=nq
 obtain⟨T,hT,hz⟩:=SM oP
 have hw:Region.wanted o (yielded ops act.tmps)=true:=by
  have:o.guard=none:=by
   cases HV:o.guard with
   |none=>rfl
   |some p=>
    obtain⟨j,b⟩:=p
    rw[HV]at hg
    unfold v7 at hg
    simp only at hg
    split at hg<;>cases hg
  simp[Region.wanted,this]
 simp only[hw,if_true]
 left
 unfold zeroOf at hz
 split at hz
 ·rename_i inf Pp
  split at hz
  ·rename_i v hv
   split at hz
   ·have dM:(execOp act.eval o).run P w = .ok (.value (.pointer (some ⟨w.heap.size,0,none⟩))) (w.alloc (.cells v.cells T)):=by
     obtain⟨dst,op,type,pos,after,guard⟩:=o
     simp only at hT
     subst hT
     simp[execOp,Instr.alloc,zeroValue,gh P Pp,hv,newVar,newRow]
    have h3:=fun M s=>lZ (M:=M) (s:=s) hz
    obtain⟨h1,h2,_⟩:=h3 ⟨fun _ _=>none,fun _=>(0, .any),fun _=>none⟩ ⟨[],[]⟩
    unfold Oper.wp
    rw[dM,Oper.upon_value, ← rl]
    exact hK _ _ (by rw[h1];simp) (fun u hu=>h2 u (by simpa using hu)) (fun M s i d u e1 e2=>(h3 M s).2.2 i d u e1 (by simpa using e2))
   ·cases hz
  ·cases hz
 ·cases hz
end
end Go.Abs
namespace Go.Abs
section
variable {is:List AI} {af pt:List (List Nat)}
theorem Bp {pq:List Nat} {l l':List Nat} (h:l'.Sublist l) (hb:lN is pq l=true):lN is pq l'=true:=by
 induction h with
 |slnil=>rfl
 |cons a h ih=>
  simp only[lN,Bool.and_eq_true]at hb
  exact ih hb.2
 |cons_cons a h ih=>
  simp only[lN,Bool.and_eq_true,Bool.or_eq_true]at hb ⊢
  refine⟨hb.1.imp id fun h1=>?_,ih hb.2⟩
  rw[List.all_eq_true]at h1 ⊢
  exact fun x hx=>h1 x (h.subset hx)
theorem Dj {f:Nat→Bool} {l l':List Nat} (h:l'.Sublist l) (ha:l.all f=true):l'.all f=true:=by
 rw[List.all_eq_true]at ha ⊢
 exact fun x hx=>ha x (h.subset hx)
theorem MF {l l':List Nat} (h:l'.Sublist l):j9 is l'≤j9 is l:=(h.filter _).length_le
theorem PB {pre G1:List Nat} {q b:Nat} (h:G1.Sublist pre) (hs:pN is pt pre q b=true):pN is pt G1 q b=true:=by
 unfold pN at *
 split at hs
 ·exact Dj h hs
 ·exact Dj h hs
 ·simp only [Bool.and_eq_true]at hs ⊢
  exact⟨Dj h hs.1,Bp h hs.2⟩
 ·simp only [Bool.and_eq_true,decide_eq_true_eq]at hs ⊢
  exact⟨⟨Dj h hs.1.1,Bp h hs.1.2⟩,Nat.le_trans (MF (h.filter _)) hs.2⟩
theorem Ky : ∀ {R:List (Nat×Nat)} {pre G1:List Nat},G1.Sublist pre→vm is af pt pre R=true→vm is af pt G1 R=true
 | [],_,_,_,_=>rfl
 |(q,b)::R,pre,G1,h,ho=>by
  simp only[vm,Bool.and_eq_true,Bool.not_eq_true']at ho ⊢
  obtain⟨⟨⟨h1,h2⟩,h3⟩,h4⟩:=ho
  refine⟨⟨⟨PB h h1, ?_⟩,h3⟩,Ky (h.cons_cons q) h4⟩
  rw[← Bool.not_eq_true,List.contains_iff_mem]at h2 ⊢
  exact fun hm=>h2 (h.subset hm)
theorem G2 : ∀ {X:List (Nat×Nat)} {e:Nat×Nat} {Y:List (Nat×Nat)} {pre:List Nat},vm is af pt pre (X++e::Y)=true→vm is af pt pre (X++Y)=true
 | [],(q,b),Y,pre,h=>by
  simp only[List.nil_append,vm,Bool.and_eq_true]at h
  exact Ky (List.sublist_cons_self q pre) h.2
 |(a,c)::X,e,Y,pre,h=>by
  simp only[List.cons_append,vm,Bool.and_eq_true]at h ⊢
  obtain⟨⟨⟨h1,h2⟩,h3⟩,h4⟩:=h
  refine⟨⟨⟨h1,h2⟩, ?_⟩,G2 h4⟩
  rw[List.all_eq_true]at h3 ⊢
  intro j hj
  have:=h3 j hj
  simp only[Bool.and_eq_true,Bool.not_eq_true']at this ⊢
  refine⟨this.1, ?_⟩
  have h5:=this.2
  rw[← Bool.not_eq_true,List.contains_iff_mem]at h5 ⊢
  refine fun hm=>h5 ?_
  simp only[List.map_append,List.map_cons,List.mem_append,List.mem_cons]at hm ⊢
  exact hm.imp id .inr
theorem uj : ∀ {X:List (Nat×Nat)} {q b:Nat} {Y:List (Nat×Nat)} {pre:List Nat},vm is af pt pre (X++(q,b)::Y)=true→
 pN is pt ((X.map (·.1)).reverse++pre) q b=true∧q∉X.map (·.1)∧q∉pre∧(∀ j∈iy af q,j≠q∧j∉Y.map (·.1))∧vm is af pt (q::((X.map (·.1)).reverse++pre)) Y=true
 | [],q,b,Y,pre,h=>by
  simp only[List.nil_append,vm,Bool.and_eq_true,Bool.not_eq_true']at h
  obtain⟨⟨⟨h1,h2⟩,h3⟩,h4⟩:=h
  rw[← Bool.not_eq_true,List.contains_iff_mem]at h2
  refine⟨h1,by simp,h2,fun j hj=>?_,h4⟩
  rw[List.all_eq_true]at h3
  have:=h3 j hj
  simp only[Bool.and_eq_true,bne_iff_ne,Bool.not_eq_true', ← Bool.not_eq_true,List.contains_iff_mem]at this
  exact this
 |(a,c)::X,q,b,Y,pre,h=>by
  simp only[List.cons_append,vm,Bool.and_eq_true]at h
  obtain⟨_,h4⟩:=h
  obtain⟨g1,g2,g3,g4,g5⟩:=uj h4
  simp only[List.map_cons,List.reverse_cons,List.append_assoc,List.singleton_append]
  refine⟨g1, ?_,fun h=>g3 (List.mem_cons_of_mem _ h),g4,g5⟩
  intro hm
  rcases List.mem_cons.1 hm with rfl|hm
  ·exact g3 (by simp)
  ·exact g2 hm
theorem Dk : ∀ {Y:List (Nat×Nat)} {pre:List Nat},vm is af pt pre Y=true→∀ x∈Y,x.1∉pre∧(jN is x.1 = .alloc→∀ a∈pre,lW is a x.1=true)
 | [],_,_,x,hx=>by cases hx
 | (q,b)::Y,pre,h,x,hx=>by
  simp only[vm,Bool.and_eq_true,Bool.not_eq_true']at h
  obtain⟨⟨⟨h1,h2⟩,_⟩,h4⟩:=h
  rw[← Bool.not_eq_true,List.contains_iff_mem]at h2
  rcases List.mem_cons.1 hx with rfl|hx
  ·refine⟨h2,fun hk a ha=> ?_⟩
   unfold pN at h1
   simp only[hk]at h1
   rw[List.all_eq_true]at h1
   exact h1 a ha
  ·obtain⟨g1,g2⟩:=Dk h4 x hx
   exact⟨fun h=>g1 (List.mem_cons_of_mem _ h),fun hk a ha=>g2 hk a (List.mem_cons_of_mem _ ha)⟩
theorem D5 : ∀ {n:Nat},yP af pt n=true→∀ i,i<n→∀ j∈iy pt i,j∈iy af i∨∃ k∈iy af i,j∈iy pt k
 | 0,_,i,hi=>by omega
 | n+1,h,i,hi=>by
  simp only[yP,Bool.and_eq_true]at h
  rcases Nat.lt_or_ge i n with h1|h1
  ·exact D5 h.2 i h1
  ·have:i=n:=by omega
   subst this
   intro j hj
   have:=h.1
   rw[List.all_eq_true]at this
   have:=this j hj
   simp only[Bool.or_eq_true,List.contains_iff_mem,List.any_eq_true]at this
   exact this
theorem zj {pq:List Nat} : ∀ {l:List Nat},lN is pq l=true→∀ (x:Nat) (l1 l2:List Nat),l=l1++x::l2→jN is x = .alloc→x∈pq→∀ y∈l2,y∈pq
 | [],_,x,l1,l2,h=>by simp at h
 | a::l,hb,x,l1,l2,h=>by
  simp only[lN,Bool.and_eq_true,Bool.or_eq_true,Bool.not_eq_true',Bool.and_eq_false_iff]at hb
  intro hk hx y hy
  cases l1 with
  | nil=>
   simp only[List.nil_append,List.cons.injEq]at h
   obtain⟨rfl,rfl⟩:=h
   rcases hb.1 with h1|h1
   ·rcases h1 with h1 | h1
    ·simp[hk]at h1
    ·rw [← Bool.not_eq_true,List.contains_iff_mem]at h1
     exact(h1 hx).elim
   ·rw [List.all_eq_true]at h1
    have:=h1 y hy
    rwa [List.contains_iff_mem]at this
  |cons b l1=>
   simp only[List.cons_append,List.cons.injEq]at h
   exact zj hb.2 x l1 l2 h.2 hk hx y hy
end
structure Pd where
 q:Nat
 t:Nat
 z:List D
 b:Nat
structure adl (is:List AI) (R:List (Nat×Nat)) (B:gi) (M:Map) (s:St) (act:Act) (w:World) (p:Pd):Prop where
 mem:p.q∈R.map (·.1)
 ai:is[p.q]? = some (.op (some p.t) none (.alloc p.z))
 cells : ∃ (vs:Array Value) (T:TypeId),w.heap[p.b]? = some (.cells vs T (0,0))∧vs.size=p.z.length∧(∀ v∈vs,v.oneCell'=true)∧
  ∀ (M:Map) (s:St) (i:Nat) (d:D) (v:Value),p.z[i]? = some d→vs[i]? = some v→RD M s d v
 unk:Nw M s p.b
 base:B.w.heap.size≤p.b
 slot:act.tmps.getD p.t Go.undef = .pointer (some ⟨p.b,0,none⟩)
def Af (P:Program) (is:List AI) (K:Tm→St→Prop) (B:gi) (nt:Nat) (R:List (Nat×Nat)) (eI:List Pd) (act:Act) (w:World):Prop:=
 ∃ (M:Map) (s:St) (tm uk:Tm) (bL:List St),Ext B.M B.s B.w M s w∧Rel M s w∧mM M s uk act.tmps∧(∀ t,(∀ p∈eI,p.t≠t)→uk.get t=tm.get t)∧
  act.tmps.size=nt∧act.defers = []∧lD P is K R bL tm s∧(∀ p∈eI,adl is R B M s act w p)∧
  (∀ p∈eI,∀ p'∈eI,p.q=p'.q∨p.t=p'.t∨p.b=p'.b→p=p')
structure se (is:List AI) (af pt:List (List Nat)) (dE:Array Bool) (R:List (Nat×Nat)) (eI:List Pd):Prop where
 ok:vm is af pt [] R=true
 H8 : ∀ i,i<is.length→(dE.getD i false=true↔(i∉R.map (·.1)∨∃ p∈eI,p.q=i))
 cl : ∀ i,i<is.length→dE.getD i false=true→∀ j∈iy pt i,dE.getD j false=true
 size:dE.size=is.length
 lt : ∀ x∈R,x.1<is.length
section
variable {P:Program} {is:List AI} {af pt:List (List Nat)} {K:Tm→St→Prop} {B:gi} {nt:Nat}
theorem adn {dE:Array Bool} {q b:Nat} {R:List (Nat×Nat)} {eI:List Pd} {act:Act} {w:World} (hs:se is af pt dE ((q,b)::R) eI) (h:Af P is K B nt ((q,b)::R) eI act w)
 {p:Pd} (hp:p∈eI) (vv:p.q=q) :
 se is af pt dE R (eI.filter fun p'=>decide (p'.q≠q))∧Af P is K B nt R (eI.filter fun p'=>decide (p'.q≠q)) act w:=by
 have gN : ∀ p',p'∈(eI.filter fun p'=>decide (p'.q≠q))↔p'∈eI∧p'.q≠q:=fun p'=>by simp
 constructor
 ·have qw:=hs.ok
  have EA:=uj (X:= []) qw
  refine⟨G2 (X:= []) qw,fun i hi=>?_,hs.cl,hs.size,fun x hx=>hs.lt x (List.mem_cons_of_mem _ hx)⟩
  rw[hs.H8 i hi]
  simp only[List.map_cons,List.mem_cons,not_or]
  have hqR:q∉R.map (·.1):=fun hm=>by
   obtain⟨x,hx,rfl⟩:=List.mem_map.1 hm
   exact(Dk EA.2.2.2.2 x hx).1 (by simp)
  constructor
  ·rintro(⟨h1,h2⟩ | ⟨p',h1,h2⟩)
   ·exact .inl h2
   ·by_cases hq:i=q
    ·subst hq;exact .inl hqR
    ·exact .inr ⟨p',(gN p').2 ⟨h1,by rw[h2];exact hq⟩,h2⟩
  ·rintro(h1 | ⟨p',h1,h2⟩)
   ·by_cases hq:i=q
    ·subst hq;exact .inr ⟨p,hp,vv⟩
    ·exact .inl ⟨hq,h1⟩
   ·exact .inr ⟨p',((gN p').1 h1).1,h2⟩
 ·obtain⟨M,s,tm,uk,bL,e,r,ht,qZ,hn,hd,hg,xo,tL⟩:=h
  have hk:=xo p hp
  obtain⟨vs,T,hh,hl,h1,h2⟩:=hk.cells
  have xm:=hk.ai
  rw[vv]at xm
  simp only[lD,xm,AI.kind,gT]at hg
  obtain⟨d,s',jy,hg⟩:=hg
  have rF:aM (.alloc p.z) tm s=some (d,s'):=jy
  simp only[aM,Option.some.injEq,Prod.mk.injEq]at rF
  obtain⟨rfl,rfl⟩:=rF
  obtain⟨r',e',le⟩:=r.aht e hk.unk hk.base p.z vs T hh hl h1 (h2 M s)
  refine⟨_,_,_,uk.put (some p.t) (.ptr s.ah.length 0),_,e',r',fun u=>?_,fun t Nx=>?_,hn,hd,hg,fun p' nD=>?_,fun p1 h1 p2 h2=>tL p1 ((gN p1).1 h1).1 p2 ((gN p2).1 h2).1⟩
  ·rw [Tm.l6]
   split
   ·rename_i heq
    cases heq
    rw[hk.slot]
    have:(M.dZ s.ah.length p.b).mu s.ah.length=p.b:=by simp[Map.dZ,Map.mu]
    have h5:=RD.ptr (M:=M.dZ s.ah.length p.b) (s:= {s with ah:=s.ah++ [p.z]}) s.ah.length 0 (by simp) (by simp[Map.dZ,Map.ob,Ob.plain])
    rw[this]at h5
    exact h5
   ·exact(ht u).mono le
  ·simp only [AI.dst]
   rw[Tm.l6,Tm.l6]
   split
   ·rfl
   ·rename_i eW
    refine qZ t fun p' nD=>?_
    by_cases hq:p'.q=q
    ·have:=tL p' nD p hp (.inl (hq.trans vv.symm))
     subst this
     exact fun h=>eW (by rw[h])
    ·exact Nx p' ((gN p').2 ⟨nD,hq⟩)
  ·obtain⟨hp1,hp2⟩:=(gN p').1 nD
   have vl:=xo p' hp1
   refine⟨?_,vl.ai,vl.cells,⟨fun o ho=>?_,vl.unk.t,vl.unk.g⟩,vl.base,vl.slot⟩
   ·have:=vl.mem
    simp only[List.map_cons,List.mem_cons]at this
    exact this.resolve_left hp2
   ·simp at ho
    rcases Nat.lt_or_ge o s.ah.length with h5|h5
    ·rw[show(M.dZ s.ah.length p.b).mu o=M.mu o from congrArg Prod.fst (tY M p.b .any h5)];exact vl.unk.o o h5
    ·have:o=s.ah.length:=by omega
     subst this
     have:(M.dZ s.ah.length p.b).mu s.ah.length=p.b:=by simp[Map.dZ,Map.mu]
     rw[this]
     intro hb
     have:=tL p hp p' hp1 (.inr (.inr hb))
     subst this
     exact hp2 vv
theorem norm {dE:Array Bool} {act:Act} {w:World} : ∀ (R:List (Nat×Nat)) (eI:List Pd),se is af pt dE R eI→Af P is K B nt R eI act w→
 ∃ R' xp,se is af pt dE R' xp∧Af P is K B nt R' xp act w∧∀ x l,R'=x::l→∀ p∈xp,p.q≠x.1
 | [],eI,hs,h=>⟨[],eI,hs,h,fun _ _ he=>by cases he⟩
 | (q,b)::R,eI,hs,h=>by
  by_cases hp : ∃ p∈eI,p.q=q
  ·obtain⟨p,hp,vv⟩:=hp
   obtain⟨h1,h2⟩:=adn hs h hp vv
   exact norm R _ h1 h2
  ·refine⟨(q,b)::R,eI,hs,h,fun x l he p hpm vv=>hp ⟨p,hpm, ?_⟩⟩
   cases he
   exact vv
theorem YO {ops:Array Oper} {q:Nat} {o:Oper} {ai:AI} (hi:ops[q]? = some o) (hc:cI P nt ops o=some ai) {R R':List (Nat×Nat)} {eI:List Pd} {act:Act} {w:World} {M:Map} {s s1:St} {tm uk:Tm} {d:D} {YP:List St}
 (e:Ext B.M B.s B.w M s w) (r:Rel M s w) (ht:mM M s uk act.tmps) (qZ : ∀ t,(∀ p∈eI,p.t≠t)→uk.get t=tm.get t) (hn:act.tmps.size=nt) (hd:act.defers = [])
 (xo : ∀ p∈eI,adl is R B M s act w p) (tL : ∀ p∈eI,∀ p'∈eI,p.q=p'.q∨p.t=p'.t∨p.b=p'.b→p=p')
 (hv:jm P [ai] (fun a b=>a=uk.put ai.dst d∧b=s1) uk s) (hg:lD P is K R' YP (tm.put ai.dst d) s1)
 (gN : ∀ p∈eI,p.q∈R'.map (·.1)) (rl : ∀ p∈eI,ai.dst≠some p.t) {Q:Exit→Act→World→Prop} :
 wpOp P ops Q q (Af P is K B nt R' eI) act w:=by
 refine yh hi hc r (B.laid.ext e) ht hv fun d' v s2 w1 M1 hk e1 r1 jO=>?_
 obtain⟨xg,rfl⟩:=hk
 have hde:=ui hc
 have hD : ∀ t,o.dst=some t→t<act.tmps.size:=fun t h=>by rw[hn];exact ze hc t h
 refine⟨M1,s2,tm.put ai.dst d,uk.put ai.dst d,YP,e.trans e1,r1, ?_,fun t Nx=>?_, ?_, ?_,hg,fun p hp=>?_,tL⟩
 ·rw [← xg,hde]
  exact(ht.mono e1.le).put hD jO
 ·rw[Tm.l6,Tm.l6,qZ t Nx]
 ·cases ho:o.dst<;>simp[Act.put,hn]
 ·cases ho:o.dst<;>simp[Act.put,hd]
 ·have hk:=xo p hp
  obtain⟨vs,T,hh,hl,h1,h2⟩:=hk.cells
  have hb:=kM hh
  refine⟨gN p hp,hk.ai,⟨vs,T,by rw[e1.kept p.b hb hk.unk.o hk.unk.t];exact hh,hl,h1,h2⟩,hk.unk.mono e1 hb,hk.base, ?_⟩
  rw[← hk.slot]
  have:=rl p hp
  rw[hde]at this
  cases ho:o.dst with
  |none=>rfl
  |some t=>
   rw[ho]at this
   have eW:t≠p.t:=fun h=>this (by rw[h])
   simp[Act.put,Array.getElem?_setIfInBounds_ne eW]
theorem PC {ai:AI} (hm:gT ai.kind=false) {tm:Tm} {s:St} {d:D} (h:kq ai tm s=some d):jm P [ai] (fun a b=>a=tm.put ai.dst d∧b=s) tm s:=by
 cases ai with
 | op dst g o=>
  have hko:=Nv hm
  have key : ∀ {d},(aM o tm s).map (·.1)=some d→aM o tm s=some (d,s):=by
   intro d h
   cases he:aM o tm s with
   |none=>rw[he]at h;cases h
   |some p=>
    obtain⟨d',s'⟩:=p
    rw[he]at h
    simp only[Option.map_some,Option.some.injEq]at h
    subst h
    rw[MD (by rw[← hko];exact hm) he]
  simp only[jm,AI.dst]
  cases g with
  |none=>
   simp only[kq]at h
   simp only[guarded,key h,and_self]
  | some p=>
   obtain⟨t,want⟩:=p
   simp only[kq]at h
   simp only[guarded]
   split at h
   ·rename_i b hb
    simp only[hb]
    split at h
    ·rename_i heq
     refine⟨fun _=>by simp only[key h,and_self],fun eW=>?_⟩
     subst heq
     cases b<;>cases eW
    ·rename_i eW
     cases h
     exact⟨fun heq=>(eW heq).elim,fun _=>by simp⟩
   ·rename_i ds hb
    cases h
    simp only[hb,and_self]
   ·cases h
 |call dst g f xs=>cases hm
 |nil dst g n x=>cases hm
 |jM dst g t xs=>cases hm
theorem Ce {g:Option (Nat×Bool)} {tm:Tm} {A A' C C':Prop} (ha:A→A') (hc:C→C') (hh:guarded g tm A C):guarded g tm A' C':=by
 cases g with
 |none=>exact ha hh
 | some p=>
  obtain⟨t,want⟩:=p
  unfold guarded at *
  simp only at *
  split
  ·rename_i b hb;rw[hb]at hh;exact⟨fun e=>ha (hh.1 e),fun e=>hc (hh.2 e)⟩
  ·rename_i hb;rw[hb]at hh;exact hc hh
  ·rename_i x h1 h2
   split at hh
   ·exact h1 _ ‹_›
   ·exact h2 _ ‹_›
   ·exact hh
theorem Kz {ai:AI} {tm:Tm} {s s1:St} {d:D} (h:tG P ai tm s d s1):jm P [ai] (fun a b=>a=tm.put ai.dst d∧b=s1) tm s:=by
 cases ai with
 |op dst g o=>
  refine Ce (fun e=>?_) (fun e=>?_) h
  ·rw[e];exact⟨rfl,rfl⟩
  ·obtain⟨rfl,rfl⟩:=e;exact⟨rfl,rfl⟩
 |call dst g f xs=>
  refine Ce (fun e=>?_) (fun e=>?_) h
  ·exact e.mono fun x y hxy=>by obtain⟨rfl,rfl⟩:=hxy;exact⟨rfl,rfl⟩
  ·obtain⟨rfl,rfl⟩:=e;exact⟨rfl,rfl⟩
 |nil dst g n x=>exact h.elim
 |jM dst g t xs=>exact h.elim
end
end Go.Abs
namespace Go.Abs
section
variable {P:Program} {is:List AI} {af pt:List (List Nat)} {K:Tm→St→Prop} {B:gi} {nt:Nat}
theorem Dl {ops:Array Oper} : ∀ {ol:List Oper} {is:List AI},rR P nt ops ol=some is→is.length=ol.length∧∀ (i:Nat) (o:Oper),ol[i]? = some o→∃ ai,is[i]? = some ai∧cI P nt ops o=some ai
 | [],is,h=>by cases h;exact⟨rfl,by simp⟩
 | o::ol,is,h=>by
  unfold rR at h
  split at h
  ·rename_i ai SA h1 h2
   cases h
   obtain⟨g1,g2⟩:=Dl h2
   refine⟨by simp[g1],fun i o' ho=>?_⟩
   cases i with
   |zero=>simp at ho;subst ho;exact⟨ai,rfl,h1⟩
   |succ i=>exact g2 i o' (by simpa using ho)
  ·cases h
theorem tM {dE:Array Bool} {i:Nat} (h:i<dE.size):dE.getD i true=dE.getD i false:=by
 simp[h]
theorem se.done {dE:Array Bool} {X Y:List (Nat×Nat)} {q b:Nat} {eI:List Pd} (hs:se is af pt dE (X++(q,b)::Y) eI) (hq:q<is.length)
 (H9 : ∀ j∈iy pt q,dE.getD j false=true):se is af pt (dE.setIfInBounds q true) (X++Y) eI:=by
 obtain⟨g1,g2,g3,g4,g5⟩:=uj hs.ok
 have hqY:q∉Y.map (·.1):=fun hm=>by
  obtain⟨x,hx,rfl⟩:=List.mem_map.1 hm
  exact(Dk g5 x hx).1 (by simp)
 refine⟨G2 hs.ok,fun i hi=>?_,fun i hi hl j hj=>?_,by simp[hs.size],fun x hx=>hs.lt x (by simp at hx ⊢;exact hx.imp id .inr)⟩
 ·by_cases vu:i=q
  ·subst vu
   have:i<dE.size:=by rw[hs.size];exact hq
   simp only[List.map_append,List.mem_append,g2,hqY,or_self,not_false_eq_true,true_or,iff_true]
   simp[this]
  ·rw [getD_set_ne false (Ne.symm vu),hs.H8 i hi]
   simp[vu]
 ·by_cases vu:i=q
  ·subst vu;exact getD_set_true (H9 j hj)
  ·rw [getD_set_ne false (Ne.symm vu)]at hl
   exact getD_set_true (hs.cl i hi hl j hj)
theorem se.flag {dE:Array Bool} {R:List (Nat×Nat)} {eI:List Pd} (hs:se is af pt dE R eI) {p:Pd} (hq:p.q<is.length)
 (H9 : ∀ j∈iy pt p.q,dE.getD j false=true):se is af pt (dE.setIfInBounds p.q true) R (p::eI):=by
 refine⟨hs.ok,fun i hi=>?_,fun i hi hl j hj=>?_,by simp[hs.size],hs.lt⟩
 ·by_cases vu:i=p.q
  ·subst vu
   have:p.q<dE.size:=by rw[hs.size];exact hq
   simp[this]
  ·rw [getD_set_ne false (Ne.symm vu),hs.H8 i hi]
   have eW:p.q≠i:=fun h=>vu h.symm
   simp[eW]
 ·by_cases vu:i=p.q
  ·subst vu;exact getD_set_true (H9 j hj)
  ·rw [getD_set_ne false (Ne.symm vu)]at hl
   exact getD_set_true (hs.cl i hi hl j hj)
theorem PD {ai:AI} (h:ai.kind = .alloc) : ∃ t z,ai = .op (some t) none (.alloc z):=by
 cases ai with
 | op dst g o=>
  unfold AI.kind at h
  split at h
  ·rename_i heq;cases heq;exact⟨_,_,rfl⟩
  ·rename_i heq
   cases heq
   exfalso
   revert h
   cases o<;>simp[AO.kind]
  ·cases h
 |call dst g f xs=>cases h
 |nil dst g n x=>cases h
 |jM dst g t xs=>cases h
theorem PE {ops:Array Oper} (yi:rR P nt ops ops.toList=some is) (PF:yP af pt is.length=true)
 (hK : ∀ tm bD s,Tm.eqv tm bD→K tm s→K bD s) {dE:Array Bool} {R:List (Nat×Nat)} {eI:List Pd} {act:Act} {w:World} (hs:se is af pt dE R eI) (h:Af P is K B nt R eI act w)
 (ahv : ∀ x l,R=x::l→∀ p∈eI,p.q≠x.1) {q:Nat} (hq:q<is.length) (Fx:dE.getD q false=false) (jO : ∀ j∈iy af q,j<is.length∧dE.getD j false=true)
 {Q:Exit→Act→World→Prop} {K2:Act→World→Prop} (hK2 : ∀ R' xp a' w',se is af pt (dE.setIfInBounds q true) R' xp→Af P is K B nt R' xp a' w'→K2 a' w'):wpOp P ops Q q K2 act w:=by
 obtain⟨hlen,hY⟩:=Dl yi
 have wg:q<ops.size:=by rw[hlen]at hq;simpa using hq
 obtain⟨ai,xm,SO⟩:=hY q ops[q] (by simp[wg])
 have hi:ops[q]? = some ops[q]:=by simp[wg]
 have H9 : ∀ j∈iy pt q,dE.getD j false=true:=fun j hj=>by
  rcases D5 PF q hq j hj with h1|⟨k,h1,h2⟩
  ·exact(jO j h1).2
  ·exact hs.cl k (jO k h1).1 (jO k h1).2 j h2
 have SP : ∀ p∈eI,p.q≠q:=fun p hp vv=>by
  have:=(hs.H8 q hq).2 (.inr ⟨p,hp,vv⟩)
  rw[Fx]at this;cases this
 have hqR:q∈R.map (·.1):=by
  by_cases hm:q∈R.map (·.1)
  ·exact hm
  ·have:=(hs.H8 q hq).2 (.inl hm)
   rw[Fx]at this;cases this
 obtain⟨⟨q',b⟩,hx,hqq⟩:=List.mem_map.1 hqR
 simp only at hqq
 subst hqq
 obtain⟨X,Y,rfl⟩:=List.append_of_mem hx
 obtain⟨g1,g2,g3,g4,g5⟩:=uj hs.ok
 rw[List.append_nil]at g1 g5
 obtain⟨M,s,tm,uk,bL,e,r,ht,qZ,hn,hd,hg,xo,tL⟩:=h
 have SQ:jN is q'=ai.kind:=by simp[jN,xm]
 -- what must have come up ahead of it, is not here any more, but for what was allocated early
 have YQ : ∀ a∈X.map (·.1),a∈iy pt q'→∃ p∈eI,p.q=a:=fun a ha fb=>by
  have h1:=H9 a fb
  obtain⟨x,hxX,rfl⟩:=List.mem_map.1 ha
  rcases(hs.H8 x.1 (hs.lt x (by simp[hxX]))).1 h1 with h2|h2
  ·exact(h2 (by simp;exact .inl ⟨x.2,hxX⟩)).elim
  ·exact h2
 have YR : ∀ x l,X=x::l→x.1∉iy pt q':=fun x l hX hxp=>by
  obtain⟨p,hp,vv⟩:=YQ x.1 (by simp[hX]) hxp
  exact ahv x (l++(q',b)::Y) (by simp[hX]) p hp vv
 have hpk : ∀ p∈eI,jN is p.q = .alloc:=fun p hp=>by simp[jN,(xo p hp).ai,AI.kind]
 have EA : ∀ p∈eI,(p.q∈X.map (·.1)→lW is p.q q'=true)→(∀ t,ai.dst=some t→t≠p.t)∧p.t∉ai.reads:=fun p hp hX=>by
  have hk:=xo p hp
  have hm:=hk.mem
  simp only[List.map_append,List.map_cons,List.mem_append,List.mem_cons]at hm
  rcases hm with hm|hm|hm
  ·have:=hX hm
   simp only[lW,hk.ai,xm]at this
   obtain⟨p1,p2,p3⟩:=apart_spec this
   exact⟨fun t ht he=>p3 p.t rfl (by rw[ht,he]),p1 p.t rfl⟩
  ·exact(SP p hp hm).elim
  ·obtain⟨x,hxY,YS⟩:=List.mem_map.1 hm
   have:=(Dk g5 x hxY).2 (by rw[YS];exact hpk p hp) q' (by simp)
   rw[YS]at this
   simp only[lW,hk.ai,xm]at this
   obtain⟨p1,p2,p3⟩:=apart_spec this
   exact⟨fun t ht he=>p3 t ht (by rw[he];rfl),p2 p.t rfl⟩
 have SS:(∀ p∈eI,p.t∉ai.reads)→∀ t∈ai.reads,tm.get t=uk.get t:=fun hp t ht=>(qZ t fun p hpm he=>hp p hpm (by rw[he];exact ht)).symm
 have YT : ∀ p∈eI,p.q∈(X++Y).map (·.1):=fun p hp=>by
  have hm:=(xo p hp).mem
  have:=SP p hp
  simp only[List.map_append,List.map_cons,List.mem_append,List.mem_cons]at hm ⊢
  rcases hm with hm|hm|hm
  ·exact .inl hm
  ·exact(this hm).elim
  ·exact .inr hm
 by_cases vw:ai.kind = .alloc
 ·-- an allocation
  obtain⟨t,z,rfl⟩:=PD vw
  have fb : ∀ a∈X.map (·.1),lW is a q'=true:=fun a ha=>by
   unfold pN at g1
   rw[SQ,vw]at g1
   simp only[List.all_reverse,List.all_eq_true]at g1
   exact g1 a ha
  have sV:=fun p hp=>EA p hp (fb p.q)
  refine ME hi SO fun vs T hl h1 h2=>?_
  obtain⟨r1,e1,u1⟩:=r.idle (.cells vs T)
  have ads:t<act.tmps.size:=by
   rw[hn]
   exact ze SO t (by rw[← ui SO];rfl)
  have:=hs.flag (p:=⟨q',t,z,w.heap.size⟩) hq H9
  refine hK2 _ _ _ _ this ⟨M,s,tm,uk.put (some t) .junk,bL,e.trans e1,r1,mM.put ht (dst:=some t) (fun u hu=>by cases hu;exact ads) (.junk _),fun u hu=>?_,by simp[Act.put,hn],by simp[Act.put,hd],hg,fun p hp=>?_,fun p hp p' nD he=>?_⟩
  ·have h3:=hu ⟨q',t,z,w.heap.size⟩ (by simp)
   rw[Tm.l6,if_neg (by simpa using h3)]
   exact qZ u fun p hp=>hu p (List.mem_cons_of_mem _ hp)
  ·rcases List.mem_cons.1 hp with rfl | hp
   ·refine⟨by simp,xm,⟨vs,T,heap_alloc_new w _,hl,h1,h2⟩,u1,e.size, ?_⟩
    simp[Act.put,ads]
   ·have hk:=xo p hp
    obtain⟨fO,T',kK,mN,sU,vt⟩:=hk.cells
    refine⟨hk.mem,hk.ai,⟨fO,T',by rw[heap_alloc_old w _ _ (kM kK)];exact kK,mN,sU,vt⟩,hk.unk,hk.base, ?_⟩
    rw[← hk.slot]
    have eW:t≠p.t:=(sV p hp).1 t rfl
    simp[Act.put,Array.getElem?_setIfInBounds_ne eW]
  ·have dw : ∀ p∈eI,¬ (q'=p.q∨t=p.t∨w.heap.size=p.b):=fun p hp h=>by
    rcases h with h|h|h
    ·exact SP p hp h.symm
    ·exact(sV p hp).1 t rfl h
    ·obtain⟨fO,T',kK,_⟩:=(xo p hp).cells
     have:=kM kK
     omega
   rcases List.mem_cons.1 hp with rfl|hp<;>rcases List.mem_cons.1 nD with rfl|nD
   ·rfl
   ·exact(dw p' nD he).elim
   ·exact(dw p hp (he.imp Eq.symm (Or.imp Eq.symm Eq.symm))).elim
   ·exact tL p hp p' nD he
 ·by_cases oP:gT ai.kind=true
  ·-- a step that changes something: it stands first
   have hkc:ai.kind = .core:=by
    cases hk:ai.kind<;>simp_all [gT]
   have hX:X = []:=by
    cases X with
    |nil=>rfl
    |cons x l=>
     refine(YR x l rfl ?_).elim
     unfold pN at g1
     rw[SQ,hkc]at g1
     simp only[List.all_reverse,List.all_eq_true]at g1
     have:=g1 x.1 (by simp)
     rwa [List.contains_iff_mem]at this
   subst hX
   have sV:=fun p hp=>EA p hp (fun h=>by simp at h)
   simp only[List.nil_append,lD,xm,oP]at hg
   obtain⟨d,s1,jy,hg⟩:=hg
   have alN:=ye (SS fun p hp=>(sV p hp).2) jy
   refine wpOp_mono (fun a' w' hr=>hK2 _ _ _ _ (hs.done hq H9) hr) ?_
   exact YO hi SO e r ht qZ hn hd xo tL (Kz alN) hg YT (fun p hp he=>(sV p hp).1 _ he rfl)
  ·-- a step that changes nothing
   have hm:gT ai.kind=false:=by simpa using oP
   have ow : ∀ a∈X.map (·.1),a∉iy pt q':=fun a ha fb=>by
    obtain⟨p,hp,vv⟩:=YQ a ha fb
    have B6:jN is a = .alloc:=by rw[← vv];exact hpk p hp
    have lr:lN is (iy pt q') (X.map (·.1)).reverse=true:=by
     unfold pN at g1
     rw[SQ]at g1
     cases hk:ai.kind with
     |pure=>simp only[hk,Bool.and_eq_true]at g1;exact g1.2
     |load=>simp only[hk,Bool.and_eq_true]at g1;exact g1.1.2
     |alloc=>exact(vw hk).elim
     |core=>rw[hk]at hm;cases hm
    cases X with
    |nil=>simp at ha
    | cons x l=>
     have ha2:a∈((x::l).map (·.1)).reverse:=List.mem_reverse.2 ha
     obtain⟨l1,l2,D6⟩:=List.append_of_mem ha2
     have Ag:=zj lr a l1 l2 D6 B6 fb
     refine YR x l rfl ?_
     cases jc:l2.reverse with
     |nil=>
      have h3:l2 = []:=by simpa using jc
      subst h3
      have:=congrArg List.reverse D6
      simp at this
      rw[this.1];exact fb
     |cons y l3=>
      have:=congrArg List.reverse D6
      simp only[List.reverse_reverse,List.map_cons,List.reverse_append,List.reverse_cons,List.reverse_nil,List.append_assoc,jc,List.cons_append,List.nil_append,List.cons.injEq]at this
      rw[this.1]
      exact Ag y (by rw[← List.mem_reverse,jc];simp)
   have fb : ∀ a∈X,lW is a.1 q'=true:=fun a ha=>by
    have h3 : ∀ x∈(X.map (·.1)).reverse,((iy pt q').contains x ||lW is x q')=true:=by
     unfold pN at g1
     rw[SQ]at g1
     cases hk:ai.kind with
     |pure=>simp only[hk,Bool.and_eq_true]at g1;exact List.all_eq_true.1 g1.1
     |load=>simp only[hk,Bool.and_eq_true]at g1;exact List.all_eq_true.1 g1.1.1
     |alloc=>exact(vw hk).elim
     |core=>rw[hk]at hm;cases hm
    have:=h3 a.1 (List.mem_reverse.2 (List.mem_map_of_mem ha))
    simp only[Bool.or_eq_true,List.contains_iff_mem]at this
    exact this.resolve_left (ow a.1 (List.mem_map_of_mem ha))
   have adt:ai.kind = .load→j9 is (X.map (·.1))≤b:=fun hk=>by
    unfold pN at g1
    rw[SQ,hk]at g1
    simp only[Bool.and_eq_true,decide_eq_true_eq]at g1
    have h3:=g1.2
    have h4:(X.map (·.1)).reverse.filter (fun a=> !(iy pt q').contains a)=(X.map (·.1)).reverse:=by
     rw[List.filter_eq_self]
     intro a ha
     have:=ow a (List.mem_reverse.1 ha)
     simpa using this
    rw[h4]at h3
    unfold j9 at h3 ⊢
    rw[List.filter_reverse,List.length_reverse]at h3
    exact h3
   have sV:=fun p hp=>EA p hp (fun h=>by
    obtain⟨x,hx,YS⟩:=List.mem_map.1 h
    rw[← YS];exact fb x hx)
   obtain⟨d,h1,_,zc⟩:=yf hK xm hm Y X bL tm s fb adt hg
   have sU:kq ai uk s=some d:=by rw[← rH (SS fun p hp=>(sV p hp).2)];exact h1
   refine wpOp_mono (fun a' w' hr=>hK2 _ _ _ _ (hs.done hq H9) hr) ?_
   exact YO hi SO e r ht qZ hn hd xo tL (PC hm sU) zc YT (fun p hp he=>(sV p hp).1 _ he rfl)
theorem D7 {o:Oper} {j:Nat} : j∈nE o↔∃ e∈o.after,Region.binds .any e=true∧e.on=j:=by
 simp only[nE,List.mem_map,List.mem_filter,Array.mem_toList_iff]
 constructor
 ·rintro⟨e,⟨h1,h2⟩,h3⟩;exact⟨e,h1,h2,h3⟩
 ·rintro⟨e,h1,h2,h3⟩;exact⟨e,⟨h1,h2⟩,h3⟩
theorem PG {ops:Array Oper} (yi:rR P nt ops ops.toList=some is) (PF:yP (ops.toList.map nE) pt is.length=true)
 (adu : ∀ i,i<is.length→∀ j∈iy (ops.toList.map nE) i,j<is.length) {Q:Exit→Tm→St→Prop} (hK : ∀ tm bD s,Tm.eqv tm bD→K tm s→K bD s)
 (hKQ : ∀ tm s act w,K tm s→Holds B nt tm s act w→qD B nt Q .normal act w) :
 ∀ (fuel:Nat) (dE:Array Bool) (R:List (Nat×Nat)) (eI:List Pd) (act:Act) (w:World) (U:List Nat),U.length≤fuel→(∀ j,j<is.length→dE.getD j false=false→j∈U)→
  se is (ops.toList.map nE) pt dE R eI→Af P is K B nt R eI act w→wpAny P .any ops (qD B nt Q) fuel dE act w:=by
 obtain⟨hlen,_⟩:=Dl yi
 have tD:is.length=ops.size:=by rw[hlen];simp
 have adv : ∀ (j:Nat) (o:Oper),ops[j]? = some o→iy (ops.toList.map nE) j=nE o:=fun j o h=>by
  simp[iy,List.getD,h]
 have fin : ∀ {dE:Array Bool} {eI:List Pd} {act:Act} {w:World},Af P is K B nt [] eI act w→qD B nt Q .normal act w:=by
  intro dE eI act w h
  obtain⟨M,s,tm,uk,bL,e,r,ht,qZ,hn,hd,hg,xo,tL⟩:=h
  have Ew : ∀ p∈eI,False:=fun p hp=>by have:=(xo p hp).mem;simp at this
  exact hKQ uk s act w (hK tm uk s (fun t=>(qZ t fun p hp=>(Ew p hp).elim).symm) hg) ⟨M,e,r,ht,hn,hd⟩
 have SU : ∀ {dE:Array Bool} {R:List (Nat×Nat)} {eI:List Pd} {x:Nat×Nat} {l:List (Nat×Nat)},se is (ops.toList.map nE) pt dE R eI→R=x::l→(∀ p∈eI,p.q≠x.1)→
  x.1∈Region.ready .any ops dE:=by
  intro dE R eI x l hs hR SP
  subst hR
  have hx:=hs.lt x (by simp)
  rw[mem_ready]
  have Fx:dE.getD x.1 false=false:=by
   cases hl:dE.getD x.1 false with
   |false=>rfl
   |true=>
    rcases(hs.H8 x.1 hx).1 hl with h1|⟨p,hp,vv⟩
    ·exact(h1 (by simp)).elim
    ·exact(SP p hp vv).elim
  have hxo:x.1<ops.size:=by rw[← tD];exact hx
  refine⟨by rw[tM (by rw[hs.size];exact hx)];exact Fx,ops[x.1],by simp[hxo],fun e he hb=>?_⟩
  have hm:e.on∈iy (ops.toList.map nE) x.1:=by rw[adv x.1 ops[x.1] (by simp[hxo])];exact D7.2 ⟨e,he,hb,rfl⟩
  obtain⟨_,_,_,g4,_⟩:=uj (X:= []) (q:=x.1) (b:=x.2) hs.ok
  obtain⟨h1,h2⟩:=g4 _ hm
  refine(hs.H8 e.on (adu x.1 hx _ hm)).2 (.inl ?_)
  simp only[List.map_cons,List.mem_cons,not_or]
  exact⟨h1,h2⟩
 intro fuel
 induction fuel with
 | zero=>
  intro dE R eI act w U hU Fx hs h
  obtain⟨R',xp,nJ,h',hn⟩:=norm R eI hs h
  have hUn:U = []:=List.length_eq_zero_iff.1 (by omega)
  have Ag : ∀ j,j<is.length→dE.getD j false=true:=fun j hj=>by
   cases hl:dE.getD j false with
   |true=>rfl
   |false=>have:=Fx j hj hl;rw[hUn]at this;cases this
  have hR:R' = []:=by
   cases hR:R' with
   |nil=>rfl
   |cons x l=>
    have hx:=nJ.lt x (by simp[hR])
    have:=SU nJ hR (hn x l hR)
    rw[mem_ready,tM (by rw[nJ.size];exact hx),Ag x.1 hx]at this
    cases this.1
  subst hR
  refine⟨?_,fin (dE:=dE) h'⟩
  cases hr:Region.ready .any ops dE with
  |nil=>rfl
  |cons j js=>
   have hj:j∈Region.ready .any ops dE:=by rw[hr];simp
   rw[mem_ready]at hj
   obtain⟨h1,o,ho,_⟩:=hj
   have YU:j<is.length:=by rw[tD];exact(Array.getElem?_eq_some_iff.1 ho).1
   rw[tM (by rw[hs.size];exact YU),Ag j YU]at h1
   cases h1
 | succ fuel ih=>
  intro dE R eI act w U hU Fx hs h
  obtain⟨R',xp,nJ,h',hn⟩:=norm R eI hs h
  refine⟨fun hr=>?_,fun i hi=>?_⟩
  ·cases hR:R' with
   |nil=>subst hR;exact fin (dE:=dE) h'
   |cons x l=>
    have:=SU nJ hR (hn x l hR)
    rw[hr]at this
    cases this
  ·rw [mem_ready]at hi
   obtain⟨h1,o,ho,alO⟩:=hi
   have rG:i<is.length:=by rw[tD];exact(Array.getElem?_eq_some_iff.1 ho).1
   rw[tM (by rw[hs.size];exact rG)]at h1
   refine PE yi PF hK nJ h' hn rG h1 (fun j hj=>⟨adu i rG j hj, ?_⟩) fun R2 ahy a2 w2 Bi h2=>?_
   ·rw [adv i o ho]at hj
    obtain⟨e,he,hb,rfl⟩:=D7.1 hj
    exact alO e he hb
   ·refine ih _ R2 ahy a2 w2 (U.erase i) ?_ (fun j hj hl=> ?_) Bi h2
    ·have:=List.length_erase_of_mem (Fx i rG h1)
     omega
    ·have hji:j≠i:=fun e=>by
      subst e
      have:j<dE.size:=by rw[hs.size];exact rG
      simp[this]at hl
     rw[getD_set_ne false (Ne.symm hji)]at hl
     exact(List.mem_erase_of_ne hji).2 (Fx j hj hl)
theorem Sem.par {is:List AI} {mF:List (Nat×Nat)} {Q:Exit→Tm→St→Prop} {tm:Tm} {s:St} (h:lD P is (Q .normal) mF [] tm s):Sem P B nt (.par is mF) Q tm s:=by
 intro c hc act w hh
 obtain⟨id,ops,rfl,hi,hm,pt,hp⟩:=mr hc
 simp only[JZ,Bool.and_eq_true,List.all_eq_true,List.mem_range,List.contains_iff_mem,decide_eq_true_eq]at hp
 obtain⟨⟨⟨⟨h1,h2⟩,h3⟩,h4⟩,h5⟩:=hp
 obtain⟨hlen,_⟩:=Dl hi
 have tD:is.length=ops.size:=by rw[hlen];simp
 refine wp_region_any hm ?_
 obtain⟨M,e,r,ht,hn,hd⟩:=hh
 have key : ∀ (R:List (Nat×Nat)) (bL:List St) (tm:Tm) (s:St),lD P is (Q .normal) R bL tm s→lD P is (fun tm s=>∃ bD,tm.eqv bD∧Q .normal bD s) R bL tm s:=by
  intro R
  induction R with
  |nil=>intro bL tm s h;exact⟨tm,fun _=>rfl,h⟩
  | cons x R ih=>
   obtain⟨q,b⟩:=x
   intro bL tm s h
   unfold lD at h ⊢
   split at h
   ·exact h.elim
   ·split at h
    ·obtain⟨d,s',h1,h2⟩:=h;exact⟨d,s',h1,ih _ _ _ h2⟩
    ·obtain⟨d,h1,h2,h3⟩:=h;exact⟨d,h1,h2,ih _ _ _ h3⟩
 have hg:=key _ _ _ _ h
 refine PG (K:=fun tm s=>∃ bD,tm.eqv bD∧Q .normal bD s) hi h1 h5 (fun tm bD s he ⟨t2,h3,h4⟩=>⟨t2,fun t=>(he t).symm.trans (h3 t),h4⟩)
  (fun tm s act w ⟨t2,h3,h4⟩ ⟨M,e,r,ht,hn,hd⟩=>⟨t2,s,h4,M,e,r,fun t=>by rw[← h3 t];exact ht t,hn,hd⟩) ops.size _ mF [] act _ (List.range is.length) (by simp[tD]) (fun j hj _=>by simpa using hj)
  ⟨h2,fun i hi=>?_,fun i hi hl=>?_,by simp[tD],h4⟩ ⟨M,s,tm,tm,[],⟨e.le,e.kept,e.uI,e.rf,e.sY,e.size,e.os,e.tape,e.output⟩,r.of_heap rfl,ht,fun _ _=>rfl,hn,hd,hg,by simp,by simp⟩
 ·have:i<ops.size:=by rw [← tD];exact hi
  have h6:=h3 i hi
  simp only[List.not_mem_nil,false_and,exists_false,or_false]
  rw[show(Array.replicate ops.size false).getD i false=false by simp[this]]
  simp[h6]
 ·have:i<ops.size:=by rw [← tD];exact hi
  rw[show(Array.replicate ops.size false).getD i false=false by simp[this]]at hl
  cases hl
end
end Go.Abs
namespace Go.Abs
theorem aay (k:IntKind) (n:Int):D.row (.int k n)=some [.int k n]:=rfl
theorem VK (b:Bool):D.row (.bool b)=some [.bool b]:=rfl
theorem aaz (l:List UInt8):D.row (.str l)=some [.str l]:=rfl
theorem VL:D.row .ew=some [.ew]:=rfl
theorem aaA (o f:Nat):D.row (.ptr o f)=some [.ptr o f]:=rfl
theorem VM (r:List D) (f:Nat):D.row (.dI r f)=some [.dI r f]:=rfl
theorem SV (g:Tag) (z:Nat) (r:List (List D)):D.row (.slice g z r)=some [.slice g z r]:=rfl
theorem aaB (cs:List D):D.row (.agg cs)=some cs:=rfl
theorem aaC (v:Value):D.row (.val v)=some [.val v]:=rfl
theorem SW (T:TypeId) (o:Nat):D.row (.fF T o)=some [.fF T o]:=rfl
theorem aaD (f:Nat) (cs:List D):D.row (.gw f cs)=some [.gw f cs]:=rfl
theorem VN (o:Nat):D.row (.gb o)=some [.gb o]:=rfl
theorem VO (w:Bool):Tag.cut .full w=if w then .full else .shared:=rfl
theorem PH (w:Bool):Tag.cut .shared w = .shared:=rfl
theorem VP (t:Nat) (y:Bool) (w:Bool):Tag.cut (.tok t y) w = .tok t y:=rfl
section
variable {P:Program}
def KC (P:Program) (r:List AI) (K:Tm→St→Prop) (tm:Tm) (dst:Option Nat) (d:D) (s:St):Prop:=jm P r K (tm.put dst d) s
def GI (P:Program) (g:D) (want:Bool) (i:AI) (r:List AI) (K:Tm→St→Prop) (tm:Tm) (s:St):Prop:=
 match g with
 | .bool b=>(b=want→jm P (i::r) K tm s)∧(b=(!want)→jm P r K (tm.put i.dst (.tuple [])) s)
 | .tuple _=>jm P r K (tm.put i.dst (.tuple [])) s
 |_=>False
def NI (P:Program) (dst:Option Nat) (neg:Bool) (x:D) (r:List AI) (K:Tm→St→Prop) (tm:Tm) (s:St):Prop:=
 match x with
 | .slice _ _ rows=>∀ b:Bool,(rows≠ []→b=false)→jm P r K (tm.put dst (.bool (if neg then !b else b))) s
 |_=>False
def vI (d:D) (A C:Prop):Prop:=
 match d with
 | .bool b=>(b=true→A)∧(b=false→C)
 |_=>False
theorem Sem.ahz {B:gi} {nt:Nat} {Q:Exit→Tm→St→Prop} {tm:Tm} {s:St} {x:X} {a b:AC} (h:vI (x.ev tm) (Sem P B nt a Q tm s) (Sem P B nt b Q tm s)):Sem P B nt (.cond x a b) Q tm s:=by
 unfold vI at h
 split at h
 ·rename_i t ht
  exact Sem.cond ht h.1 h.2
 ·exact h.elim
def gV (P:Program) (K:Tm→St→Prop):List (AI×Nat)→List St→Tm→St→Prop
 | [],_,tm,s=>K tm s
 |(ai,b)::r,bL,tm,s=>
  match gT ai.kind with
  |true=>∃ d s',tG P ai tm s d s'∧gV P K r (s::bL) (tm.put ai.dst d) s'
  |false=>∃ d,kq ai tm s=some d∧(ai.kind = .load→∀ s'∈bL.take b,kq ai tm s'=some d)∧gV P K r bL (tm.put ai.dst d) s
def nL (is:List AI):List (Nat×Nat)→Option (List (AI×Nat))
 | []=>some []
 |(q,b)::r=>match is[q]?,nL is r with
  |some ai,some l=>some ((ai,b)::l)
  |_,_=>none
theorem G3 {is:List AI} {K:Tm→St→Prop} : ∀ {mF:List (Nat×Nat)} {items:List (AI×Nat)} {bL:List St} {tm:Tm} {s:St},nL is mF=some items→gV P K items bL tm s→lD P is K mF bL tm s
 | [],items,bL,tm,s,h,g=>by cases h;exact g
 | (q,b)::r,items,bL,tm,s,h,g=>by
  simp only[nL]at h
  split at h
  ·rename_i ai l h1 h2
   cases h
   simp only[gV]at g
   simp only[lD,h1]
   split at g
   ·rename_i hk
    obtain⟨d,s',g1,g2⟩:=g
    try simp only[hk]
    exact⟨d,s',g1,G3 h2 g2⟩
   ·rename_i hk
    obtain⟨d,g1,g2,g3⟩:=g
    try simp only[hk]
    exact⟨d,g1,g2,G3 h2 g3⟩
  ·cases h
theorem Sem.alP {B:gi} {nt:Nat} {Q:Exit→Tm→St→Prop} {tm:Tm} {s:St} {is:List AI} {mF:List (Nat×Nat)} {items:List (AI×Nat)} (hi:nL is mF=some items) (h:gV P (Q .normal) items [] tm s):Sem P B nt (.par is mF) Q tm s:=
 Sem.par (G3 hi h)
def AI.free:AI→AI
 | .op d _ o=> .op d none o
 | .call d _ f xs=> .call d none f xs
 | .nil d _ n x=> .nil d none n x
 | .jM d _ t xs=> .jM d none t xs
def GL (P:Program) (g:D) (want:Bool) (i:AI) (b:Nat) (r:List (AI×Nat)) (K:Tm→St→Prop) (bL:List St) (tm:Tm) (s:St):Prop:=
 match g with
 | .bool v=>(v=want→gV P K ((i,b)::r) bL tm s)∧(v=(!want)→gV P K r (if gT i.kind then s::bL else bL) (tm.put i.dst (.tuple [])) s)
 | .tuple _=>gV P K r (if gT i.kind then s::bL else bL) (tm.put i.dst (.tuple [])) s
 |_=>False
def CL (one:Bool) (P:Program) (f:Nat) (args:List D) (s:St) (K:D→St→Prop):Prop:=
 match one with
 |true=>∃ d s',aF P f args s d s'∧K d s'
 |false=>bP P f args s K
def KL (P:Program) (K:Tm→St→Prop) (r:List (AI×Nat)) (bL:List St) (tm:Tm) (dst:Option Nat) (d:D) (s:St):Prop:=gV P K r bL (tm.put dst d) s
def oQ (i:AI) (tm:Tm) (d:D):List St→Prop
 | []=>True
 |s::r=>kq i tm s=some d∧oQ i tm d r
theorem Fy {i:AI} {tm:Tm} {d:D} : ∀ {l:List St},oQ i tm d l→∀ s∈l,kq i tm s=some d
 | [],_,s,h=>by cases h
 |a::l,h,s,hs=>by
  rcases List.mem_cons.1 hs with rfl|hs
  ·exact h.1
  ·exact Fy h.2 s hs
def PL (P:Program) (o:AO) (dst:Option Nat) (b:Nat) (r:List (AI×Nat)) (K:Tm→St→Prop) (bL:List St) (tm:Tm) (s:St):Prop:=
 match aM o tm s with
 |some (d,_)=>oQ (.op dst none o) tm d (bL.take b)∧gV P K r bL (tm.put dst d) s
 |none=>False
def ML (P:Program) (o:AO) (dst:Option Nat) (r:List (AI×Nat)) (K:Tm→St→Prop) (bL:List St) (tm:Tm) (s:St):Prop:=
 match aM o tm s with
 |some (d,s')=>gV P K r (s::bL) (tm.put dst d) s'
 |none=>False
def AO.core:AO→Bool
 | .alloc _=>true
 | .box _=>true
 | .vX .. =>true
 | .BI _=>true
 | .store .. =>true
 | .app .. =>true
 | .tV .. =>true
 | .BK .. =>true
 | .BL .. =>true
 | .apps .. =>true
 | .vF=>true
 | .zR .. =>true
 | .BM .. =>true
 |_=>false
theorem uq (dst:Option Nat) (g:Option (Nat×Bool)) (o:AO):gT (AI.op dst g o).kind=o.core:=by
 cases dst<;>cases g<;>cases o<;>rfl
def OL (P:Program) (o:AO) (dst:Option Nat) (b:Nat) (r:List (AI×Nat)) (K:Tm→St→Prop) (bL:List St) (tm:Tm) (s:St):Prop:=
 match o.core with
 |true=>ML P o dst r K bL tm s
 |false=>PL P o dst b r K bL tm s
theorem KA {K:Tm→St→Prop} {dst:Option Nat} {o:AO} {b:Nat} {r:List (AI×Nat)} {bL:List St} {tm:Tm} {s:St} (h:OL P o dst b r K bL tm s) :
 gV P K ((.op dst none o,b)::r) bL tm s:=by
 unfold OL at h
 simp only[gV,uq]
 cases hc:o.core with
 | true=>
  simp only[hc,ML]at h
  simp only[]
  split at h
  ·rename_i d s' he
   exact⟨d,s',by simpa[tG,guarded]using he,h⟩
  ·exact h.elim
 | false=>
  simp only[hc,PL]at h
  simp only[]
  split at h
  ·rename_i d s' he
   exact⟨d,by simp[kq,he],fun _=>Fy h.1,h.2⟩
  ·exact h.elim
theorem PI {K:Tm→St→Prop} {dst:Option Nat} {f:Nat} {xs:List X} {b:Nat} {r:List (AI×Nat)} {bL:List St} {tm:Tm} {s:St} (h:CL true P f (xs.map (·.ev tm)) s (KL P K r (s::bL) tm dst)) :
 gV P K ((.call dst none f xs,b)::r) bL tm s:=by
 obtain⟨d,s',h1,h2⟩:=h
 exact⟨d,s',h1,h2⟩
theorem adw {K:Tm→St→Prop} {i:AI} {t:Nat} {w:Bool} {b:Nat} {r:List (AI×Nat)} {bL:List St} {tm:Tm} {s:St} {j:AI} (hf:(∃ d o,i = .op d none o∧j = .op d (some (t,w)) o)∨(∃ d f xs,i = .call d none f xs∧j = .call d (some (t,w)) f xs))
 (hg:tm.get t = .bool w) (h:gV P K ((i,b)::r) bL tm s):gV P K ((j,b)::r) bL tm s:=by
 rcases hf with ⟨d,o,rfl,rfl⟩|⟨d,f,xs,rfl,rfl⟩
 ·simp only [gV,uq]at h ⊢
  cases hc:o.core<;>simp only[hc]at h ⊢
  ·obtain⟨x,h1,h2,h3⟩:=h
   refine⟨x,by simpa[kq,hg]using h1,fun hk s' nJ=>?_,h3⟩
   have vl:(AI.op d none o).kind = .load:=by
    cases d<;>cases o<;>first|exact hk|(cases hc;done)|(cases hk;done)
   simpa[kq,hg]using h2 vl s' nJ
  ·obtain⟨x,s',h1,h2⟩:=h
   exact⟨x,s',by simpa[tG,guarded,hg]using h1,h2⟩
 ·obtain⟨x,s',h1,h2⟩:=h
  exact⟨x,s',by simpa[tG,guarded,hg]using h1,h2⟩
theorem SX {K:Tm→St→Prop} {i:AI} {t:Nat} {w:Bool} {b:Nat} {r:List (AI×Nat)} {bL:List St} {tm:Tm} {s:St} {j:AI} (hf:(∃ d o,i = .op d none o∧j = .op d (some (t,w)) o)∨(∃ d f xs,i = .call d none f xs∧j = .call d (some (t,w)) f xs))
 (hg:tm.get t = .bool (!w)∨∃ l,tm.get t = .tuple l) (h:gV P K r (if gT i.kind then s::bL else bL) (tm.put i.dst (.tuple [])) s):gV P K ((j,b)::r) bL tm s:=by
 rcases hf with ⟨d,o,rfl,rfl⟩|⟨d,f,xs,rfl,rfl⟩
 ·simp only [gV,uq]at h ⊢
  cases hc:o.core<;>simp only[hc]at h ⊢
  ·refine⟨.tuple [], ?_,fun hk s' nJ=> ?_,h⟩
   ·rcases hg with hg|⟨l,hg⟩<;>simp[kq,hg]
   ·rcases hg with hg|⟨l,hg⟩<;>simp[kq,hg]
  ·refine⟨.tuple [],s, ?_,h⟩
   rcases hg with hg|⟨l,hg⟩<;>simp[tG,guarded,hg]
 ·refine⟨.tuple [],s, ?_,h⟩
  rcases hg with hg|⟨l,hg⟩<;>simp[tG,guarded,hg]
theorem Ny {K:Tm→St→Prop} {i j:AI} {t:Nat} {w:Bool} {b:Nat} {r:List (AI×Nat)} {bL:List St} {tm:Tm} {s:St} (hf:(∃ d o,i = .op d none o∧j = .op d (some (t,w)) o)∨(∃ d f xs,i = .call d none f xs∧j = .call d (some (t,w)) f xs))
 (h:GL P (tm.get t) w i b r K bL tm s):gV P K ((j,b)::r) bL tm s:=by
 unfold GL at h
 split at h
 ·rename_i v hv
  by_cases e:v=w
  ·exact adw hf (by rw[hv,e]) (h.1 e)
  ·exact SX hf (.inl (by rw[hv];cases v<;>cases w<;>simp_all)) (h.2 (by cases v<;>cases w<;>simp_all))
 ·rename_i l hl
  exact SX hf (.inr ⟨l,hl⟩) h
 ·exact h.elim
theorem Ia {K:Tm→St→Prop} {dst:Option Nat} {o:AO} {t:Nat} {w:Bool} {b:Nat} {r:List (AI×Nat)} {bL:List St} {tm:Tm} {s:St} (h:GL P (tm.get t) w (.op dst none o) b r K bL tm s) :
 gV P K ((.op dst (some (t,w)) o,b)::r) bL tm s:=Ny (.inl ⟨dst,o,rfl,rfl⟩) h
theorem MG {K:Tm→St→Prop} {dst:Option Nat} {f:Nat} {xs:List X} {t:Nat} {w:Bool} {b:Nat} {r:List (AI×Nat)} {bL:List St} {tm:Tm} {s:St} (h:GL P (tm.get t) w (.call dst none f xs) b r K bL tm s) :
 gV P K ((.call dst (some (t,w)) f xs,b)::r) bL tm s:=Ny (.inr ⟨dst,f,xs,rfl,rfl⟩) h
theorem CL.use {one:Bool} {f:Nat} {args:List D} {s:St} {d:D} {s':St} {K:D→St→Prop} (h:aF P f args s d s') (hk:K d s'):CL one P f args s K:=
 match one with
 |true=>⟨d,s',h,hk⟩
 |false=>h.use hk
theorem CU {one:Bool} {f:Nat} {args:List D} {s:St} {d:D} {s':St} {K:D→St→Prop} (h:aF P f args s d s') (hk:K d s'):CL one P f args s K:=CL.use h hk
theorem CR {f:Nat} {args:List D} {s:St} {Q K:D→St→Prop} (h:bP P f args s Q) (hk : ∀ d s',Q d s'→K d s'):CL false P f args s K:=bP.mono h hk
end
end Go.Abs
namespace Go.Abs
theorem nd {α:Type} {a b:α} (h:a=b):a=b:=h
def GJ (g:D) (w:Bool) (A C:Prop):Prop:=
 match g with
 | .bool b=>(b=w→A)∧(b=(!w)→C)
 | .tuple _=>C
 |_=>False
class Two where
 a:Prop
 c:Prop
def CB (d:D) [b:Two] : Prop:=vI d b.a b.c
def GB (d:D) (w:Bool) [b:Two] : Prop:=GJ d w b.a b.c
def nM (g:Option (Nat×Bool)) (tm:Tm) (A C:Prop):Prop:=
 match g with
 |none=>A
 |some (t,w)=>GJ (tm.get t) w A C
def kU (P:Program):List AI→(Tm→St→Prop)→Tm→St→Prop
 | [],K,tm,s=>K tm s
 | .op dst g o::r,K,tm,s=>nM g tm (match aM o tm s with|some (d,s')=>kU P r K (tm.put dst d) s'|none=>False) (kU P r K (tm.put dst (.tuple [])) s)
 | .call dst g f xs::r,K,tm,s=>nM g tm (CL false P f (xs.map (·.ev tm)) s fun d s'=>kU P r K (tm.put dst d) s') (kU P r K (tm.put dst (.tuple [])) s)
 | .nil dst g neg x::r,K,tm,s=>
  nM g tm (match x.ev tm with
   | .slice _ _ rows=>∀ b:Bool,(rows≠ []→b=false)→kU P r K (tm.put dst (.bool (if neg then !b else b))) s
   |_=>False) (kU P r K (tm.put dst (.tuple [])) s)
 | .jM dst g t xs::r,K,tm,s=>
  nM g tm (match tm.get t with
   | .gw f oi=>enters P f=true∧CL false P f (xs.map (·.ev tm)++oi) s fun d s'=>kU P r K (tm.put dst d) s'
   |_=>False) (kU P r K (tm.put dst (.tuple [])) s)
theorem tO {g:Option (Nat×Bool)} {tm:Tm} {A C A' C':Prop} (h:nM g tm A C) (ha:A→A') (hc:C→C'):guarded g tm A' C':=by
 unfold nM at h
 unfold guarded
 cases g with
 |none=>exact ha h
 | some p=>
  obtain⟨t,w⟩:=p
  simp only[GJ]at h ⊢
  split at h
  ·rename_i hb;try simp only [hb]
   exact⟨fun e=>ha (h.1 e),fun e=>hc (h.2 e)⟩
  ·rename_i hb;try simp only [hb]
   exact hc h
  ·exact h.elim
theorem o6 {P:Program} {K:Tm→St→Prop} : ∀ {is:List AI} {tm:Tm} {s:St},kU P is K tm s→jm P is K tm s
 | [],tm,s,h=>h
 | .op dst g o::r,tm,s,h=>by
  refine tO h (fun h=>?_) o6
  split at h
  ·rename_i he;try simp only [he]
   exact o6 h
  ·exact h.elim
 | .call dst g f xs::r,tm,s,h=>tO h (fun h=>bP.mono h fun _ _ h=>o6 h) o6
 | .nil dst g neg x::r,tm,s,h=>by
  refine tO h (fun h=>?_) o6
  split at h
  ·rename_i he;try simp only [he]
   exact fun b hb=>o6 (h b hb)
  ·exact h.elim
 | .jM dst g t xs::r,tm,s,h=>by
  refine tO h (fun h=>?_) o6
  split at h
  ·rename_i he;try simp only [he]
   exact⟨h.1,bP.mono h.2 fun _ _ h=>o6 h⟩
  ·exact h.elim
def gC (P:Program) (K:Tm→St→Prop):List (AI×Nat)→List St→Tm→St→Prop
 | [],_,tm,s=>K tm s
 |(.op dst g o,b)::r,bL,tm,s=>
  match o.core with
  |true=>nM g tm (match aM o tm s with|some (d,s')=>gC P K r (s::bL) (tm.put dst d) s'|none=>False) (gC P K r (s::bL) (tm.put dst (.tuple [])) s)
  |false=>nM g tm (match aM o tm s with|some (d,_)=>oQ (.op dst none o) tm d (bL.take b)∧gC P K r bL (tm.put dst d) s|none=>False) (gC P K r bL (tm.put dst (.tuple [])) s)
 |(.call dst g f xs,_)::r,bL,tm,s=>nM g tm (CL true P f (xs.map (·.ev tm)) s fun d s'=>gC P K r (s::bL) (tm.put dst d) s') (gC P K r (s::bL) (tm.put dst (.tuple [])) s)
 |(.nil ..,_)::_,_,_,_=>False
 |(.jM ..,_)::_,_,_,_=>False
theorem Cg {P:Program} {t:Nat} {w:Bool} {tm:Tm} {i:AI} {b:Nat} {r:List (AI×Nat)} {K:Tm→St→Prop} {bL:List St} {s:St} {A C:Prop} (h:nM (some (t,w)) tm A C) (ha:A→gV P K ((i,b)::r) bL tm s)
 (hc:C→gV P K r (if gT i.kind then s::bL else bL) (tm.put i.dst (.tuple [])) s):GL P (tm.get t) w i b r K bL tm s:=by
 simp only[nM,GJ]at h
 unfold GL
 split at h
 ·rename_i hb;try simp only [hb]
  exact⟨fun e=>ha (h.1 e),fun e=>hc (h.2 e)⟩
 ·rename_i hb;try simp only [hb]
  exact hc h
 ·exact h.elim
theorem nh {P:Program} {K:Tm→St→Prop} : ∀ {l:List (AI×Nat)} {bL:List St} {tm:Tm} {s:St},gC P K l bL tm s→gV P K l bL tm s
 | [],bL,tm,s,h=>h
 | (.op dst g o,b)::r,bL,tm,s,h=>by
  simp only[gC]at h
  cases hc:o.core with
  | true=>
   simp only[hc]at h
   have ha:(match aM o tm s with|some (d,s')=>gC P K r (s::bL) (tm.put dst d) s'|none=>False)→gV P K ((.op dst none o,b)::r) bL tm s:=by
    intro h
    refine KA ?_
    simp only[OL,hc,ML]
    split at h
    ·rename_i he;try simp only [he]
     exact nh h
    ·exact h.elim
   cases g with
   |none=>exact ha h
   |some p=>
    obtain⟨t,w⟩:=p
    refine Ia (Cg h ha fun h=>?_)
    simp only[uq,hc,if_true]
    exact nh h
  | false=>
   simp only[hc]at h
   have ha:(match aM o tm s with|some (d,_)=>oQ (.op dst none o) tm d (bL.take b)∧gC P K r bL (tm.put dst d) s|none=>False)→gV P K ((.op dst none o,b)::r) bL tm s:=by
    intro h
    refine KA ?_
    simp only[OL,hc,PL]
    split at h
    ·rename_i he;try simp only [he]
     exact⟨h.1,nh h.2⟩
    ·exact h.elim
   cases g with
   |none=>exact ha h
   |some p=>
    obtain⟨t,w⟩:=p
    refine Ia (Cg h ha fun h=>?_)
    simp only[uq,hc]
    exact nh h
 | (.call dst g f xs,b)::r,bL,tm,s,h=>by
  simp only[gC]at h
  have ha:(CL true P f (xs.map (·.ev tm)) s fun d s'=>gC P K r (s::bL) (tm.put dst d) s')→gV P K ((.call dst none f xs,b)::r) bL tm s:=
   fun⟨d,s',h1,h2⟩=>PI ⟨d,s',h1,nh h2⟩
  cases g with
  |none=>exact ha h
  |some p=>
   obtain⟨t,w⟩:=p
   exact MG (Cg h ha fun h=>nh h)
 |(.nil ..,_)::_,bL,tm,s,h=>h.elim
 |(.jM ..,_)::_,bL,tm,s,h=>h.elim
section
variable {P:Program} {B:gi} {nt:Nat}
def kL (P:Program) (B:gi) (nt:Nat):AC→(Exit→Tm→St→Prop)→Tm→St→Prop
 | .skip,Q,tm,s=>Q .normal tm s
 | .run is,Q,tm,s=>kU P is (Q .normal) tm s
 | .par is mF,Q,tm,s=>match nL is mF with|some l=>gC P (Q .normal) l [] tm s|none=>False
 | .seq a b,Q,tm,s=>kL P B nt a (oq (kL P B nt b Q) Q) tm s
 | .cond x a b,Q,tm,s=>vI (x.ev tm) (kL P B nt a Q tm s) (kL P B nt b Q tm s)
 | .block id a,Q,tm,s=>kL P B nt a (lf id Q) tm s
 | .loop a,Q,tm,s=>br P B nt a Q tm s
 | .exit id,Q,tm,s=>Q (.exit id) tm s
 | .scope a,Q,tm,s=>mw P B nt a a Q tm s
 | .label _,Q,tm,s=>Q .normal tm s
 | .goto l,Q,tm,s=>Q (.goto l) tm s
 | .ret,Q,tm,s=>Q .ret tm s
theorem iW : ∀ {ac:AC} {Q:Exit→Tm→St→Prop} {tm:Tm} {s:St},kL P B nt ac Q tm s→Sem P B nt ac Q tm s:=by
 intro ac
 induction ac with
 |skip=>exact fun h=>Sem.skip h
 |run is=>exact fun h=>Sem.run (o6 h)
 |par is mF=>
  intro Q tm s h
  simp only[kL]at h
  split at h
  ·exact Sem.alP ‹_› (nh h)
  ·exact h.elim
 |seq a b SD SE=>
  intro Q tm s h
  refine Sem.seq ((SD h).mono fun e tm s hq=>?_)
  cases e with
  |normal=>exact SE hq
  |_=>exact hq
 |cond x a b SD SE=>
  intro Q tm s h
  refine Sem.ahz ?_
  simp only[kL]at h
  unfold vI at h ⊢
  split at h
  ·exact⟨fun e=>SD (h.1 e),fun e=>SE (h.2 e)⟩
  ·exact h.elim
 |block id a ih=>exact fun h=>Sem.block (ih h)
 |loop a ih=>exact fun h=>Sem.loop h
 |exit id=>exact fun h=>Sem.exit h
 |scope a ih=>exact fun h=>Sem.scope h
 |label l=>exact fun h=>Sem.label h
 |goto l=>exact fun h=>Sem.goto h
 |ret=>exact fun h=>Sem.ret h
section
variable (Q:Exit→Tm→St→Prop) (N:Tm→St→Prop) (tm:Tm) (s:St) (a b:AC) (is:List AI) (x:X)
theorem VQ:kL P B nt .skip Q tm s=Q .normal tm s:=nd rfl
theorem aaF:kL P B nt (.run is) Q tm s=kU P is (Q .normal) tm s:=nd rfl
theorem aaG (mF:List (Nat×Nat)):kL P B nt (.par is mF) Q tm s=match nL is mF with|some l=>gC P (Q .normal) l [] tm s|none=>False:=nd rfl
theorem aaH:kL P B nt (.seq a b) Q tm s=kL P B nt a (oq (kL P B nt b Q) Q) tm s:=nd rfl
theorem VR:kL P B nt (.cond x a b) Q tm s = @CB (x.ev tm) ⟨kL P B nt a Q tm s,kL P B nt b Q tm s⟩:=nd rfl
theorem SY (id:Nat):kL P B nt (.block id a) Q tm s=kL P B nt a (lf id Q) tm s:=nd rfl
theorem VS:kL P B nt (.loop a) Q tm s=br P B nt a Q tm s:=nd rfl
theorem SZ:kL P B nt (.scope a) Q tm s=mw P B nt a a Q tm s:=nd rfl
theorem VT (id:Nat):kL P B nt (.exit id) Q tm s=Q (.exit id) tm s:=nd rfl
theorem S1 (id:Nat):kL P B nt (.label id) Q tm s=Q .normal tm s:=nd rfl
theorem VU (id:Nat):kL P B nt (.goto id) Q tm s=Q (.goto id) tm s:=nd rfl
theorem aaI:kL P B nt .ret Q tm s=Q .ret tm s:=nd rfl
theorem aaJ:oq N Q .normal tm s=N tm s:=nd rfl
theorem aaK:oq N Q .ret tm s=Q .ret tm s:=nd rfl
theorem aaL (id:Nat):oq N Q (.exit id) tm s=Q (.exit id) tm s:=nd rfl
theorem aaM (id:Nat):oq N Q (.goto id) tm s=Q (.goto id) tm s:=nd rfl
theorem VV (id:Nat):lf id Q .normal tm s=Q .normal tm s:=nd rfl
theorem VW (id:Nat):lf id Q .ret tm s=Q .ret tm s:=nd rfl
theorem VX (id l:Nat):lf id Q (.goto l) tm s=Q (.goto l) tm s:=nd rfl
theorem VY (id i:Nat):lf id Q (.exit i) tm s=if i=id then Q .normal tm s else Q (.exit i) tm s:=nd rfl
end
theorem br.lE {a:AC} {Q:Exit→Tm→St→Prop} {tm:Tm} {s:St} (h:kL P B nt a (oq (br P B nt a Q) Q) tm s):br P B nt a Q tm s:=br.once (iW h)
theorem mw.lE {a r:AC} {Q:Exit→Tm→St→Prop} {tm:Tm} {s:St} (h:kL P B nt r (Ad P B nt a Q) tm s):mw P B nt a r Q tm s:=mw.once (iW h)
def xq (tm:Tm) (n m:Nat):Tm→Prop
 | []=>True
 |(k,d)::r=>Wk ((tm.get k).fg n m) d∧xq tm n m r
theorem xq.get {tm:Tm} {n m:Nat} : ∀ {bD:Tm},xq tm n m bD→∀ t,Wk ((tm.get t).fg n m) (bD.get t)
 | [],_,t=>Wk.junk _
 |(k,d)::r,h,t=>by
  simp only[Tm.get]
  split
  ·rename_i hk;subst hk;exact h.1
  ·exact xq.get h.2 t
theorem Holds.re {Q:Exit→Tm→St→Prop} {tm bD:Tm} {s:St} {gD:List (List D)} {act:Act} {w:World} (n m:Nat) (hn:B.s.ah.length≤n) (hm:B.s.ay.length≤m) (ht:xq tm n m bD) (ho:gM (s.cut n m).ah gD)
 (h:Holds B nt tm s act w):Holds B nt bD ⟨gD,(s.cut n m).ay⟩ act w:=by
 obtain⟨M,e,r,hr,h1,h2⟩:=h
 obtain⟨r',le⟩:=(r.cut n m).sb ho
 have e':=e.cut hn hm
 refine⟨M,e'.trans ⟨le,fun _ _ _ _=>rfl,fun o h1 h2=>?_,fun t b c z hl e=> .inl ⟨hl,c,z,e⟩,fun _ _ h=>(h rfl).elim,Nat.le_refl _,rfl,rfl,rfl⟩,r',fun k=>((ht.get k) _ _ _ ((hr k).fg n m)).mono le,h1,h2⟩
 rw[← ho.len]at h2
 exact h1.elim (fun h1=>absurd h2 (Nat.not_lt.2 h1)) fun h1=>(h1 rfl).elim
theorem br.re {a:AC} {Q:Exit→Tm→St→Prop} {tm:Tm} {s:St} (bD:Tm) (gD:List (List D)) (n m:Nat) (hn:B.s.ah.length≤n) (hm:B.s.ay.length≤m) (ht:xq tm n m bD) (ho:gM (s.cut n m).ah gD)
 (h:br P B nt a Q bD ⟨gD,(s.cut n m).ay⟩):br P B nt a Q tm s:=
 fun c hc act w hh=>h c hc act w (hh.re (Q:=Q) n m hn hm ht ho)
theorem br.ind {ι:Type} {a:AC} {Q:Exit→Tm→St→Prop} (I:ι→Prop) (μ:ι→Nat) (TM:ι→Tm) (ST:ι→St)
 (step : ∀ i,I i→(∀ j,I j→μ j<μ i→br P B nt a Q (TM j) (ST j))→kL P B nt a (oq (br P B nt a Q) Q) (TM i) (ST i)) : ∀ i,I i→br P B nt a Q (TM i) (ST i):=by
 have key : ∀ n i,μ i<n→I i→br P B nt a Q (TM i) (ST i):=by
  intro n
  induction n with
  |zero=>intro i h;exact absurd h (Nat.not_lt_zero _)
  |succ n ih=>exact fun i h hi=>br.lE (step i hi fun j hj hD=>ih j (by omega) hj)
 exact fun i hi=>key (μ i+1) i (Nat.lt_succ_self _) hi
theorem drop_cons {α:Type} {l rest:List α} {k:Nat} {x:α} (h:l.drop k=x::rest):l[k]? = some x∧l.drop (k+1)=rest∧decide ((k:Int)<(l.length:Int))=true∧k<l.length:=by
 have h1:l[k]? = some x:=by
  have:(l.drop k)[0]? = some x:=by rw[h];rfl
  simpa using this
 have h2:=(List.getElem?_eq_some_iff.1 h1).1
 refine⟨h1, ?_,by simpa using h2,h2⟩
 have:l.drop (k+1)=(l.drop k).drop 1:=by rw[List.drop_drop]
 rw[this,h];rfl
theorem drop_nil {α:Type} {l:List α} {k:Nat} (h:l.drop k = []):decide ((k:Int)<(l.length:Int))=false:=by
 have:=List.drop_eq_nil_iff.1 h
 simp;omega
theorem br.rn {a:AC} {Q:Exit→Tm→St→Prop} {tm:Tm} {s:St} (t z':Nat) {z:Nat} (hw:tm.get t = .slice .full z [])
 (h:br P B nt a Q (tm.set t (.slice (.tok s.ay.length) z' [])) {s with ay:=s.ay++ [some 0]}):br P B nt a Q tm s:=by
 intro c hc act w ⟨M,e,r,ht,h1,h2⟩
 obtain⟨r',le⟩:=r.blank
 refine h c hc act w ⟨_,H6 e le,r',fun k=>?_,h1,h2⟩
 rw[Tm.GU]
 split
 ·rename_i hk;subst hk;have:=ht k;rw[hw]at this;exact this.own
 ·exact(ht k).mono le
theorem br.wm {a:AC} {Q:Exit→Tm→St→Prop} {tm:Tm} {s:St} (o i z':Nat) {z:Nat} {cs:List D} (hc:s.ah[o]? = some cs) (hi:cs[i]? = some (.slice .full z []))
 (h:br P B nt a Q tm ⟨s.ah.set o (cs.set i (.slice (.tok s.ay.length) z' [])),s.ay++ [some 0]⟩):br P B nt a Q tm s:=by
 intro c hcc act w hh
 obtain⟨M,e,r,ht,h1,h2⟩:=hh
 obtain⟨r',le⟩:=r.blank
 have le':Le M s (M.fi s.ay.length none) ⟨s.ah.set o (cs.set i (.slice (.tok s.ay.length) z' [])),s.ay++ [some 0]⟩:=⟨le.G,by simp,le.loc,le.t,le.tk⟩
 have le2:Le (M.fi s.ay.length none) {s with ay:=s.ay++ [some 0]} (M.fi s.ay.length none) ⟨s.ah.set o (cs.set i (.slice (.tok s.ay.length) z' [])),s.ay++ [some 0]⟩:=
  ⟨fun _ _ _ h=>h,by simp,fun _ _=> .refl _,Nat.le_refl _,fun t n' _ e=>⟨n',e,Nat.le_refl _,fun _=>rfl⟩⟩
 have r2:Rel (M.fi s.ay.length none) ⟨s.ah.set o (cs.set i (.slice (.tok s.ay.length) z' [])),s.ay++ [some 0]⟩ w:=by
  refine⟨r'.comm,fun o' ds e=>?_,fun o ho=>r'.ki o (by simpa using ho),fun o o' ho od=>r'.inj o o' (by simpa using ho) (by simpa using od),r'.tok,
   fun t b c z o hv e ho=>r'.fy t b c z o hv e (by simpa using ho),r'.gd⟩
  simp only[List.getElem?_set]at e
  split at e
  ·rename_i ho
   subst ho
   split at e
   ·cases e
    obtain⟨vs,T,g1,g2,g3,g4⟩:=r.obj o cs hc
    refine⟨vs,T,g1,by simpa using g2,g3,fun j d v e1 e2=>?_⟩
    rw[List.getElem?_set]at e1
    split at e1
    ·rename_i hj
     subst hj
     split at e1
     ·cases e1
      exact((g4 i _ v hi e2).own (z':=z')).mono le2
     ·cases e1
    ·exact(g4 j d v e1 e2).mono le'
   ·cases e
  ·obtain⟨vs,T,g1,g2,g3,g4⟩:=r'.obj o' ds e
   exact⟨vs,T,g1,g2,g3,fun i d v e1 e2=>(g4 i d v e1 e2).mono le2⟩
 have ee:Ext B.M B.s B.w (M.fi s.ay.length none) ⟨s.ah.set o (cs.set i (.slice (.tok s.ay.length) z' [])),s.ay++ [some 0]⟩ w:=by
  refine(H6 e le).trans ⟨le2,fun _ _ _ _=>rfl,fun o h1 h2=>?_,fun t b c z hl e=> .inl ⟨hl,c,z,e⟩,fun _ _ h=>(h rfl).elim,Nat.le_refl _,rfl,rfl,rfl⟩
  simp at h2
  exact h1.elim (fun h1=>absurd h2 (Nat.not_lt.2 h1)) fun h1=>(h1 rfl).elim
 exact h c hcc act w ⟨_,ee,r2,fun k=>(ht k).mono le',h1,h2⟩
theorem EC {ac r:AC} {l:Nat} {Q:Exit→Tm→St→Prop} {tm:Tm} {s:St} (hf:vH ac l=some r) (h:mw P B nt ac r Q tm s):Ad P B nt ac Q (.goto l) tm s:=⟨r,hf,h⟩
theorem Sem.nN {a b:AC} {Q:Exit→Tm→St→Prop} {tm:Tm} {s:St} (h:kL P B nt a (oq (Sem P B nt b Q) Q) tm s):Sem P B nt (.seq a b) Q tm s:=Sem.seq (iW h)
theorem Sem.re {a:AC} {Q:Exit→Tm→St→Prop} {tm:Tm} {s:St} (bD:Tm) (gD:List (List D)) (n m:Nat) (hn:B.s.ah.length≤n) (hm:B.s.ay.length≤m) (ht:xq tm n m bD) (ho:gM (s.cut n m).ah gD)
 (h:Sem P B nt a Q bD ⟨gD,(s.cut n m).ay⟩):Sem P B nt a Q tm s:=
 fun c hc act w hh=>h c hc act w (hh.re (Q:=Q) n m hn hm ht ho)
def Has (P:Program) (f nt:Nat) (res:List (Nat×Option (Bool×Nat))) (body:AC):Prop:=∃ fn,P.funcs[f]? = some fn∧cF P fn=some ⟨nt,res,body⟩
theorem aF.go {f:FuncId} {res:List (Nat×Option (Bool×Nat))} {body:AC} {args:List D} {s:St} {d:D} {s':St} (h0:Has P f nt res body) (hl:Nat.ble args.length nt=true)
 (h : ∀ (B:gi) (Q:Exit→Tm→St→Prop),B.s=s→qE s.ah.length s.ay.length res d s'=Q→kL P B nt body Q (nA 0 args) s):aF P f args s d s':=by
 obtain⟨fn,hf,hc⟩:=h0
 exact aF.intro ⟨fn,hf,hc⟩ (Nat.le_of_ble_eq_true hl) fun B hB=>iW (h B _ hB rfl)
theorem aF.adz {f:FuncId} {pre post:List D} {rows pz:List (List D)} {z z' k k':Nat} (h:aF P f (pre++ .slice (.tok 0) z rows::post) ⟨[],[some k]⟩ (.slice (.tok 0) z' pz) ⟨[],[some k']⟩)
 (hp:D.bJ 0 0 pre=true) (ha:D.bJ 0 0 post=true) (hw:D.gL 0 0 rows=true) (hw':D.gL 0 0 pz=true)
 {s:St} {t:Nat} (ht:s.ay[t]? = some (some k)):aF P f (pre++ .slice (.tok t) z rows::post) s (.slice (.tok t) z' pz) ⟨s.ah,s.ay.set t (some k')⟩:=by
 refine bP.frame [] [t] h (by simp) (by simp) (by simp) (by simpa using (List.getElem?_eq_some_iff.1 ht).1) rfl (fun i o' ds e1 e2=>by simp at e1) rfl (fun i t' e1=>?_)
  ?_ ?_ ?_
 ·cases i with
  |zero=>simp at e1;subst e1;simp[ht]
  |succ i=>simp at e1
 ·have h1:=fM [] [t] _ hp
  have h2:=fM [] [t] _ ha
  rw[fZ]at h1 h2
  simp[fZ,D.dh,Tag.dh,h1,h2,jB _ _ _ hw]
 ·have h1:=iQ (n':=0) (m':=1) (Nat.le_refl 0) (Nat.zero_le 1) _ hp
  have h2:=iQ (n':=0) (m':=1) (Nat.le_refl 0) (Nat.zero_le 1) _ ha
  rw[zf]at h1 h2 ⊢
  simp only[List.length_nil,List.length_cons,List.all_append,h1,Bool.true_and,List.all_cons,h2,Bool.and_true,D.ok,Tag.ok,ng (Nat.zero_le 0) (Nat.zero_le 1) _ hw]
  rfl
 ·rintro _ _ ⟨rfl,rfl⟩
  refine⟨by simp[D.back,D.dh,Tag.dh,k8,jB _ _ _ hw'], ?_⟩
  simp[St.back,lg]
theorem alS (A C:Prop) : @CB (.bool true) ⟨A,C⟩=A:=by simp[CB,vI]
theorem alT (A C:Prop) : @CB (.bool false) ⟨A,C⟩=C:=by simp[CB,vI]
theorem adB (b:Bool) (A C:Prop) : @CB (.bool (!b)) ⟨A,C⟩ = @CB (.bool b) ⟨C,A⟩:=by
 cases b<;>simp[CB,vI]
theorem KB {b:Bool} {A C:Prop} (h1:b=true→A) (h2:b=false→C) : @CB (.bool b) ⟨A,C⟩:=⟨h1,h2⟩
theorem adC {b:Bool} {A C:Prop} (h:b=true) (h1:b=true→A) : @CB (.bool b) ⟨A,C⟩:=KB h1 (fun h'=>by rw[h]at h';cases h')
theorem adD {b:Bool} {A C:Prop} (h:b=false) (h1:b=false→C) : @CB (.bool b) ⟨A,C⟩:=KB (fun h'=>by rw[h]at h';cases h') h1
theorem ahC {n m:Nat} {res:List (Nat×Option (Bool×Nat))} {d:D} {s':St} {tm:Tm} {s:St} {Q:Exit→Tm→St→Prop} (hQ:qE n m res d s'=Q)
 (h : ∃ l,aT res tm s=some l∧Wk ((aV l).fg n m) d∧gM (s.cut n m).ah s'.ah∧(s.cut n m).ay=s'.ay):Q .ret tm s:=hQ ▸ h
theorem ahD {n m:Nat} {res:List (Nat×Option (Bool×Nat))} {d:D} {s':St} {tm:Tm} {s:St} {Q:Exit→Tm→St→Prop} (hQ:qE n m res d s'=Q)
 (h : ∃ l,aT res tm s=some l∧Wk ((aV l).fg n m) d∧gM (s.cut n m).ah s'.ah∧(s.cut n m).ay=s'.ay):Q .normal tm s:=hQ ▸ h
end
attribute [go_sem] VQ aaF aaG aaH VR SY VS SZ VT S1 VU aaI aaJ aaK aaL aaM VV VW VX VY
theorem S2 : ∀ (tm:Tm) (s:St) (x:X),aM (AO.mv x) tm s=some (X.ev tm x,s):=
 fun tm s x=>nd (aM.eq_1 tm s x)
theorem S3 : ∀ (tm:Tm) (s:St) (c a b:X),
 aM (AO.pick c a b) tm s =
  match X.ev tm c with
  |D.bool t=>some (if t=true then X.ev tm a else X.ev tm b,s)
  |x=>none:=
 fun tm s c a b=>nd (aM.eq_2 tm s c a b)
theorem S4 : ∀ (tm:Tm) (s:St) (zero:List D),
 aM (AO.alloc zero) tm s=some (D.ptr s.ah.length 0,{ah:=s.ah++ [zero],ay:=s.ay}):=
 fun tm s zero=>nd (aM.eq_3 tm s zero)
theorem S5 : ∀ (tm:Tm) (s:St) (x:X),
 aM (AO.box x) tm s =
  match (X.ev tm x).row with
  |some r=>some (D.ptr s.ah.length 0,{ah:=s.ah++ [r],ay:=s.ay})
  |none=>none:=
 fun tm s x=>nd (aM.eq_4 tm s x)
theorem S6 : ∀ (tm:Tm) (s:St) (zero:List D) (parts:List (Nat×Nat×X)),
 aM (AO.build zero parts) tm s =
  match rP zero (List.map (fun(p:Nat×Nat×X)=>(p.fst,p.snd.fst,X.ev tm p.snd.snd)) parts)with
  |some cs=>some (D.agg cs,s)
  |none=>none:=
 fun tm s zero parts=>nd (aM.eq_5 tm s zero parts)
theorem S7 : ∀ (tm:Tm) (s:St) (zero:List D) (size n:Nat) (parts:List (Nat×X)),
 aM (AO.dq zero size n parts) tm s =
  match ky size (gf zero n) (List.map (fun(p:Nat×X)=>(p.fst,X.ev tm p.snd)) parts)with
  |some rows=>some (D.slice Tag.full size rows,s)
  |none=>none:=
 fun tm s zero size n parts=>nd (aM.eq_6 tm s zero size n parts)
theorem S8 : ∀ (tm:Tm) (s:St) (zero:List D) (size n:Nat) (parts:List (Nat×X)),
 aM (AO.vX zero size n parts) tm s =
  match ky size (gf zero n) (List.map (fun(p:Nat×X)=>(p.fst,X.ev tm p.snd)) parts)with
  |some rows=>
   some (D.slice (Tag.tok s.ay.length) size rows,{ah:=s.ah,ay:=s.ay++ [some rows.length]})
  |none=>none:=
 fun tm s zero size n parts=>nd (aM.eq_7 tm s zero size n parts)
theorem S9 : ∀ (tm:Tm) (s:St) (x:X),
 aM (AO.BI x) tm s =
  match X.ev tm x with
  | D.slice (Tag.tok t _) z rows=>
   if rows≠ []∧s.ay[t]? = some (some rows.length)then
    some (D.slice Tag.shared z rows,{ah:=s.ah,ay:=s.ay.set t none})
   else none
  |x=>none:=
 fun tm s x=>nd (aM.eq_8 tm s x)
theorem Ta : ∀ (tm:Tm) (s:St) (x:X) (agg:Bool) (size:Nat),
 aM (AO.load x agg size) tm s =
  match X.ev tm x with
  | D.ptr o off=>
   match s.ah[o]? with
   |some cs=>
    match part cs off agg size with
    |some d=>some (d,s)
    |none=>none
   |none=>none
  |D.dI row off=>
   match part row off agg size with
   |some d=>some (d,s)
   |none=>none
  |x=>zT x agg size s:=
 fun tm s x agg size=>nd (aM.eq_9 tm s x agg size)
theorem PJ : ∀ (tm:Tm) (s:St) (p x:X) (size:Nat),
 aM (AO.store p x size) tm s =
  match X.ev tm p,(X.ev tm x).row with
  | D.ptr o off,some r=>
   match s.ah[o]? with
   | some cs=>
    if r.length=size∧off+size≤cs.length then
     some (D.tuple [],{ah:=s.ah.set o (iO cs off r),ay:=s.ay})
    else none
   |none=>none
  |x,fI=>BP x fI size s:=
 fun tm s p x size=>nd (aM.eq_10 tm s p x size)
theorem PK : ∀ (tm:Tm) (s:St) (x:X),
 aM (AO.bY x) tm s =
  match X.ev tm x with
  |D.ptr o off=>some (D.ptr o off,s)
  |D.dI row off=>some (D.dI row off,s)
  |x=>match ON x with|some d=>some (d,s)|none=>none:=
 fun tm s x=>nd (aM.eq_11 tm s x)
theorem PN : ∀ (tm:Tm) (s:St) (op:BinOp) (x y:X),
 aM (AO.bin op x y) tm s =
  match xY op (X.ev tm x) (X.ev tm y)with
  |some d=>some (d,s)
  |none=>none:=
 fun tm s op x y=>nd (aM.eq_12 tm s op x y)
theorem PO : ∀ (tm:Tm) (s:St) (neg:Bool) (x y:X),
 aM (AO.HR neg x y) tm s =
  match X.ev tm x,X.ev tm y with
  |D.bool a,D.bool b=>some (D.bool (if neg=true then !a==b else a==b),s)
  |x,fI=>none:=
 fun tm s neg x y=>nd (aM.eq_13 tm s neg x y)
theorem PQ : ∀ (tm:Tm) (s:St) (neg:Bool) (ks:List Nat) (x y:X),
 aM (AO.eqs neg ks x y) tm s =
  match X.ev tm x,X.ev tm y with
  |D.agg a,D.agg b=>
   match lX ks a b with
   |some e=>some (D.bool (if neg=true then !e else e),s)
   |none=>none
  |x,fI=>none:=
 fun tm s neg ks x y=>nd (aM.eq_14 tm s neg ks x y)
theorem PR : ∀ (tm:Tm) (s:St) (neg:Bool) (x y:X),
 aM (AO.HS neg x y) tm s =
  match X.ev tm x,X.ev tm y with
  |D.ew,D.ew=>some (D.bool !neg,s)
  |D.ptr o off,D.ew=>some (D.bool neg,s)
  |D.dI row off,D.ew=>some (D.bool neg,s)
  |x,fI=>none:=
 fun tm s neg x y=>nd (aM.eq_15 tm s neg x y)
theorem PS : ∀ (tm:Tm) (s:St) (op:UnOp) (x:X),
 aM (AO.un op x) tm s =
  match J1 op (X.ev tm x)with
  |some d=>some (d,s)
  |none=>none:=
 fun tm s op x=>nd (aM.eq_16 tm s op x)
theorem PT : ∀ (tm:Tm) (s:St) (k:IntKind) (x:X),
 aM (AO.conv k x) tm s =
  match X.ev tm x with
  |D.int k_1 n=>some (D.int k (k.wrap n),s)
  |x=>none:=
 fun tm s k x=>nd (aM.eq_17 tm s k x)
theorem PU : ∀ (tm:Tm) (s:St) (x:X),
 aM (AO.E8 x) tm s =
  match X.ev tm x with
  |D.slice g size rows=>
   match o5 rows with
   |some b=>some (D.str b,s)
   |none=>none
  |x=>none:=
 fun tm s x=>nd (aM.eq_18 tm s x)
theorem PV : ∀ (tm:Tm) (s:St) (x:X),
 aM (AO.yO x) tm s =
  match X.ev tm x with
  |D.str l=>some (D.slice Tag.shared 1 (List.map (fun(c:UInt8)=> [D.int IntKind.u8 ↑c.toNat]) l),s)
  |x=>none:=
 fun tm s x=>nd (aM.eq_19 tm s x)
theorem PW : ∀ (tm:Tm) (s:St) (size:Nat) (x:X) (lo hi:Option X),
 aM (AO.E9 size x lo hi) tm s =
  match X.ev tm x with
  | D.slice g z rows=>
   match tW (Option.map (fun(x:X)=>X.ev tm x) lo),
    tX (Option.map (fun(x:X)=>X.ev tm x) hi) rows.length with
   | some l,some h=>
    if(rows = []∨z=size)∧0≤l∧l≤h∧h≤ ↑rows.length then
     some
      (D.slice (if l=0 then g.cut (decide (h = ↑rows.length))else Tag.shared) z
       (List.drop l.toNat (List.take h.toNat rows)),
       s)
    else none
   |x,fI=>none
  |x=>match x7 x (Option.map (fun(x:X)=>X.ev tm x) lo) (Option.map (fun(x:X)=>X.ev tm x) hi)with|some d=>some (d,s)|none=>none:=
 fun tm s size x lo hi=>nd (aM.eq_20 tm s size x lo hi)
theorem PX : ∀ (tm:Tm) (s:St) (x:X) (lo hi:Option X),
 aM (AO.JY x lo hi) tm s =
  match X.ev tm x with
  | D.str t=>
   match tW (Option.map (fun(x:X)=>X.ev tm x) lo),tX (Option.map (fun(x:X)=>X.ev tm x) hi) t.length with
   |some l,some h=>
    if 0≤l∧l≤h∧h≤ ↑t.length then some (D.str (List.drop l.toNat (List.take h.toNat t)),s)else none
   |x,fI=>none
  |x=>none:=
 fun tm s x lo hi=>nd (aM.eq_21 tm s x lo hi)
theorem PY : ∀ (tm:Tm) (s:St) (x:X) (off:Nat),
 aM (AO.aq x off) tm s =
  match X.ev tm x with
  |D.ptr o k=>some (D.ptr o (k+off),s)
  |D.dI row k=>some (D.dI row (k+off),s)
  |x=>match Fc x off with|some d=>some (d,s)|none=>none:=
 fun tm s x off=>nd (aM.eq_22 tm s x off)
theorem PZ : ∀ (tm:Tm) (s:St) (x:X) (off:Nat) (agg:Bool) (size:Nat),
 aM (AO.DW x off agg size) tm s =
  match X.ev tm x with
  |D.agg cs=>
   match part cs off agg size with
   |some d=>some (d,s)
   |none=>none
  |x=>none:=
 fun tm s x off agg size=>nd (aM.eq_23 tm s x off agg size)
theorem P0 : ∀ (tm:Tm) (s:St) (x i:X) (size:Nat),
 aM (AO.bZ x i size) tm s =
  match X.ev tm x,X.ev tm i with
  | D.slice g z rows,D.int k n=>
   if 0≤n∧z=size then
    match rows[n.toNat]? with
    |some row=>some (D.dI row 0,s)
    |none=>none
   else none
  |x,fI=>match yQ x fI size with|some d=>some (d,s)|none=>none:=
 fun tm s x i size=>nd (aM.eq_24 tm s x i size)
theorem P2 : ∀ (tm:Tm) (s:St) (x i:X),
 aM (AO.BJ x i) tm s =
  match X.ev tm x,X.ev tm i with
  | D.str t,D.int k n=>
   if 0≤n then
    match t[n.toNat]? with
    |some c=>some (D.int IntKind.u8 ↑c.toNat,s)
    |none=>none
   else none
  |x,fI=>none:=
 fun tm s x i=>nd (aM.eq_25 tm s x i)
theorem P3 : ∀ (tm:Tm) (s:St) (x:X) (i:Nat),
 aM (AO.ext x i) tm s =
  match X.ev tm x with
  |D.tuple ds=>
   match ds[i]? with
   |some d=>some (d,s)
   |none=>none
  |x=>none:=
 fun tm s x i=>nd (aM.eq_26 tm s x i)
theorem P4 : ∀ (tm:Tm) (s:St) (x:X),
 aM (AO.vY x) tm s =
  match X.ev tm x with
  |D.str t=>some (D.int IntKind.i64 ↑t.length,s)
  |x=>none:=
 fun tm s x=>nd (aM.eq_27 tm s x)
theorem P5 : ∀ (tm:Tm) (s:St) (x:X),
 aM (AO.len x) tm s =
  match X.ev tm x with
  |D.slice g size rows=>some (D.int IntKind.i64 ↑rows.length,s)
  |x=>match GM x with|some d=>some (d,s)|none=>none:=
 fun tm s x=>nd (aM.eq_28 tm s x)
theorem P6 : ∀ (tm:Tm) (s:St) (size bytes:Nat) (x y:X),
 aM (AO.app size bytes x y) tm s =
  match X.ev tm x with
  |D.slice g z rows=>iP size bytes (D.slice g z rows) (X.ev tm y) s
  |d=>BQ size bytes d (X.ev tm y) s:=
 fun tm s size bytes x y=>nd (aM.eq_29 tm s size bytes x y)
theorem P7 : ∀ (tm:Tm) (s:St) (isMax:Bool) (x y:X),
 aM (AO.mm isMax x y) tm s =
  match X.ev tm x,X.ev tm y with
  |D.int k a,D.int k' b=>
   if k=k' then some (D.int k (if isMax=true then if b > a then b else a else if b<a then b else a),s)
   else none
  |x,fI=>none:=
 fun tm s isMax x y=>nd (aM.eq_30 tm s isMax x y)
theorem P8 (tm:Tm) (s:St) (r:List D) (T:TypeId):aM (AO.tV (.ew::r) T) tm s=some (.ptr s.ah.length 0,{ah:=s.ah++ [.fF T s.ah.length::r],ay:=s.ay}):=nd rfl
theorem P9 (tm:Tm) (s:St) (x:X) (T:TypeId):aM (AO.BK x T) tm s =
 match (x.ev tm).row with
 |some (.ew::r)=>some (.ptr s.ah.length 0,{ah:=s.ah++ [.fF T s.ah.length::r],ay:=s.ay})
 |_=>none:=nd rfl
theorem Qa (tm:Tm) (s:St) (x y:X):aM (AO.apps x y) tm s =
 match y.ev tm with
 | .str l=>BO (x.ev tm) (.slice .shared 1 (l.map fun c=> [.int .u8 c.toNat])) s
 |_=>none:=nd rfl
theorem Qb (tm:Tm) (s:St) (x y:X):aM (AO.BL x y) tm s=BO (x.ev tm) (y.ev tm) s:=nd rfl
theorem Qc (tm:Tm) (s:St) (f:Nat) (xs:List X):aM (AO.vE f xs) tm s=some (.gw f (xs.map fun x=>x.ev tm),s):=nd rfl
theorem Qd (tm:Tm) (s:St):aM AO.vF tm s=some (.gb s.ah.length,{ah:=s.ah++ [[]],ay:=s.ay}):=nd rfl
theorem Qe (tm:Tm) (s:St) (m k v:X):aM (AO.zR m k v) tm s =
 match m.ev tm,k.ev tm,v.ev tm with
 | .gb o, .str key, .slice g z rows=>
  match s.ah[o]? with
  |some cs=>match xZ key (.slice g z rows) cs with|some kg=>some (.tuple [],{ah:=s.ah.set o kg,ay:=s.ay})|none=>none
  |none=>none
 |_,_,_=>none:=nd rfl
theorem Qf (tm:Tm) (s:St) (m k:X) (zero:D):aM (AO.xd m k zero) tm s =
 match m.ev tm,k.ev tm with
 | .gb o, .str key=>
  match s.ah[o]? with
  |some cs=>match zS key zero cs with|some d=>some (d,s)|none=>none
  |none=>none
 |_,_=>none:=nd rfl
theorem Qg (tm:Tm) (s:St) (o:FO) (x y:X):aM (AO.rO o x y) tm s=match rh o (x.ev tm) (y.ev tm)with|some d=>some (d,s)|none=>none:=nd rfl
theorem Qh (tm:Tm) (s:St) (size bytes:Nat) (zero:List D) (l c:X):aM (AO.BM size bytes zero l c) tm s =
 match l.ev tm,c.ev tm with
 | .int .i64 n, .int .i64 m=>if n=m∧0≤n∧n*((bytes:Int)+1)≤bx then some (.eQ size s.ah.length 0 n.toNat,{s with ah:=s.ah++ [.int .i64 ((0:Nat):Int)::(gf zero n.toNat).flatten]})else none
 |_,_=>none:=nd rfl
theorem KD (o:FO) (x y:X):(AO.rO o x y).core=false:=nd rfl
theorem KE (size bytes:Nat) (zero:List D) (l c:X):(AO.BM size bytes zero l c).core=true:=nd rfl
theorem KF (f:Nat) (xs:List X):(AO.vE f xs).core=false:=nd rfl
theorem KH:AO.vF.core=true:=nd rfl
theorem KI (m k v:X):(AO.zR m k v).core=true:=nd rfl
theorem KK (m k:X) (zero:D):(AO.xd m k zero).core=false:=nd rfl
theorem Tb (n m f:Nat) (cs:List D):D.fg n m (.gw f cs) = .gw f (D.gH n m cs):=nd (by simp only[D.fg])
theorem Tc (n m:Nat) (o:Nat):D.fg n m (.gb o)=if o<n then .gb o else .junk:=nd (by simp only[D.fg])
theorem Qi (d:Option Nat) (g:Option (Nat×Bool)) (t:Nat) (xs:List X):(AI.jM d g t xs).dst=d:=nd rfl
theorem KM (x y:X):(AO.BL x y).core=true:=nd rfl
theorem KN (z:List D) (T:TypeId):(AO.tV z T).core=true:=nd rfl
theorem KO (x:X) (T:TypeId):(AO.BK x T).core=true:=nd rfl
theorem KP (x y:X):(AO.apps x y).core=true:=nd rfl
theorem Td (n m:Nat) (v:Value):D.fg n m (.val v) = .val v:=nd (by simp only[D.fg])
theorem Te (n m:Nat) (T:TypeId) (o:Nat):D.fg n m (.fF T o)=if o<n then .fF T o else .junk:=nd (by simp only[D.fg])
theorem VZ : ∀ (tm:Tm) (t:Nat),X.ev tm (X.s t)=tm.get t:=
 fun tm t=>nd (X.ev.eq_1 tm t)
theorem V0 : ∀ (tm:Tm) (d:D),X.ev tm (X.k d)=d:=
 fun tm d=>nd (X.ev.eq_2 tm d)
theorem Qj : ∀ (tm:Tm) (d:D) (t:Nat),tm.put (some t) d=tm.set t d:=
 fun tm d t=>nd (Tm.put.eq_1 tm d t)
theorem Qk : ∀ (tm:Tm) (d:D),tm.put none d=tm:=
 fun tm d=>nd (Tm.put.eq_2 tm d)
theorem Ql : ∀ (x:Nat) (fI:D),Tm.set [] x fI = [(x,fI)]:=
 fun x fI=>nd (Tm.set.eq_1 x fI)
theorem Qm : ∀ (x:Nat) (fI:D) (k:Nat) (e:D) (r:List (Nat×D)),
 Tm.set ((k,e)::r) x fI=if k=x then(k,fI)::r else(k,e)::Tm.set r x fI:=
 fun x fI k e r=>nd (Tm.set.eq_2 x fI k e r)
theorem Qn : ∀ (x:Nat),Tm.get [] x=D.junk:=
 fun x=>nd (Tm.get.eq_1 x)
theorem Qo : ∀ (x k:Nat) (d:D) (r:List (Nat×D)),Tm.get ((k,d)::r) x=if k=x then d else Tm.get r x:=
 fun x k d r=>nd (Tm.get.eq_2 x k d r)
theorem Tf : ∀ (x:Nat),nA x [] = []:=
 fun x=>nd (nA.eq_1 x)
theorem Tg : ∀ (x:Nat) (d:D) (r:List D),nA x (d::r)=(x,d)::nA (x+1) r:=
 fun x d r=>nd (nA.eq_2 x d r)
theorem Qp : ∀ (d:Option Nat) (g:Option (Nat×Bool)) (o:AO),(AI.op d g o).dst=d:=
 fun d g o=>nd (AI.dst.eq_1 d g o)
theorem Qq : ∀ (d:Option Nat) (g:Option (Nat×Bool)) (f:Nat) (xs:List X),(AI.call d g f xs).dst=d:=
 fun d g f xs=>nd (AI.dst.eq_2 d g f xs)
theorem Qr : ∀ (d:Option Nat) (g:Option (Nat×Bool)) (neg:Bool) (fI:X),(AI.nil d g neg fI).dst=d:=
 fun d g neg fI=>nd (AI.dst.eq_3 d g neg fI)
theorem V1 : ∀ (cs:List D) (off size:Nat),
 part cs off true size=if off+size≤cs.length then some (D.agg (List.take size (List.drop off cs)))else none:=
 fun cs off size=>nd (part.eq_1 cs off size)
theorem V2 : ∀ (cs:List D) (off size:Nat),part cs off false size=cs[off]? :=
 fun cs off size=>nd (part.eq_2 cs off size)
theorem Qs : ∀ (cs:List D) (off:Nat) (r:List D),
 iO cs off r=List.take off cs++r++List.drop (off+r.length) cs:=
 fun cs off r=>nd (iO.eq_1 cs off r)
theorem Ti : ∀ (cells:List D),rP cells [] = some cells:=
 fun cells=>nd (rP.eq_1 cells)
theorem Tj : ∀ (cells:List D) (off size:Nat) (d:D) (rest:List (Nat×Nat×D)),
 rP cells ((off,size,d)::rest) =
  match d.row with
  |none=>none
  |some r=>if r.length=size∧off+size≤cells.length then rP (iO cells off r) rest else none:=
 fun cells off size d rest=>nd (rP.eq_2 cells off size d rest)
theorem KQ : ∀ (size:Nat) (rows:List (List D)),ky size rows [] = some rows:=
 fun size rows=>nd (ky.eq_1 size rows)
theorem KR : ∀ (size:Nat) (rows:List (List D)) (i:Nat) (d:D) (rest:List (Nat×D)),
 ky size rows ((i,d)::rest) =
  match d.row with
  |none=>none
  |some r=>if r.length=size∧i<rows.length then ky size (rows.set i r) rest else none:=
 fun size rows i d rest=>nd (ky.eq_2 size rows i d rest)
theorem KS : ∀ (zero:List D),gf zero 0 = []:=
 fun zero=>nd (gf.eq_1 zero)
theorem KT : ∀ (zero:List D) (i:Nat),gf zero i.succ=zero::gf zero i:=
 fun zero i=>nd (gf.eq_2 zero i)
theorem V3 : ∀ (op:BinOp) (k:IntKind) (a:Int) (k':IntKind) (b:Int),
 xY op (D.int k a) (D.int k' b)=if k=k' then gx op k a b else none:=
 fun op k a k' b=>nd (xY.eq_1 op k a k' b)
theorem V4 : ∀ (op:BinOp) (a b:List UInt8),xY op (D.str a) (D.str b)=oO op a b:=
 fun op a b=>nd (xY.eq_2 op a b)
theorem Qt : ∀ (k:IntKind) (a b:Int),gx BinOp.add k a b=some (D.int k (k.wrap (a+b))):=
 fun k a b=>nd (gx.eq_1 k a b)
theorem Qu : ∀ (k:IntKind) (a b:Int),gx BinOp.sub k a b=some (D.int k (k.wrap (a - b))):=
 fun k a b=>nd (gx.eq_2 k a b)
theorem Qv : ∀ (k:IntKind) (a b:Int),gx BinOp.mul k a b=some (D.int k (k.wrap (a*b))):=
 fun k a b=>nd (gx.eq_3 k a b)
theorem Qw : ∀ (k:IntKind) (a b:Int),
 gx BinOp.quo k a b=if b=0 then none else some (D.int k (k.wrap (a.tdiv b))):=
 fun k a b=>nd (gx.eq_4 k a b)
theorem Qx : ∀ (k:IntKind) (a b:Int),gx BinOp.rem k a b=if b=0 then none else some (D.int k (a.tmod b)):=
 fun k a b=>nd (gx.eq_5 k a b)
theorem Qy : ∀ (k:IntKind) (a b:Int),gx BinOp.eql k a b=some (D.bool (a==b)):=
 fun k a b=>nd (gx.eq_6 k a b)
theorem Qz : ∀ (k:IntKind) (a b:Int),gx BinOp.neq k a b=some (D.bool (a != b)):=
 fun k a b=>nd (gx.eq_7 k a b)
theorem QA : ∀ (k:IntKind) (a b:Int),gx BinOp.lss k a b=some (D.bool (decide (a<b))):=
 fun k a b=>nd (gx.eq_8 k a b)
theorem QB : ∀ (k:IntKind) (a b:Int),gx BinOp.leq k a b=some (D.bool (decide (a≤b))):=
 fun k a b=>nd (gx.eq_9 k a b)
theorem MI : ∀ (k:IntKind) (a b:Int),gx BinOp.gtr k a b=some (D.bool (decide (a > b))):=
 fun k a b=>nd (gx.eq_10 k a b)
theorem MJ : ∀ (k:IntKind) (a b:Int),gx BinOp.geq k a b=some (D.bool (decide (a≥b))):=
 fun k a b=>nd (gx.eq_11 k a b)
theorem QC : ∀ (a b:List UInt8),
 oO BinOp.add a b=if a.length+b.length≤bx then some (D.str (a++b))else none:=
 fun a b=>nd (oO.eq_1 a b)
theorem QD : ∀ (a b:List UInt8),oO BinOp.eql a b=some (D.bool (a==b)):=
 fun a b=>nd (oO.eq_2 a b)
theorem QE : ∀ (a b:List UInt8),oO BinOp.neq a b=some (D.bool !a==b):=
 fun a b=>nd (oO.eq_3 a b)
theorem QF : ∀ (a b:List UInt8),oO BinOp.lss a b=some (D.bool (bytesLess a b)):=
 fun a b=>nd (oO.eq_4 a b)
theorem aaN : ∀ (k:IntKind) (n:Int),J1 UnOp.neg (D.int k n)=some (D.int k (k.wrap (0 - n))):=
 fun k n=>nd (J1.eq_1 k n)
theorem aaO : ∀ (b:Bool),J1 UnOp.not (D.bool b)=some (D.bool !b):=
 fun b=>nd (J1.eq_2 b)
theorem QG : ∀ (k:IntKind) (a:Int) (k':IntKind) (b:Int),
 nF 0 (D.int k a) (D.int k' b)=if k=k' then some (a==b)else none:=
 fun k a k' b=>nd (nF.eq_1 k a k' b)
theorem QH : ∀ (a b:Bool),nF 1 (D.bool a) (D.bool b)=some (a==b):=
 fun a b=>nd (nF.eq_2 a b)
theorem QI : ∀ (a b:List UInt8),nF 2 (D.str a) (D.str b)=some (a==b):=
 fun a b=>nd (nF.eq_3 a b)
theorem MK:lX [] [] [] = some true:=
 nd (lX.eq_1)
theorem MM : ∀ (k:Nat) (ks:List Nat) (YV:D) (xs:List D) (y:D) (ys:List D),
 lX (k::ks) (YV::xs) (y::ys) =
  match nF k YV y with
  |none=>none
  |some true=>lX ks xs ys
  |some false=>some false:=
 fun k ks YV xs y ys=>nd (lX.eq_2 k ks YV xs y ys)
theorem aaP:tW none=some 0:=
 nd (tW.eq_1)
theorem aaQ : ∀ (k:IntKind) (n:Int),tW (some (D.int k n))=some n:=
 fun k n=>nd (tW.eq_2 k n)
theorem aaR : ∀ (len:Nat),tX none len=some ↑len:=
 fun len=>nd (tX.eq_1 len)
theorem aaS : ∀ (len:Nat) (k:IntKind) (n:Int),tX (some (D.int k n)) len=some n:=
 fun len k n=>nd (tX.eq_2 len k n)
theorem MN : ∀ (zero:List D),(AO.alloc zero).core=true:=
 fun zero=>nd (AO.core.eq_1 zero)
theorem MO : ∀ (fI:X),(AO.box fI).core=true:=
 fun fI=>nd (AO.core.eq_2 fI)
theorem MP : ∀ (zero:List D) (size n:Nat) (parts:List (Nat×X)),(AO.vX zero size n parts).core=true:=
 fun zero size n parts=>nd (AO.core.eq_3 zero size n parts)
theorem MQ : ∀ (fI:X),(AO.BI fI).core=true:=
 fun fI=>nd (AO.core.eq_4 fI)
theorem MR : ∀ (p fI:X) (size:Nat),(AO.store p fI size).core=true:=
 fun p fI size=>nd (AO.core.eq_5 p fI size)
theorem MS : ∀ (size bytes:Nat) (fI y:X),(AO.app size bytes fI y).core=true:=
 fun size bytes fI y=>nd (AO.core.eq_6 size bytes fI y)
theorem MT : ∀ (val:Nat) (zero:List D),(AI.op (some val) none (AO.alloc zero)).kind=AK.alloc:=
 fun val zero=>nd (AI.kind.eq_1 val zero)
theorem MU : ∀ (zero:List D),(AO.alloc zero).kind=AK.core:=
 fun zero=>nd (AO.kind.eq_1 zero)
theorem MV : ∀ (fI:X),(AO.box fI).kind=AK.core:=
 fun fI=>nd (AO.kind.eq_2 fI)
theorem MW : ∀ (zero:List D) (size n:Nat) (parts:List (Nat×X)),(AO.vX zero size n parts).kind=AK.core:=
 fun zero size n parts=>nd (AO.kind.eq_3 zero size n parts)
theorem MX : ∀ (fI:X),(AO.BI fI).kind=AK.core:=
 fun fI=>nd (AO.kind.eq_4 fI)
theorem MY : ∀ (p fI:X) (size:Nat),(AO.store p fI size).kind=AK.core:=
 fun p fI size=>nd (AO.kind.eq_5 p fI size)
theorem MZ : ∀ (size bytes:Nat) (fI y:X),(AO.app size bytes fI y).kind=AK.core:=
 fun size bytes fI y=>nd (AO.kind.eq_6 size bytes fI y)
theorem M3 : ∀ (fI:X) (agg:Bool) (size:Nat),(AO.load fI agg size).kind=AK.load:=
 fun _ _ _=>nd rfl
theorem QJ:gT AK.core=true:=
 nd (gT.eq_1)
theorem QK:gT AK.alloc=true:=
 nd (gT.eq_2)
theorem QL : ∀ (i:AI) (tm:Tm) (d:D),oQ i tm d [] = True:=
 fun i tm d=>nd (oQ.eq_1 i tm d)
theorem QM : ∀ (i:AI) (tm:Tm) (d:D) (s:St) (r:List St),
 oQ i tm d (s::r)=(kq i tm s=some d∧oQ i tm d r):=
 fun i tm d s r=>nd (oQ.eq_2 i tm d s r)
theorem aaT : ∀ (tm:Tm) (s:St) (dst:Option Nat) (o:AO),
 kq (AI.op dst none o) tm s=Option.map (fun(x:D×St)=>x.fst) (aM o tm s):=
 fun tm s dst o=>nd (kq.eq_1 tm s dst o)
theorem aaU : ∀ (tm:Tm) (s:St) (dst:Option Nat) (t:Nat) (want:Bool) (o:AO),
 kq (AI.op dst (some (t,want)) o) tm s =
  match tm.get t with
  |D.bool b=>if b=want then Option.map (fun(x:D×St)=>x.fst) (aM o tm s)else some (D.tuple [])
  |D.tuple vs=>some (D.tuple [])
  |x=>none:=
 fun tm s dst t want o=>nd (kq.eq_2 tm s dst t want o)
theorem M4 : ∀ (is:List AI),nL is [] = some []:=
 fun is=>nd (nL.eq_1 is)
theorem M5 : ∀ (is:List AI) (q b:Nat) (r:List (Nat×Nat)),
 nL is ((q,b)::r) =
  match is[q]?,nL is r with
  |some ai,some l=>some ((ai,b)::l)
  |x,fI=>none:=
 fun is q b r=>nd (nL.eq_2 is q b r)
theorem aaV : ∀ (tm:Tm) (n m:Nat),xq tm n m [] = True:=
 fun tm n m=>nd (xq.eq_1 tm n m)
theorem aaW : ∀ (tm:Tm) (n m k:Nat) (d:D) (r:List (Nat×D)),
 xq tm n m ((k,d)::r)=(Wk (D.fg n m (tm.get k)) d∧xq tm n m r):=
 fun tm n m k d r=>nd (xq.eq_2 tm n m k d r)
theorem V5 : ∀ (n m o off:Nat),D.fg n m (D.ptr o off)=if o<n then D.ptr o off else D.junk:=
 fun n m o off=>nd (D.fg.eq_1 n m o off)
theorem V6 : ∀ (n m:Nat) (row:List D) (off:Nat),D.fg n m (D.dI row off)=D.dI (D.gH n m row) off:=
 fun n m row off=>nd (D.fg.eq_2 n m row off)
theorem V7 : ∀ (n m:Nat) (g:Tag) (z:Nat) (rows:List (List D)),
 D.fg n m (D.slice g z rows)=D.slice (Tag.fg m g) z (D.kZ n m rows):=
 fun n m g z rows=>nd (D.fg.eq_3 n m g z rows)
theorem V8 : ∀ (n m:Nat) (cs:List D),D.fg n m (D.agg cs)=D.agg (D.gH n m cs):=
 fun n m cs=>nd (D.fg.eq_4 n m cs)
theorem V9 : ∀ (n m:Nat) (ds:List D),D.fg n m (D.tuple ds)=D.tuple (D.gH n m ds):=
 fun n m ds=>nd (D.fg.eq_5 n m ds)
theorem Wa : ∀ (n m:Nat),D.fg n m D.junk=D.junk:=
 fun n m=>nd (D.fg.eq_6 n m)
theorem Wb : ∀ (n m:Nat) (k:IntKind) (fI:Int),D.fg n m (D.int k fI)=D.int k fI:=
 fun n m k fI=>nd (D.fg.eq_7 n m k fI)
theorem Wc : ∀ (n m:Nat) (b:Bool),D.fg n m (D.bool b)=D.bool b:=
 fun n m b=>nd (D.fg.eq_8 n m b)
theorem Wd : ∀ (n m:Nat) (l:List UInt8),D.fg n m (D.str l)=D.str l:=
 fun n m l=>nd (D.fg.eq_9 n m l)
theorem Tk : ∀ (n m:Nat),D.fg n m D.ew=D.ew:=
 fun n m=>nd (D.fg.eq_10 n m)
theorem Tl : ∀ (n m:Nat),D.gH n m [] = []:=
 fun n m=>nd (D.gH.eq_1 n m)
theorem Tn : ∀ (n m:Nat) (d:D) (r:List D),D.gH n m (d::r)=D.fg n m d::D.gH n m r:=
 fun n m d r=>nd (D.gH.eq_2 n m d r)
theorem To : ∀ (n m:Nat),D.kZ n m [] = []:=
 fun n m=>nd (D.kZ.eq_1 n m)
theorem Tp : ∀ (n m:Nat) (d:List D) (r:List (List D)),D.kZ n m (d::r)=D.gH n m d::D.kZ n m r:=
 fun n m d r=>nd (D.kZ.eq_2 n m d r)
theorem QN : ∀ (m t:Nat) (y:Bool),Tag.fg m (Tag.tok t y)=if t<m then Tag.tok t y else Tag.shared:=
 fun _ _ _=>nd rfl
theorem QO : ∀ (s:St) (n m:Nat),
 s.cut n m = {ah:=List.map (D.gH n m) (List.take n s.ah),ay:=List.take m s.ay}:=
 fun s n m=>nd (St.cut.eq_1 s n m)
theorem Wf : ∀ (d:D),aV [d] = d:=
 fun d=>nd (aV.eq_1 d)
theorem Wg (size bytes t:Nat) (rows:List (List D)) (g:Tag) (r:List D) (s:St):iP size bytes (.slice (.tok t) size rows) (.slice g size [r]) s =
 if(rows.length+1)*(bytes+1)≤bx∧s.ay[t]? = some (some rows.length)then some (.slice (.tok t) size (rows++ [r]),⟨s.ah,s.ay.set t (some (rows.length+1))⟩)else none:=by
 simp only[iP,List.length_singleton]
 by_cases h1:(rows.length+1)*(bytes+1)≤bx<;>by_cases h2:s.ay[t]? = some (some rows.length)<;>simp[h1,h2]
theorem ox {size bytes t:Nat} {rows new:List (List D)} {g:Tag} {s:St} (h1:(rows.length+new.length)*(bytes+1)≤bx) (h2:s.ay[t]? = some (some rows.length)) :
 iP size bytes (.slice (.tok t) size rows) (.slice g size new) s=some (.slice (.tok t) size (rows++new),⟨s.ah,s.ay.set t (some (rows.length+new.length))⟩):=by
 cases new with
 | nil=>
  have:s.ay.set t (some rows.length)=s.ay:=by
   apply List.ext_getElem?
   intro i
   rw[List.getElem?_set]
   split
   ·rename_i hi;subst hi;rw[h2,if_pos (List.getElem?_eq_some_iff.1 h2).1]
   ·rfl
  simp only[List.length_nil,Nat.add_zero]at h1
  simp[iP,h1,this]
 |cons x l=>
  simp only[iP,h1,h2]
  simp
theorem Tq (size bytes z:Nat) (g:Tag) (r:List D) (s:St):iP size bytes (.slice .full z []) (.slice g size [r]) s =
 if bytes+1≤bx then some (.slice (.tok s.ay.length) size [r],⟨s.ah,s.ay++ [some 1]⟩)else none:=by
 simp[iP]
theorem aaX {P:Program} {B:gi} {nt:Nat} (ac:AC) (Q:Exit→Tm→St→Prop) (tm:Tm) (s:St):Ad P B nt ac Q .normal tm s=Q .normal tm s:=nd rfl
theorem aaY {P:Program} {B:gi} {nt:Nat} (ac:AC) (Q:Exit→Tm→St→Prop) (tm:Tm) (s:St):Ad P B nt ac Q .ret tm s=Q .ret tm s:=nd rfl
theorem aaZ {P:Program} {B:gi} {nt:Nat} (ac:AC) (Q:Exit→Tm→St→Prop) (tm:Tm) (s:St) (i:Nat):Ad P B nt ac Q (.exit i) tm s=Q (.exit i) tm s:=nd rfl
theorem aa0 (m:Nat):Tag.fg m .full = .full:=nd rfl
theorem Tr (m:Nat):Tag.fg m .shared = .shared:=nd rfl
theorem ahE {P:Program} (K:Tm→St→Prop) (tm:Tm) (s:St):kU P [] K tm s=K tm s:=nd rfl
theorem s_op {P:Program} (dst:Option Nat) (o:AO) (r:List AI) (K:Tm→St→Prop) (tm:Tm) (s:St) :
 kU P (.op dst none o::r) K tm s=(match aM o tm s with|some (d,s')=>kU P r K (tm.put dst d) s'|none=>False):=nd rfl
def KJ (P:Program) (r:List AI) (K:Tm→St→Prop) (tm:Tm) (dst:Option Nat) (d:D) (s:St):Prop:=kU P r K (tm.put dst d) s
theorem alV {P:Program} (r:List AI) (K:Tm→St→Prop) (tm:Tm) (dst:Option Nat) (d:D) (s:St):KJ P r K tm dst d s=kU P r K (tm.put dst d) s:=nd rfl
theorem s_call {P:Program} (dst:Option Nat) (f:Nat) (xs:List X) (r:List AI) (K:Tm→St→Prop) (tm:Tm) (s:St) :
 kU P (.call dst none f xs::r) K tm s=CL false P f (xs.map (·.ev tm)) s (KJ P r K tm dst):=nd rfl
def NJ (P:Program) (dst:Option Nat) (neg:Bool) (x:D) (r:List AI) (K:Tm→St→Prop) (tm:Tm) (s:St):Prop:=
 match x with
 | .slice _ _ rows=>∀ b:Bool,(rows≠ []→b=false)→kU P r K (tm.put dst (.bool (if neg then !b else b))) s
 |_=>False
theorem adE {P:Program} (dst:Option Nat) (neg:Bool) (x:X) (r:List AI) (K:Tm→St→Prop) (tm:Tm) (s:St) :
 kU P (.nil dst none neg x::r) K tm s=NJ P dst neg (x.ev tm) r K tm s:=nd rfl
theorem aa1 {P:Program} (dst:Option Nat) (neg:Bool) (g:Tag) (z:Nat) (d:List D) (l:List (List D)) (r:List AI) (K:Tm→St→Prop) (tm:Tm) (s:St) :
 NJ P dst neg (.slice g z (d::l)) r K tm s=kU P r K (tm.put dst (.bool neg)) s:=by
 simp only[NJ,ne_eq,reduceCtorEq,not_false_eq_true,true_imp_iff,eq_iff_iff]
 refine⟨fun h=>by have:=h false rfl;cases neg<;>exact this,fun h b hb=>?_⟩
 subst hb;cases neg<;>exact h
theorem Wh {P:Program} {dst:Option Nat} {neg:Bool} {g:Tag} {z:Nat} {l:List (List D)} {r:List AI} {K:Tm→St→Prop} {tm:Tm} {s:St}
 (h1:l = []→kU P r K (tm.put dst (.bool (!neg))) s) (h2:kU P r K (tm.put dst (.bool neg)) s):NJ P dst neg (.slice g z l) r K tm s:=by
 intro b hb
 cases b with
 |false=>cases neg<;>exact h2
 |true=>
  have:l = []:=Decidable.byContradiction fun h=>by cases hb h
  cases neg<;>exact h1 this
theorem ahG {P:Program} (dst:Option Nat) (t:Nat) (w:Bool) (o:AO) (r:List AI) (K:Tm→St→Prop) (tm:Tm) (s:St) :
 kU P (.op dst (some (t,w)) o::r) K tm s = @GB (tm.get t) w ⟨(kU P (.op dst none o::r) K tm s),(kU P r K (tm.put dst (.tuple [])) s)⟩:=nd rfl
def CV (P:Program) (x:D) (ahH:List D) (s:St) (K:D→St→Prop):Prop:=
 match x with
 | .gw f oi=>enters P f=true∧CL false P f (ahH++oi) s K
 |_=>False
theorem aa2 {P:Program} (dst:Option Nat) (t:Nat) (xs:List X) (r:List AI) (K:Tm→St→Prop) (tm:Tm) (s:St) :
 kU P (.jM dst none t xs::r) K tm s=CV P (tm.get t) (xs.map (·.ev tm)) s (KJ P r K tm dst):=nd rfl
theorem CV.use {P:Program} {f:Nat} {oi ahH:List D} {s s':St} {d:D} {K:D→St→Prop} (he:enters P f=true) (h:aF P f (ahH++oi) s d s') (k:K d s'):CV P (.gw f oi) ahH s K:=⟨he,CU h k⟩
theorem Wi {P:Program} (dst:Option Nat) (t:Nat) (w:Bool) (u:Nat) (xs:List X) (r:List AI) (K:Tm→St→Prop) (tm:Tm) (s:St) :
 kU P (.jM dst (some (t,w)) u xs::r) K tm s = @GB (tm.get t) w ⟨(kU P (.jM dst none u xs::r) K tm s),(kU P r K (tm.put dst (.tuple [])) s)⟩:=nd rfl
theorem aa3 {P:Program} (dst:Option Nat) (t:Nat) (w:Bool) (f:Nat) (xs:List X) (r:List AI) (K:Tm→St→Prop) (tm:Tm) (s:St) :
 kU P (.call dst (some (t,w)) f xs::r) K tm s = @GB (tm.get t) w ⟨(kU P (.call dst none f xs::r) K tm s),(kU P r K (tm.put dst (.tuple [])) s)⟩:=nd rfl
theorem adG {P:Program} (dst:Option Nat) (t:Nat) (w:Bool) (neg:Bool) (x:X) (r:List AI) (K:Tm→St→Prop) (tm:Tm) (s:St) :
 kU P (.nil dst (some (t,w)) neg x::r) K tm s = @GB (tm.get t) w ⟨(kU P (.nil dst none neg x::r) K tm s),(kU P r K (tm.put dst (.tuple [])) s)⟩:=nd rfl
theorem alW (b:Bool) (A C:Prop) : @GB (.bool b) true ⟨A,C⟩ = @CB (.bool b) ⟨A,C⟩:=nd rfl
theorem alX (b:Bool) (A C:Prop) : @GB (.bool b) false ⟨A,C⟩ = @CB (.bool b) ⟨C,A⟩:=by
 cases b<;>simp[GB,CB,GJ,vI]
theorem alY (l:List D) (w:Bool) (A C:Prop) : @GB (.tuple l) w ⟨A,C⟩=C:=nd rfl
theorem ahI {P:Program} {K:Tm→St→Prop} (bL:List St) (tm:Tm) (s:St):gC P K [] bL tm s=K tm s:=nd rfl
def OJ (P:Program) (o:AO) (dst:Option Nat) (b:Nat) (r:List (AI×Nat)) (K:Tm→St→Prop) (bL:List St) (tm:Tm) (s:St):Bool→Prop
 |true=>match aM o tm s with|some (d,s')=>gC P K r (s::bL) (tm.put dst d) s'|none=>False
 |false=>match aM o tm s with|some (d,_)=>oQ (.op dst none o) tm d (bL.take b)∧gC P K r bL (tm.put dst d) s|none=>False
theorem al0 {P:Program} {K:Tm→St→Prop} (dst:Option Nat) (o:AO) (b:Nat) (r:List (AI×Nat)) (bL:List St) (tm:Tm) (s:St) :
 gC P K ((.op dst none o,b)::r) bL tm s=OJ P o dst b r K bL tm s o.core:=by
 simp only[gC,nM]
 cases o.core<;>rfl
theorem al1 {P:Program} (o:AO) (dst:Option Nat) (b:Nat) (r:List (AI×Nat)) (K:Tm→St→Prop) (bL:List St) (tm:Tm) (s:St) :
 OJ P o dst b r K bL tm s true=match aM o tm s with|some (d,s')=>gC P K r (s::bL) (tm.put dst d) s'|none=>False:=nd rfl
theorem al2 {P:Program} (o:AO) (dst:Option Nat) (b:Nat) (r:List (AI×Nat)) (K:Tm→St→Prop) (bL:List St) (tm:Tm) (s:St) :
 OJ P o dst b r K bL tm s false=match aM o tm s with|some (d,_)=>oQ (.op dst none o) tm d (bL.take b)∧gC P K r bL (tm.put dst d) s|none=>False:=nd rfl
theorem ahJ {P:Program} {K:Tm→St→Prop} (dst:Option Nat) (t:Nat) (w:Bool) (o:AO) (b:Nat) (r:List (AI×Nat)) (bL:List St) (tm:Tm) (s:St) :
 gC P K ((.op dst (some (t,w)) o,b)::r) bL tm s = @GB (tm.get t) w ⟨(gC P K ((.op dst none o,b)::r) bL tm s),(gC P K r (if o.core then s::bL else bL) (tm.put dst (.tuple [])) s)⟩:=by
 simp only[GB,gC,nM]
 cases o.core<;>rfl
def KG (P:Program) (K:Tm→St→Prop) (r:List (AI×Nat)) (bL:List St) (tm:Tm) (dst:Option Nat) (d:D) (s:St):Prop:=gC P K r bL (tm.put dst d) s
theorem al3 {P:Program} (K:Tm→St→Prop) (r:List (AI×Nat)) (bL:List St) (tm:Tm) (dst:Option Nat) (d:D) (s:St):KG P K r bL tm dst d s=gC P K r bL (tm.put dst d) s:=nd rfl
theorem g_call {P:Program} {K:Tm→St→Prop} (dst:Option Nat) (f:Nat) (xs:List X) (b:Nat) (r:List (AI×Nat)) (bL:List St) (tm:Tm) (s:St) :
 gC P K ((.call dst none f xs,b)::r) bL tm s=CL true P f (xs.map (·.ev tm)) s (KG P K r (s::bL) tm dst):=nd rfl
theorem aa4 {P:Program} {K:Tm→St→Prop} (dst:Option Nat) (t:Nat) (w:Bool) (f:Nat) (xs:List X) (b:Nat) (r:List (AI×Nat)) (bL:List St) (tm:Tm) (s:St) :
 gC P K ((.call dst (some (t,w)) f xs,b)::r) bL tm s = @GB (tm.get t) w ⟨(gC P K ((.call dst none f xs,b)::r) bL tm s),(gC P K r (s::bL) (tm.put dst (.tuple [])) s)⟩:=nd rfl
class Ok (p:Prop):Prop where
 out:p
instance:Ok True:=⟨trivial⟩
instance {p q:Prop} [Ok p] [Ok q] : Ok (p∧q):=⟨⟨Ok.out,Ok.out⟩⟩
instance {α:Type} (a:α):Ok (a=a):=⟨rfl⟩
instance (d:D):Ok (Wk d .junk):=⟨Wk.junk d⟩
instance {l l':List D} [Ok (jK l l')] : Ok (Wk (.tuple l) (.tuple l')):=⟨Wk.tuple Ok.out⟩
instance {l l':List D} [Ok (jK l l')] : Ok (Wk (.agg l) (.agg l')):=⟨Wk.agg Ok.out⟩
instance {g:Tag} {z:Nat} {l l':List (List D)} [Ok (gM l l')] : Ok (Wk (.slice g z l) (.slice g z l')):=⟨Wk.rows Ok.out⟩
instance {g:Tag} {z:Nat} {l l':List (List D)} [Ok (gM l l')] : Ok (Wk (.slice g z l) (.slice .shared z l')):=⟨Wk.slice Ok.out⟩
instance (z z':Nat):Ok (Wk (.slice .full z []) (.slice .full z' [])):=⟨Wk.alM z z'⟩
instance (g:Tag) (z z':Nat):Ok (Wk (.slice g z []) (.slice .shared z' [])):=⟨Wk.nil g z z'⟩
instance (d:D):Ok (Wk d d):=⟨Wk.refl d⟩
instance:Ok (jK [] []):=⟨.nil⟩
instance {d d':D} {l l':List D} [Ok (Wk d d')] [Ok (jK l l')] : Ok (jK (d::l) (d'::l')):=⟨.cons Ok.out Ok.out⟩
instance (l:List D):Ok (jK l l):=⟨jK.refl l⟩
instance:Ok (gM [] []):=⟨.nil⟩
instance {d d':List D} {l l':List (List D)} [Ok (jK d d')] [Ok (gM l l')] : Ok (gM (d::l) (d'::l')):=⟨.cons Ok.out Ok.out⟩
instance {a a' b b':List (List D)} [Ok (gM a a')] [Ok (gM b b')] : Ok (gM (a++b) (a'++b')):=⟨gM.append Ok.out Ok.out⟩
instance (l:List (List D)):Ok (gM l l):=⟨gM.refl l⟩
theorem bs:(∀ b,(true ||b)=true)∧(∀ b,(false ||b)=b)∧(∀ b,(b ||true)=true)∧(∀ b,(b ||false)=b)∧(∀ b,(true && b)=b)∧(∀ b,(false && b)=false)∧(∀ b,(b && true)=b)∧(∀ b,(b && false)=false)∧
 (!true)=false∧(!false)=true∧(∀ b,(!!b)=b)∧((false=true)=False)∧(∀ (α β:Type) (a:α) (f:α→Option β),(some a).bind f=f a)∧
 (∀ (α β γ:Type) (x:Option α) (f:α→Option β) (g:β→Option γ),(x.bind f).bind g=x.bind fun y=>(f y).bind g):=
 ⟨Bool.true_or,Bool.false_or,Bool.or_true,Bool.or_false,Bool.true_and,Bool.false_and,Bool.and_true,Bool.and_false,rfl,rfl,Bool.not_not,by simp,fun _ _ _ _=>rfl,fun _ _ _ x f g=>Option.bind_assoc x f g⟩
attribute [go_sem] adB alS alT ahE s_op alV s_call adE aa1 ahG aa3 adG alW alX alY ahI al0 al1 al2 ahJ al3 g_call aa4 AO.core AI.kind AO.kind gT
attribute [go_sem] Qg Qh KD KE aa2 Wi Qc Qd Qe Qf KF KH KI KK Tb Tc Qi aaD VN
attribute [go_sem] Qb KM P8 P9 Qa KN KO KP Td Te aaC SW aay VK aaz VL aaA VM SV aaB VO PH VP
attribute [go_sem] S2 S3 S4 S5 S6 S7 S8 S9 Ta PJ PK PN PO PQ PR PS PT PU PV PW PX PY PZ P0 P2 P3 P4 P5 P6 P7 VZ V0 Qj Qk Ql Qm Qn Qo Tf Tg Qp Qq Qr V1 V2 Qs Ti Tj KQ KR KS KT V3 V4 Qt Qu Qv Qw Qx Qy Qz QA QB MI MJ QC QD QE QF aaN aaO QG QH QI MK MM aaP aaQ aaR aaS MN MO MP MQ MR MS MT MU MV MW MX MY MZ M3 QJ QK QL QM aaT aaU M4 M5 aaV aaW V5 V6 V7 V8 V9 Wa Wb Wc Wd Tk Tl Tn To Tp QN QO Wf Wg Tq aa0 Tr aaX aaY aaZ
attribute [go_sem] List.map_cons List.map_nil List.getElem?_cons_zero List.getElem?_cons_succ List.length_cons List.length_nil List.set_cons_zero List.set_cons_succ List.take_succ_cons List.take_zero List.take_nil List.drop_succ_cons List.drop_zero List.drop_nil List.cons_append List.nil_append List.append_nil Nat.zero_add Nat.add_zero Option.map_some Option.map_none
attribute [go_sem] Bool.not_false Bool.not_true List.length_map List.getElem?_map Int.toNat_natCast Int.natCast_nonneg Int.toNat_zero and_self and_true true_and
attribute [go_sem_proc ↓] reduceIte
attribute [go_sem_proc] Int.reduceLE reduceCtorEq Nat.reduceEqDiff Nat.reduceLeDiff Nat.reduceAdd Nat.reduceMul Nat.reduceSub Nat.reduceLT
theorem bk {b:Bool} {A C:Prop} (h1:b=true→A) (h:b=true:=by assumption) : @CB (.bool b) ⟨A,C⟩:=adC h h1
theorem bl {b:Bool} {A C:Prop} (h1:b=false→C) (h:b=false:=by assumption) : @CB (.bool b) ⟨A,C⟩:=adD h h1
theorem bm {b:Bool} {A C:Prop} (h1:b=true→A) (h2:b=false→C) : @CB (.bool b) ⟨A,C⟩:=⟨h1,h2⟩
theorem jn {a b:Prop} (x:a) (y:b):a∧b:=⟨x,y⟩
theorem bE {α:Type _} (a b:α):(some a=some b)=(a=b):=Option.some.injEq a b
theorem bF {α:Sort _} {p:α→Prop} {a:α} : (∃ x,a=x∧p x)↔p a:=exists_eq_left'
theorem D8 {n m:Nat} (h:Nat.ble n m=true):n≤m:=Nat.le_of_ble_eq_true h
theorem aE {n m:Nat} {res:List (Nat×Option (Bool×Nat))} {d:D} {s':St} {e:Exit} {tm:Tm} {s:St} {Q:Exit→Tm→St→Prop} (hQ:qE n m res d s'=Q) (h : ∃ l,aT res tm s=some l∧Wk ((aV l).fg n m) d∧gM (s.cut n m).ah s'.ah∧(s.cut n m).ay=s'.ay) (he:e = .ret∨e = .normal:=by first|exact .inl rfl|exact .inr rfl):Q e tm s:=by cases he with|inl x=>cases x;exact ahC hQ h|inr x=>cases x;exact ahD hQ h
theorem cf {p:Prop} (h:p:=by repeat' (first|exact Ok.out|with_reducible refine jn ?_ ?_|(simp;done))):p:=h
theorem cq {p:Prop} (h:p:=by repeat' (first|exact Ok.out|with_reducible refine jn ?_ ?_)):p:=h
theorem fD {p:Prop} (h:p:=by(try cases h);simp only[aT,aV,bE,bF,go_sem,hD,hY,hZ,gA];repeat' (first|exact Ok.out|with_reducible refine jn ?_ ?_|(simp;done))):p:=h
theorem bo {p:Prop} (h:p:=by simp only[aT,aV,bE,bF,go_sem,hD,hY,hZ,gA];repeat' (first|exact Ok.out|with_reducible refine jn ?_ ?_|(simp;done))):p:=h
theorem lX_ {p:Prop} (h:p:=by simp only[go_sem,hD,hY,hZ,gA];repeat' (first|exact Ok.out|with_reducible refine jn ?_ ?_)):p:=h
theorem fc {P:Program} {B:gi} {nt:Nat} {a:AC} {Q:Exit→Tm→St→Prop} {tm bD:Tm} {s:St} {gD:List (List D)} (n m:Nat) (h:br P B nt a Q bD ⟨gD,(s.cut n m).ay⟩) (hn:B.s.ah.length≤n:=by rw[hB];exact D8 rfl) (hm:B.s.ay.length≤m:=by rw[hB];exact D8 rfl) (ht:xq tm n m bD:=by exact lX_) (ho:gM (s.cut n m).ah gD:=by exact lX_):br P B nt a Q tm s:=br.re bD gD n m hn hm ht ho h
theorem fe {P:Program} {B:gi} {nt:Nat} {a:AC} {Q:Exit→Tm→St→Prop} {tm bD:Tm} {s:St} {gD:List (List D)} (n m:Nat) (ht:xq tm n m bD) (ho:gM (s.cut n m).ah gD) (h:br P B nt a Q bD ⟨gD,(s.cut n m).ay⟩) (hn:B.s.ah.length≤n:=by rw[hB];exact D8 rfl) (hm:B.s.ay.length≤m:=by rw[hB];exact D8 rfl):br P B nt a Q tm s:=br.re bD gD n m hn hm ht ho h
theorem bN:0<1∧0<1∧0<1∧0<1:=⟨Nat.zero_lt_one,Nat.zero_lt_one,Nat.zero_lt_one,Nat.zero_lt_one⟩
end Go.Abs
namespace Go.Abs
mutual
theorem QP (n m:Nat) : ∀ d,D.ok 0 0 d=true→D.fg n m d=d
 | .junk,_=>by simp[D.fg]
 | .int k n,_=>by simp[D.fg]
 | .bool b,_=>by simp[D.fg]
 | .str l,_=>by simp[D.fg]
 | .ew,_=>by simp[D.fg]
 | .val v,_=>by simp[D.fg]
 | .eJ z,_=>by simp[D.fg]
 | .fF T o,h=>by simp[D.ok]at h
 | .gb o,h=>by simp[D.ok]at h
 | .gw f cs,h=>by
  simp only[D.ok]at h
  simp only[D.fg,iC n m cs h]
 | .ptr o f,h=>by simp[D.ok]at h
 | .dI r f,h=>by
  simp only[D.ok]at h
  simp only[D.fg,iC n m r h]
 | .slice g z rows,h=>by
  simp only[D.ok,Bool.and_eq_true]at h
  simp only[D.fg,KU n m rows h.2]
  cases g with
  |tok t y=>simp[Tag.ok]at h
  |full=>rfl
  |shared=>rfl
 | .agg cs,h=>by
  simp only[D.ok]at h
  simp only[D.fg,iC n m cs h]
 | .tuple cs,h=>by
  simp only[D.ok]at h
  simp only[D.fg,iC n m cs h]
theorem iC (n m:Nat) : ∀ l,D.bJ 0 0 l=true→D.gH n m l=l
 | [],_=>by simp[D.gH]
 |d::r,h=>by
  simp only[D.bJ,Bool.and_eq_true]at h
  simp only[D.gH,QP n m d h.1,iC n m r h.2]
theorem KU (n m:Nat) : ∀ l,D.gL 0 0 l=true→D.kZ n m l=l
 | [],_=>by simp[D.kZ]
 |d::r,h=>by
  simp only[D.gL,Bool.and_eq_true]at h
  simp only[D.kZ,iC n m d h.1,KU n m r h.2]
end
theorem ig {α:Type} {f:α→List D} (h : ∀ x,D.bJ 0 0 (f x)=true) (l:List α):D.gL 0 0 (l.map f)=true:=by
 simp[Fs,h]
theorem mI {α:Type} {f:α→List D} (h : ∀ x,D.bJ 0 0 (f x)=true) (n m:Nat) (l:List α):D.kZ n m (l.map f)=l.map f:=KU n m _ (ig h l)
theorem Nz (n m:Nat) : ∀ a b,D.kZ n m (a++b)=D.kZ n m a++D.kZ n m b
 | [],b=>by simp[D.kZ]
 |x::a,b=>by simp[D.kZ,Nz n m a b]
abbrev az:=List UInt8
structure qR where
 kind:Int
 text:az
 n:Int
 pos:Int
deriving DecidableEq
structure Ex where
 op:Int
 n:Int
 name:az
 kids:List Ex
structure Ar where
 ref:Bool
 name:az
 x:Ex
structure Sm where
 id:Int
 kind:Int
 labels:List az
 name:az
 proc:az
 x:Ex
 has:Bool
 args:List Ar
 bb:List Sm
 aP:List Sm
structure Pm where
 name:az
 ref:Bool
structure Pc where
 name:az
 params:List Pm
 vars:List az
 body:List Sm
 fin:List az
structure Pg where
 globals:List az
 procs:List Pc
def qS:Ex:=⟨0,0,[],[]⟩
def ar0:Ar:=⟨false,[],qS⟩
def D9:Sm:=⟨0,0,[],[],[],qS,false,[],[],[]⟩
def Ts:Pg:=⟨[],[]⟩
def encStr (s:az):List D:= [.str s]
def kr (t:qR):List D:= [.int .i64 t.kind, .str t.text, .int .i64 t.n, .int .i64 t.pos]
def sl (z:Nat) (rows:List (List D)):D:= .slice .shared z rows
mutual
def bS:Ex→List D
 |⟨op,n,name,kids⟩=> [.int .i64 op, .int .i64 n, .str name, .slice .shared 4 (wo kids)]
def wo:List Ex→List (List D)
 | []=> []
 |x::l=>bS x::wo l
end
theorem Ib : ∀ l,wo l=l.map bS
 | []=>by simp[wo]
 |x::l=>by simp[wo,Ib l]
theorem iD (x:Ex):bS x = [.int .i64 x.op, .int .i64 x.n, .str x.name, .slice .shared 4 (x.kids.map bS)]:=by
 cases x;simp[bS,Ib]
def eC (a:Ar):List D:= [.bool a.ref, .str a.name, .int .i64 a.x.op, .int .i64 a.x.n, .str a.x.name, .slice .shared 4 (a.x.kids.map bS)]
mutual
def bj:Sm→List D
 |⟨id,kind,labels,name,proc,x,has,args,bb,aP⟩=> [.int .i64 id, .int .i64 kind, .slice .shared 1 (labels.map encStr), .str name, .str proc,
  .int .i64 x.op, .int .i64 x.n, .str x.name, .slice .shared 4 (x.kids.map bS), .bool has, .slice .shared 6 (args.map eC), .slice .shared 13 (ur bb), .slice .shared 13 (ur aP)]
def ur:List Sm→List (List D)
 | []=> []
 |x::l=>bj x::ur l
end
theorem Ic : ∀ l,ur l=l.map bj
 | []=>by simp[ur]
 |x::l=>by simp[ur,Ic l]
theorem eK (s:Sm):bj s = [.int .i64 s.id, .int .i64 s.kind, .slice .shared 1 (s.labels.map encStr), .str s.name, .str s.proc,
 .int .i64 s.x.op, .int .i64 s.x.n, .str s.x.name, .slice .shared 4 (s.x.kids.map bS), .bool s.has, .slice .shared 6 (s.args.map eC), .slice .shared 13 (s.bb.map bj), .slice .shared 13 (s.aP.map bj)]:=by
 cases s;simp[bj,Ic]
def il (p:Pm):List D:= [.str p.name, .bool p.ref]
def cy (p:Pc):List D:= [.str p.name, .slice .shared 2 (p.params.map il), .slice .shared 1 (p.vars.map encStr), .slice .shared 13 (p.body.map bj), .slice .shared 1 (p.fin.map encStr)]
def cB (p:Pg):List D:= [.slice .shared 1 (p.globals.map encStr), .slice .shared 5 (p.procs.map cy)]
theorem adH (x:qR):(kr x).length=4:=nd rfl
theorem aa5 (x:qR):List.take 4 (kr x)=kr x:=nd rfl
theorem aa6 (x:qR):List.drop 4 (kr x) = []:=nd rfl
theorem Tt (x:qR):(kr x)[0]? = some (.int .i64 x.kind):=nd rfl
theorem Tv (x:qR):(kr x)[1]? = some (.str x.text):=nd rfl
theorem Tw (x:qR):(kr x)[2]? = some (.int .i64 x.n):=nd rfl
theorem Tx (x:qR):(kr x)[3]? = some (.int .i64 x.pos):=nd rfl
theorem ahK (Fz:Int) (YW:az) (n_:Int) (adJ:Int):kr ⟨Fz,YW,n_,adJ⟩ = [.int .i64 Fz, .str YW, .int .i64 n_, .int .i64 adJ]:=by simp only[kr]
theorem YX (x:Ex):(bS x).length=4:=by simp only[iD];rfl
theorem adK (x:Ex):List.take 4 (bS x)=bS x:=by simp only[iD];rfl
theorem adL (x:Ex):List.drop 4 (bS x) = []:=by simp only[iD];rfl
theorem Wj (x:Ex):(bS x)[0]? = some (.int .i64 x.op):=by simp only[iD];rfl
theorem Wl (x:Ex):(bS x)[1]? = some (.int .i64 x.n):=by simp only[iD];rfl
theorem Wm (x:Ex):(bS x)[2]? = some (.str x.name):=by simp only[iD];rfl
theorem Wn (x:Ex):(bS x)[3]? = some (.slice .shared 4 (x.kids.map bS)):=by simp only[iD];rfl
theorem al4 (op_:Int) (n_:Int) (pC:az) (YY:List Ex):bS ⟨op_,n_,pC,YY⟩ = [.int .i64 op_, .int .i64 n_, .str pC, .slice .shared 4 (YY.map bS)]:=by simp only[iD]
theorem ahL (x:Ar):(eC x).length=6:=nd rfl
theorem adM (x:Ar):List.take 6 (eC x)=eC x:=nd rfl
theorem adN (x:Ar):List.drop 6 (eC x) = []:=nd rfl
theorem Wo (x:Ar):(eC x)[0]? = some (.bool x.ref):=nd rfl
theorem Wp (x:Ar):(eC x)[1]? = some (.str x.name):=nd rfl
theorem Wq (x:Ar):(eC x)[2]? = some (.int .i64 x.x.op):=nd rfl
theorem Wr (x:Ar):(eC x)[3]? = some (.int .i64 x.x.n):=nd rfl
theorem Ws (x:Ar):(eC x)[4]? = some (.str x.x.name):=nd rfl
theorem Wt (x:Ar):(eC x)[5]? = some (.slice .shared 4 (x.x.kids.map bS)):=nd rfl
theorem Wu (x:Ar):List.take 4 (List.drop 2 (eC x))=bS x.x:=by simp only[eC,iD];rfl
theorem al5 (KV:Bool) (pC:az) (x_:Ex):eC ⟨KV,pC,x_⟩ = [.bool KV, .str pC, .int .i64 x_.op, .int .i64 x_.n, .str x_.name, .slice .shared 4 (x_.kids.map bS)]:=by simp only[eC]
theorem JK (x:Sm):(bj x).length=13:=by simp only[eK];rfl
theorem adO (x:Sm):List.take 13 (bj x)=bj x:=by simp only[eK];rfl
theorem adP (x:Sm):List.drop 13 (bj x) = []:=by simp only[eK];rfl
theorem Wv (x:Sm):(bj x)[0]? = some (.int .i64 x.id):=by simp only[eK];rfl
theorem Ww (x:Sm):(bj x)[1]? = some (.int .i64 x.kind):=by simp only[eK];rfl
theorem Wx (x:Sm):(bj x)[2]? = some (.slice .shared 1 (x.labels.map encStr)):=by simp only[eK];rfl
theorem Wy (x:Sm):(bj x)[3]? = some (.str x.name):=by simp only[eK];rfl
theorem Wz (x:Sm):(bj x)[4]? = some (.str x.proc):=by simp only[eK];rfl
theorem WA (x:Sm):(bj x)[5]? = some (.int .i64 x.x.op):=by simp only[eK];rfl
theorem WB (x:Sm):(bj x)[6]? = some (.int .i64 x.x.n):=by simp only[eK];rfl
theorem WC (x:Sm):(bj x)[7]? = some (.str x.x.name):=by simp only[eK];rfl
theorem WD (x:Sm):(bj x)[8]? = some (.slice .shared 4 (x.x.kids.map bS)):=by simp only[eK];rfl
theorem WE (x:Sm):(bj x)[9]? = some (.bool x.has):=by simp only[eK];rfl
theorem Ty (x:Sm):(bj x)[10]? = some (.slice .shared 6 (x.args.map eC)):=by simp only[eK];rfl
theorem Tz (x:Sm):(bj x)[11]? = some (.slice .shared 13 (x.bb.map bj)):=by simp only[eK];rfl
theorem TA (x:Sm):(bj x)[12]? = some (.slice .shared 13 (x.aP.map bj)):=by simp only[eK];rfl
theorem WG (x:Sm):List.take 4 (List.drop 5 (bj x))=bS x.x:=by simp only[eK,iD];rfl
theorem al6 (id_:Int) (Fz:Int) (NA:List az) (pC:az) (YZ:az) (x_:Ex) (adQ:Bool) (Y0:List Ar) (adR:List Sm) (adS:List Sm):bj ⟨id_,Fz,NA,pC,YZ,x_,adQ,Y0,adR,adS⟩ = [.int .i64 id_, .int .i64 Fz, .slice .shared 1 (NA.map encStr), .str pC, .str YZ, .int .i64 x_.op, .int .i64 x_.n, .str x_.name, .slice .shared 4 (x_.kids.map bS), .bool adQ, .slice .shared 6 (Y0.map eC), .slice .shared 13 (adR.map bj), .slice .shared 13 (adS.map bj)]:=by simp only[eK]
theorem ahM (x:Pm):(il x).length=2:=nd rfl
theorem adT (x:Pm):List.take 2 (il x)=il x:=nd rfl
theorem adU (x:Pm):List.drop 2 (il x) = []:=nd rfl
theorem WH (x:Pm):(il x)[0]? = some (.str x.name):=nd rfl
theorem WI (x:Pm):(il x)[1]? = some (.bool x.ref):=nd rfl
theorem al7 (pC:az) (KV:Bool):il ⟨pC,KV⟩ = [.str pC, .bool KV]:=by simp only[il]
theorem ahN (x:Pc):(cy x).length=5:=nd rfl
theorem adV (x:Pc):List.take 5 (cy x)=cy x:=nd rfl
theorem adW (x:Pc):List.drop 5 (cy x) = []:=nd rfl
theorem WJ (x:Pc):(cy x)[0]? = some (.str x.name):=nd rfl
theorem WK (x:Pc):(cy x)[1]? = some (.slice .shared 2 (x.params.map il)):=nd rfl
theorem WL (x:Pc):(cy x)[2]? = some (.slice .shared 1 (x.vars.map encStr)):=nd rfl
theorem WM (x:Pc):(cy x)[3]? = some (.slice .shared 13 (x.body.map bj)):=nd rfl
theorem WN (x:Pc):(cy x)[4]? = some (.slice .shared 1 (x.fin.map encStr)):=nd rfl
theorem al8 (pC:az) (NB:List Pm) (Y1:List az) (Y2:List Sm) (adX:List az):cy ⟨pC,NB,Y1,Y2,adX⟩ = [.str pC, .slice .shared 2 (NB.map il), .slice .shared 1 (Y1.map encStr), .slice .shared 13 (Y2.map bj), .slice .shared 1 (adX.map encStr)]:=by simp only[cy]
theorem ahO (x:Pg):(cB x).length=2:=nd rfl
theorem adY (x:Pg):List.take 2 (cB x)=cB x:=nd rfl
theorem adZ (x:Pg):List.drop 2 (cB x) = []:=nd rfl
theorem WO (x:Pg):(cB x)[0]? = some (.slice .shared 1 (x.globals.map encStr)):=nd rfl
theorem WQ (x:Pg):(cB x)[1]? = some (.slice .shared 5 (x.procs.map cy)):=nd rfl
theorem al9 (KW:List az) (TB:List Pc):cB ⟨KW,TB⟩ = [.slice .shared 1 (KW.map encStr), .slice .shared 5 (TB.map cy)]:=by simp only[cB]
attribute [go_sem] adH aa5 aa6 Tt Tv Tw Tx ahK YX adK adL Wj Wl Wm Wn al4 ahL adM adN Wo Wp Wq Wr Ws Wt Wu al5 JK adO adP Wv Ww Wx Wy Wz WA WB WC WD WE Ty Tz TA WG al6 ahM adT adU WH WI al7 ahN adV adW WJ WK WL WM WN al8 ahO adY adZ WO WQ al9
theorem FA (s:az):D.bJ 0 0 (encStr s)=true:=rfl
theorem Y3 (t:qR):D.bJ 0 0 (kr t)=true:=rfl
mutual
theorem kV : ∀ x,D.bJ 0 0 (bS x)=true
 |⟨op,n,name,kids⟩=>by simp[bS,D.bJ,D.ok,Tag.ok,Y4 kids]
theorem Y4 : ∀ l,D.gL 0 0 (wo l)=true
 | []=>rfl
 |x::l=>by simp[wo,D.gL,kV x,Y4 l]
end
theorem QQ (a:Ar):D.bJ 0 0 (eC a)=true:=by simp[eC,D.bJ,D.ok,Tag.ok,ig kV]
mutual
theorem sf : ∀ x,D.bJ 0 0 (bj x)=true
 |⟨id,kind,labels,name,proc,x,has,args,bb,aP⟩=>by simp[bj,D.bJ,D.ok,Tag.ok,QR bb,QR aP,ig FA,ig kV,ig QQ]
theorem QR : ∀ l,D.gL 0 0 (ur l)=true
 | []=>rfl
 |x::l=>by simp[ur,D.gL,sf x,QR l]
end
theorem QS (p:Pm):D.bJ 0 0 (il p)=true:=rfl
theorem yj (p:Pc):D.bJ 0 0 (cy p)=true:=by simp[cy,D.bJ,D.ok,Tag.ok,ig QS,ig FA,ig sf]
theorem jq (p:Pg):D.bJ 0 0 (cB p)=true:=by simp[cB,D.bJ,D.ok,Tag.ok,ig FA,ig yj]
theorem ad0 (n m:Nat) (x:qR):D.gH n m (kr x)=kr x:=iC n m _ (Y3 x)
theorem ahP (n m:Nat) (x:Ex):D.gH n m (bS x)=bS x:=iC n m _ (kV x)
theorem ahQ (n m:Nat) (x:Ar):D.gH n m (eC x)=eC x:=iC n m _ (QQ x)
theorem ahR (n m:Nat) (x:Sm):D.gH n m (bj x)=bj x:=iC n m _ (sf x)
theorem ahS (n m:Nat) (x:Pm):D.gH n m (il x)=il x:=iC n m _ (QS x)
theorem ahT (n m:Nat) (x:Pc):D.gH n m (cy x)=cy x:=iC n m _ (yj x)
theorem ahU (n m:Nat) (x:Pg):D.gH n m (cB x)=cB x:=iC n m _ (jq x)
attribute [go_sem] ad0 ahP ahQ ahR ahS ahT ahU
theorem ff (l:List az):D.gL 0 0 (l.map encStr)=true:=ig FA l
theorem Y5 (l:List Ex):D.gL 0 0 (l.map bS)=true:=ig kV l
theorem JL (l:List Ar):D.gL 0 0 (l.map eC)=true:=ig QQ l
theorem oy (l:List Sm):D.gL 0 0 (l.map bj)=true:=ig sf l
theorem ahV (l:List Pm):D.gL 0 0 (l.map il)=true:=ig QS l
theorem xr (l:List Pc):D.gL 0 0 (l.map cy)=true:=ig yj l
theorem TC (n m:Nat) (l:List az):D.kZ n m (l.map encStr)=l.map encStr:=mI FA n m l
theorem ad1 (n m:Nat) (l:List qR):D.kZ n m (l.map kr)=l.map kr:=mI Y3 n m l
theorem ahW (n m:Nat) (l:List Ex):D.kZ n m (l.map bS)=l.map bS:=mI kV n m l
theorem ahX (n m:Nat) (l:List Ar):D.kZ n m (l.map eC)=l.map eC:=mI QQ n m l
theorem ahY (n m:Nat) (l:List Sm):D.kZ n m (l.map bj)=l.map bj:=mI sf n m l
theorem ahZ (n m:Nat) (l:List Pm):D.kZ n m (l.map il)=l.map il:=mI QS n m l
theorem Y6 (n m:Nat) (l:List Pc):D.kZ n m (l.map cy)=l.map cy:=mI yj n m l
theorem ad2 (x:Ex) (r:List D):bS x++r = .int .i64 x.op:: .int .i64 x.n:: .str x.name:: .slice .shared 4 (x.kids.map bS)::r:=by rw[iD];rfl
theorem aa7 (d:D) (x:Ex):d::bS x = [d, .int .i64 x.op, .int .i64 x.n, .str x.name, .slice .shared 4 (x.kids.map bS)]:=by rw[iD]
attribute [go_sem] ad2 aa7
theorem ah0:((0:Nat):Int)=0:=nd rfl
theorem ah1:((1:Nat):Int)=1:=nd rfl
theorem ah2:((2:Nat):Int)=2:=nd rfl
attribute [go_sem] ah0 ah1 ah2 Nz List.length_append List.map_append encStr qS ar0 D9 Ts TC ad1 ahW ahX ahY ahZ Y6
theorem mx (a b:Nat):(if(b:Int) > (a:Int)then(b:Int)else(a:Int))=((max a b:Nat):Int):=by split<;>omega
theorem ek {x:Int} (h1 : -9223372036854775808≤x) (h2:x<9223372036854775808):IntKind.wrap .i64 x=x:=by
 rw[IntKind.wrap_i64];omega
@[go_sem] theorem aJ {n:Nat} (h:n<4611686018427387904):IntKind.wrap .i64 ((n:Int)+1)=((n+1:Nat):Int):=by
 rw[ek]<;>omega
def inc (n:Nat):Option Nat:=if n<4611686018427387904 then some (n+1)else none
def ama (n:Int):Option Int:=if -4611686018427387904<n∧n<4611686018427387904 then some (n+1)else none
@[go_sem] theorem akM {n:Nat} (h:n+1<4611686018427387904):IntKind.wrap .i64 ((n:Int)+1)=((n+1:Nat):Int):=by
 rw[ek]<;>omega
@[go_sem] theorem akN {n:Nat} (h:n<4611686018427387904):IntKind.wrap .i64 ((n:Int)+2)=((n+2:Nat):Int):=by
 rw[ek]<;>omega
def ad3 {α:Type} (l:List α) (i:Nat):Option α:=if i<4611686018427387904 then l[i]? else none
def push {α:Type} (k:Nat) (l:List α) (x:α):Option (List α):=if(l.length+1)*k≤bx then some (l++ [x])else none
end Go.Abs
namespace Go.Abs
def Ea (os ts:List Nat) (tm:Tm):Tm→Prop
 | []=>True
 |(k,d)::r=>tm.get k=d.dh os ts∧d.ok os.length ts.length=true∧Ea os ts tm r
theorem Ea.get {os ts:List Nat} {tm:Tm} : ∀ {bD:Tm},Ea os ts tm bD→∀ k,bD.get k = .junk∨(tm.get k=(bD.get k).dh os ts∧(bD.get k).ok os.length ts.length=true)
 | [],_,k=> .inl rfl
 |(q,d)::r,⟨h1,h2,h3⟩,k=>by
  simp only[Tm.get]
  split
  ·rename_i e;subst e;exact .inr ⟨h1,h2⟩
  ·exact h3.get k
section
variable {P:Program} {B:gi} {nt:Nat}
theorem Holds.sel {tm:Tm} {s:St} {act:Act} {w:World} (os:List Nat) (gD:List (List D)) (bD:Tm) (vr:os.Nodup) (jA : ∀ o∈os,o<s.ah.length) (hn:B.s.ah.length≤os.length)
 (hold : ∀ i,i<B.s.ah.length→os[i]? = some i) (dw : ∀ (i o:Nat),os[i]? = some o→B.s.ah.length≤i→B.s.ah.length≤o) (ho:gD.length=os.length)
 (yd : ∀ (i o:Nat) (ds:List D),os[i]? = some o→gD[i]? = some ds→s.ah[o]? = some (D.fk os (List.range s.ay.length) ds)∧D.bJ os.length s.ay.length ds=true)
 (TD:Ea os (List.range s.ay.length) tm bD) (h:Holds B nt tm s act w):Holds B nt bD ⟨gD,s.ay⟩ act w:=by
 obtain⟨M,e,r,hr,h1,h2⟩:=h
 have vn:(List.range s.ay.length).length=s.ay.length:=List.length_range
 have rg : ∀ (i t:Nat),(List.range s.ay.length)[i]? = some t→i=t:=fun i t h=>by
  rw[List.getElem?_eq_some_iff]at h
  obtain⟨h3,h4⟩:=h
  simpa using h4
 have r0:Rel (gU M os (List.range s.ay.length)) ⟨gD,s.ay⟩ w:=r.sub vr List.nodup_range jA ho (fun i o ds e1 e2=>by rw[vn];exact yd i o ds e1 e2) vn.symm (fun i t h=>by rw[rg i t h])
 have loc : ∀ (i:Nat) o,os[i]? = some o→(gU M os (List.range s.ay.length)).loc i=M.loc o:=fun i o h=>by simp only[gU,vU h]
 have be : ∀ t,t<s.ay.length→(gU M os (List.range s.ay.length)).be t=M.be t:=fun t h=>by
  have:(List.range s.ay.length)[t]? = some t:=List.getElem?_range h
  simp only[gU,vU this]
 refine⟨gU M os (List.range s.ay.length),⟨⟨e.le.G,by rw[ho];exact hn,fun o h=>?_,e.le.t,fun t n' h e'=>?_⟩,e.kept,fun o h3 h4=>?_,fun t b c z hl hb=>?_,e.sY,e.size,e.os,e.tape,e.output⟩,r0,fun k=>?_,h1,h2⟩
 ·rw[loc o o (hold o h)];exact e.le.loc o h
 ·obtain⟨n,g1,g2,g3⟩:=e.le.tk t n' h e'
  exact⟨n,g1,g2,fun eq=>by rw[be t (Nat.lt_of_lt_of_le h e.le.t)];exact g3 eq⟩
 ·simp only at h4
  rw[ho]at h4
  obtain⟨q,hq⟩ : ∃ q,os[o]? = some q:=⟨_,List.getElem?_eq_getElem h4⟩
  have nG:(gU M os (List.range s.ay.length)).mu o=M.mu q:=congrArg Prod.fst (loc o q hq)
  rw[nG]at h3 ⊢
  refine e.uI q ?_ (jA q (List.mem_of_getElem? hq))
  by_cases h5:B.s.ah.length≤o
  ·exact .inl (dw o q hq h5)
  ·have:=hold o (by omega)
   rw[hq]at this
   cases this
   rcases h3 with h3|h3
   ·exact(h5 h3).elim
   ·exact .inr h3
 ·obtain⟨n,rV⟩:=hl
  have hD:=(List.getElem?_eq_some_iff.1 rV).1
  rw[be t hD]at hb
  exact e.rf t b c z ⟨n,rV⟩ hb
 ·rcases TD.get k with h3 | ⟨h3,h4⟩
  ·rw[h3];exact .junk _
  ·exact RD.Di (M:=M) (M0:=gU M os (List.range s.ay.length)) (s:=s) (s0:=⟨gD,s.ay⟩) rfl loc ho (fun i t h=>by
    have:=rg i t h;subst this;exact be i (by have:=(List.getElem?_eq_some_iff.1 h).1;rwa [vn]at this)) (fun i t h=>by rw[rg i t h]) vn.symm (h3 ▸ hr k) _ rfl h4
theorem br.sel {a:AC} {Q:Exit→Tm→St→Prop} {tm:Tm} {s:St} (os:List Nat) (gD:List (List D)) (bD:Tm) (vr:os.Nodup) (jA : ∀ o∈os,o<s.ah.length) (hn:B.s.ah.length≤os.length)
 (hold : ∀ i,i<B.s.ah.length→os[i]? = some i) (dw : ∀ (i o:Nat),os[i]? = some o→B.s.ah.length≤i→B.s.ah.length≤o) (ho:gD.length=os.length)
 (yd : ∀ (i o:Nat) (ds:List D),os[i]? = some o→gD[i]? = some ds→s.ah[o]? = some (D.fk os (List.range s.ay.length) ds)∧D.bJ os.length s.ay.length ds=true)
 (TD:Ea os (List.range s.ay.length) tm bD) (h:br P B nt a Q bD ⟨gD,s.ay⟩):br P B nt a Q tm s:=
 fun c hc act w hh=>h c hc act w (hh.sel os gD bD vr jA hn hold dw ho yd TD)
mutual
def D.fU (o g:Nat) (rows:List (List D)):D→D
 | .eQ z o' g' len=>if o'=o∧g'=g∧len=rows.length then .slice .shared z rows else .eQ z o' g' len
 | .dI row off=> .dI (D.jP o g rows row) off
 | .slice t z rs=> .slice t z (D.sg o g rows rs)
 | .agg cs=> .agg (D.jP o g rows cs)
 | .tuple ds=> .tuple (D.jP o g rows ds)
 | .gw f cs=> .gw f (D.jP o g rows cs)
 | .ptr o off=> .ptr o off
 | .junk=> .junk
 | .int k x=> .int k x
 | .bool b=> .bool b
 | .str l=> .str l
 | .ew=> .ew
 | .val v=> .val v
 | .fF T o=> .fF T o
 | .gb o=> .gb o
 | .fG o g off=> .fG o g off
 | .eJ z=> .eJ z
def D.jP (o g:Nat) (rows:List (List D)):List D→List D
 | []=> []
 |d::r=>D.fU o g rows d::D.jP o g rows r
def D.sg (o g:Nat) (rows:List (List D)):List (List D)→List (List D)
 | []=> []
 |d::r=>D.jP o g rows d::D.sg o g rows r
end
theorem o7 (o g:Nat) (rows:List (List D)) : ∀ l,D.jP o g rows l=l.map (D.fU o g rows)
 | []=>by simp[D.jP]
 |d::r=>by simp[D.jP,o7 o g rows r]
theorem NC (o g:Nat) (rows:List (List D)) : ∀ l,D.sg o g rows l=l.map (D.jP o g rows)
 | []=>by simp[D.sg]
 |d::r=>by simp[D.sg,NC o g rows r]
theorem RD.fU {M:Map} {s:St} {o g:Nat} {rows:List (List D)} {b cap z:Nat} {A:Nat→Option (Nat×Nat)} (hm:M.ob o = .arr z A) (ha:A g=some (b,cap))
 (hs : ∀ row∈rows,row.length=z) (h1 : ∀ (i:Nat) (row:List D) (j:Nat) (d:D),rows[i]? = some row→row[j]? = some d→∃ u,M.G b (0+(i*z+j))=some u)
 (h2 : ∀ (i:Nat) (row:List D) (j:Nat) (d:D) (u:Value),rows[i]? = some row→row[j]? = some d→M.G b (0+(i*z+j))=some u→RD M s d u)
 {d:D} {v:Value} (h:RD M s d v):RD M s (d.fU o g rows) v:=by
 induction h with
 | eQ z' o' g' len b' ri A' ho Bh xk hl=>
  simp only[D.fU]
  split
  ·rename_i hc
   obtain⟨rfl,rfl,rfl⟩:=hc
   rw[hm]at Bh
   cases Bh
   rw[ha]at xk
   cases xk
   exact .slice .shared z rows b 0 cap hl hs h1 h2 trivial
  ·exact .eQ z' o' g' len b' ri A' ho Bh xk hl
 |fG z' o' g' off b' ri A' ho Bh xk=>simp only[D.fU];exact .fG z' o' g' off b' ri A' ho Bh xk
 |eJ z a=>simp only[D.fU];exact .eJ z a
 |junk v=>simp only[D.fU];exact .junk v
 |int k x=>simp only[D.fU];exact .int k x
 |bool b=>simp only[D.fU];exact .bool b
 |str l=>simp only[D.fU];exact .str l
 |ew=>simp only[D.fU];exact .ew
 |val v hv=>simp only[D.fU];exact .val v hv
 |fF T o v h ht hv=>simp only[D.fU];exact .fF T o v h ht hv
 |gb o h hm=>simp only[D.fU];exact .gb o h hm
 |ptr o off h hm=>simp only[D.fU];exact .ptr o off h hm
 |gw f ds vs hl _ ih=>
  simp only[D.fU,o7]
  refine .gw f _ vs (by simpa using hl) (fun i d v e1 e2=>?_)
  simp only[List.getElem?_map,Option.map_eq_some_iff]at e1
  obtain⟨d',e1,rfl⟩:=e1
  exact ih i d' v e1 e2
 | dI row off b k h1 h2 ih=>
  simp only[D.fU,o7]
  refine .dI _ off b k (fun i d e=>?_) (fun i d u e eu=>?_)
  ·simp only [List.getElem?_map,Option.map_eq_some_iff]at e
   obtain⟨d',e,rfl⟩:=e
   exact h1 i d' e
  ·simp only [List.getElem?_map,Option.map_eq_some_iff]at e
   obtain⟨d',e,rfl⟩:=e
   exact ih i d' u e eu
 |jb t z cap hc ht=>simp only[D.fU,D.sg];exact .jb _ z cap hc ht
 |mg z a cap=>simp only[D.fU,D.sg];exact .mg z a cap
 | slice t z rs b k cap hl hs h1 h2 ht ih=>
  simp only[D.fU,NC]
  have hlen:(rs.map (D.jP o g rows)).length=rs.length:=by simp
  have key:=RD.slice (M:=M) (s:=s) t z (rs.map (D.jP o g rows)) b k cap (by rw[hlen];exact hl) (fun row hr=>by
   obtain⟨kT,h',rfl⟩:=List.mem_map.1 hr
   rw[o7,List.length_map];exact hs kT h')
   (fun i row j d e1 e2=>by
    simp only[List.getElem?_map,Option.map_eq_some_iff]at e1
    obtain⟨kT,e1,rfl⟩:=e1
    rw[o7]at e2
    simp only[List.getElem?_map,Option.map_eq_some_iff]at e2
    obtain⟨d',e2,rfl⟩:=e2
    exact h1 i kT j d' e1 e2)
   (fun i row j d u e1 e2 eu=>by
    simp only[List.getElem?_map,Option.map_eq_some_iff]at e1
    obtain⟨kT,e1,rfl⟩:=e1
    rw[o7]at e2
    simp only[List.getElem?_map,Option.map_eq_some_iff]at e2
    obtain⟨d',e2,rfl⟩:=e2
    exact ih i kT j d' u e1 e2 eu)
   (by rw[hlen];exact ht)
  rw[hlen]at key
  exact key
 |agg cells vs hl h1 _ ih=>
  simp only[D.fU,o7]
  refine .agg _ vs (by simpa using hl) h1 (fun i d v e1 e2=>?_)
  simp only[List.getElem?_map,Option.map_eq_some_iff]at e1
  obtain⟨d',e1,rfl⟩:=e1
  exact ih i d' v e1 e2
 |tuple ds vs hl _ ih=>
  simp only[D.fU,o7]
  refine .tuple _ vs (by simpa using hl) (fun i d v e1 e2=>?_)
  simp only[List.getElem?_map,Option.map_eq_some_iff]at e1
  obtain⟨d',e1,rfl⟩:=e1
  exact ih i d' v e1 e2
def fzR (o g:Nat) (rows:List (List D)) (n m:Nat) (ds:List D):List D:=D.gH n m (D.jP o g rows ds)
def Y7 (o g:Nat) (rows:List (List D)) (m:Nat) (tm:Tm):Tm→Prop
 | []=>True
 |(k,d)::r=>Wk (((tm.get k).fU o g rows).fg o m) d∧Y7 o g rows m tm r
end
end Go.Abs
namespace Go.Abs
mutual
def D.flat:D→Bool
 | .int _ _=>true
 | .bool _=>true
 | .str _=>true
 | .tuple ds=>D.FB ds
 |_=>false
def D.FB:List D→Bool
 | []=>true
 |d::r=>d.flat && D.FB r
end
theorem Ie : ∀ {l:List D},D.FB l=true→∀ {i:Nat} {d:D},l[i]? = some d→d.flat=true
 | [],_,i,d,e=>by simp at e
 |a::l,h,i,d,e=>by
  simp only[D.FB,Bool.and_eq_true]at h
  cases i with
  |zero=>simp at e;subst e;exact h.1
  |succ i=>exact Ie h.2 (by simpa using e)
theorem RD.flat {M M':Map} {s s':St} {d:D} {v:Value} (h:RD M s d v):d.flat=true→RD M' s' d v:=by
 induction h with
 |int k n=>exact fun _=> .int k n
 |bool b=>exact fun _=> .bool b
 |str l=>exact fun _=> .str l
 |tuple ds vs hl _ ih=>exact fun hf=> .tuple ds vs hl fun i d v e1 e2=>ih i d v e1 e2 (Ie (by simpa only[D.flat]using hf) e1)
 |_=>intro hf;simp only[D.flat,Bool.false_eq_true]at hf
theorem ND {n m:Nat} : ∀ {l:List D},D.bJ n m l=true→∀ {i:Nat} {d:D},l[i]? = some d→d.ok n m=true
 | [],_,i,d,e=>by simp at e
 |a::l,h,i,d,e=>by
  simp only[D.bJ,Bool.and_eq_true]at h
  cases i with
  |zero=>simp at e;subst e;exact h.1
  |succ i=>exact ND h.2 (by simpa using e)
theorem Rel.D2 {M:Map} {s:St} {w w':World} (r:Rel M s w) (D2 : ∀ k,k<w.heap.size→w'.heap[k]? = w.heap[k]?) (hs:w.heap.size≤w'.heap.size) (h1:w'.os=w.os) (h2:w'.tape=w.tape) (h3:w'.output=w.output) :
 Rel M s w'∧Ext M s w M s w':=by
 refine⟨⟨fun p o v e=>?_,fun o ds e=>?_,r.ki,r.inj,fun t n e=>?_,r.fy,r.gd⟩,⟨Le.refl M s,fun k hk _ _=>D2 k hk,fun o h h'=>by rcases h with h|h;omega;exact(h rfl).elim,fun t b c z h e=> .inl ⟨h,c,z,e⟩,fun _ _ h=>(h rfl).elim,hs,h1,h2,h3⟩⟩
 ·obtain⟨h1,h2⟩:=r.comm p o v e
  refine⟨?_,h2⟩
  rw[← h1]
  simp only[World.cell?,D2 _ (r.BS e)]
 ·obtain⟨vs,T,h1,h2⟩:=r.obj o ds e
  exact⟨vs,T,h1.keep (D2 _ h1.lt),h2⟩
 ·rcases r.tok t n e with h | ⟨p,cap,z,vs,T,h1,h2,h3⟩
  ·exact .inl h
  ·exact .inr ⟨p,cap,z,vs,T,h1,by rw[D2 _ (kM h2)];exact h2,h3⟩
theorem aF.amb {P:Program} {f:FuncId} {args:List D} {d:D} {s:St} {o g z:Nat} {rows:List (List D)} {k:Nat} (hk:args[k]? = some (.eQ z o g rows.length)) {more:List D}
 (eH:s.ah[o]? = some (.int .i64 (g:Int)::(rows.flatten++more))) (hs : ∀ row∈rows,row.length=z) (h:aF P f (D.jP o g rows args) S0 d S0) (ha:D.bJ 0 0 (D.jP o g rows args)=true)
 (hd:d.flat=true):aF P f args s d s:=by
 intro M w fS r hl dP Ae
 have hD:=(List.getElem?_eq_some_iff.1 hk).1
 obtain⟨b0,amc,A,_,_,hm,_⟩:=(Ae k _ _ hk (Array.getElem?_eq_getElem (by omega))).yU
 have iB:oj s o g=some (rows.flatten++more):=by unfold oj;rw[eH];simp
 obtain⟨us,T,cap,hh,yX,DZ,ayL,hle,iz,jO⟩:=r.Ke hm iB
 have G5:o<s.ah.length:=(List.getElem?_eq_some_iff.1 eH).1
 have hGo : ∀ q,M.G (M.mu o) q=none:=r.ki o G5
 let M':Map:= {M with G:=fun b q=>if b=M.mu o then us[q]? else M.G b q}
 have qP : ∀ b,b≠M.mu o→∀ q,M'.G b q=M.G b q:=fun b hb q=>if_neg hb
 have le:Le M s M' s:=⟨fun b q v hq=>by
  by_cases hb:b=M.mu o
  ·subst hb;rw[hGo]at hq;cases hq
  ·rw[qP b hb];exact hq,Nat.le_refl _,fun _ _=> .refl _,Nat.le_refl _,fun t n' _ e=>⟨n',e,Nat.le_refl _,fun _=>rfl⟩⟩
 have iV : ∀ (i:Nat) (row:List D) (j:Nat) (d:D),rows[i]? = some row→row[j]? = some d→(rows.flatten++more)[i*z+j]? = some d:=by
  have gen : ∀ (rows:List (List D)),(∀ row∈rows,row.length=z)→∀ (i:Nat) (row:List D) (j:Nat) (d:D),rows[i]? = some row→row[j]? = some d→rows.flatten[i*z+j]? = some d:=by
   intro rows
   induction rows with
   |nil=>intro _ i row j d e1;simp at e1
   | cons a rows ih=>
    intro hs i row j d e1 e2
    have vw:=hs a (List.mem_cons_self ..)
    rw[List.flatten_cons]
    cases i with
    |zero=>
     simp at e1;subst e1
     rw[Nat.zero_mul,Nat.zero_add,List.getElem?_append_left (List.getElem?_eq_some_iff.1 e2).1];exact e2
    |succ i=>
     rw[List.getElem?_append_right (by rw[Nat.add_mul];omega),vw,show(i+1)*z+j - z=i*z+j by rw[Nat.add_mul];omega]
     exact ih (fun q hq=>hs q (List.mem_cons_of_mem _ hq)) i row j d (by simpa using e1) e2
  intro i row j d e1 e2
  have:=gen rows hs i row j d e1 e2
  rw[List.getElem?_append_left (List.getElem?_eq_some_iff.1 this).1];exact this
 have g1 : ∀ (i:Nat) (row:List D) (j:Nat) (d:D),rows[i]? = some row→row[j]? = some d→∃ u,M'.G (M.mu o) (0+(i*z+j))=some u:=fun i row j d e1 e2=>by
  have hD:=(List.getElem?_eq_some_iff.1 (iV i row j d e1 e2)).1
  refine⟨us[i*z+j]'(by omega), ?_⟩
  show(if M.mu o=M.mu o then us[0+(i*z+j)]? else _)=_
  rw[if_pos rfl,Nat.zero_add]
  exact Array.getElem?_eq_getElem _
 have g2 : ∀ (i:Nat) (row:List D) (j:Nat) (d:D) (u:Value),rows[i]? = some row→row[j]? = some d→M'.G (M.mu o) (0+(i*z+j))=some u→RD M' s d u:=fun i row j d u e1 e2 eu=>by
  have FC:(if M.mu o=M.mu o then us[0+(i*z+j)]? else M.G (M.mu o) (0+(i*z+j)))=some u:=eu
  rw[if_pos rfl,Nat.zero_add]at FC
  exact(jO _ d u (iV i row j d e1 e2) FC).mono le
 have r0:Rel M' S0 w:=⟨fun b q v hq=>by
  have np:(if b=M.mu o then us[q]? else M.G b q)=some v:=hq
  by_cases hb:b=M.mu o
  ·rw [if_pos hb]at np
   rw[hb,jx hh]
   exact⟨np,iz v (Array.mem_of_getElem? np)⟩
  ·rw [if_neg hb]at np
   exact r.comm b q v np,fun o ds e=>by simp[S0]at e,fun o h=>by simp[S0]at h,fun o _ h=>by simp[S0]at h,fun t n e=>by simp[S0]at e,
  fun t b c z o hl _ ho=>by simp[S0]at ho,fun t t' b c z c' z' hl=>by obtain⟨n,hn⟩:=hl;simp[S0]at hn⟩
 have l0:Laid M' S0 w:=fun q cs hq=>⟨(hl q cs hq).1,fun o ho=>by simp[S0]at ho,fun t c z ht=>by obtain⟨n,hn⟩:=ht;simp[S0]at hn⟩
 have a0 : ∀ (i:Nat) (d:D) (v:Value),(D.jP o g rows args)[i]? = some d→fS[i]? = some v→RD M' S0 d v:=fun i d0 v e1 e2=>by
  have qw:=ND ha e1
  rw[o7,List.getElem?_map,Option.map_eq_some_iff]at e1
  obtain⟨d1,e1,rfl⟩:=e1
  have xu:=((Ae i d1 v e1 e2).mono le).fU (M:=M') hm yX hs g1 g2
  exact RD.Di (M:=M') (M0:=M') (s:=s) (s0:=S0) (os:= []) (ts:= []) rfl (by simp) rfl (by simp) (by simp) rfl xu _ (rm _ _ _ qw) qw
 refine(h M' w fS r0 l0 (by rw[dP,o7,List.length_map]) a0).mono fun e w' ⟨M2,d2,v,s2,h1,⟨h2,h3⟩,hx,_,h4⟩=>?_
 subst h2 h3
 have D2 : ∀ k,k<w.heap.size→w'.heap[k]? = w.heap[k]? :=fun k hk=>hx.kept k hk (fun o ho=>by simp[S0]at ho) (fun t c z ht=>by obtain⟨n,hn⟩:=ht;simp[S0]at hn)
 obtain⟨r',e'⟩:=r.D2 D2 hx.size hx.os hx.tape hx.output
 exact⟨M,d2,v,s,h1,⟨rfl,rfl⟩,e',r',h4.flat hd⟩
section
variable {P:Program} {B:gi} {nt:Nat}
theorem bP.vx {f:FuncId} {res:List (Nat×Option (Bool×Nat))} {body:AC} {args:List D} {s:St} {R:D→St→Prop} (h0:Has P f nt res body) (hl:Nat.ble args.length nt=true)
 (h : ∀ (B:gi) (Q:Exit→Tm→St→Prop),B.s=s→VF res R=Q→kL P B nt body Q (nA 0 args) s):bP P f args s R:=by
 obtain⟨fn,hf,hc⟩:=h0
 refine bP.JI (bP.SH (Q:=R) hf hc (Nat.le_of_ble_eq_true hl) fun B hB=>iW (h B _ hB rfl)) fun d s1 h=>⟨d,s1,Wk.refl _,gM.refl _,rfl,h⟩
theorem gW {res:List (Nat×Option (Bool×Nat))} {R:D→St→Prop} {tm:Tm} {s:St} {e:Exit} {Q:Exit→Tm→St→Prop} (hQ:VF res R=Q) (h : ∃ l,aT res tm s=some l∧R (aV l) s) (he:e = .ret∨e = .normal:=by first|exact .inl rfl|exact .inr rfl):Q e tm s:=by
 subst hQ
 rcases he with rfl|rfl<;>exact h
def upD (R:D→St→Prop) (d:D) (s:St):Prop:=∃ d' s',Wk d d'∧gM s.ah s'.ah∧s.ay=s'.ay∧R d' s'
theorem bP.up {f:FuncId} {args:List D} {s:St} {R:D→St→Prop} (h:bP P f args s (upD R)):bP P f args s R:=
 bP.JI h fun d s1 ⟨d',s',h1,h2,h3,h4⟩=>⟨d',s',h1,h2,h3,h4⟩
def wq (tm:Tm):Tm→Prop
 | []=>True
 |(k,d)::r=>Wk (tm.get k) d∧wq tm r
theorem wq.get {tm:Tm} : ∀ {bD:Tm},wq tm bD→∀ t,Wk (tm.get t) (bD.get t)
 | [],_,t=>Wk.junk _
 |(k,d)::r,h,t=>by
  simp only[Tm.get]
  split
  ·rename_i hk;subst hk;exact h.1
  ·exact wq.get h.2 t
theorem ad6 (tm:Tm):wq tm [] = True:=nd rfl
theorem ad7 (tm:Tm) (k:Nat) (d:D) (r:Tm):wq tm ((k,d)::r)=(Wk (tm.get k) d∧wq tm r):=nd rfl
attribute [go_sem] ad6 ad7
theorem Holds.qy {tm bD:Tm} {s:St} {act:Act} {w:World} (ht:wq tm bD) (h:Holds B nt tm s act w):Holds B nt bD s act w:=by
 obtain⟨M,e,r,hr,h1,h2⟩:=h
 exact⟨M,e,r,fun k=>ht.get k _ _ _ (hr k),h1,h2⟩
theorem br.qy {a:AC} {Q:Exit→Tm→St→Prop} {tm bD:Tm} {s:St} (ht:wq tm bD) (h:br P B nt a Q bD s):br P B nt a Q tm s:=fun c hc act w hh=>h c hc act w (hh.qy ht)
theorem mw.qy {a r:AC} {Q:Exit→Tm→St→Prop} {tm bD:Tm} {s:St} (ht:wq tm bD) (h:mw P B nt a r Q bD s):mw P B nt a r Q tm s:=fun c rest hc hr act w hh=>h c rest hc hr act w (hh.qy ht)
theorem Sem.qy {a:AC} {Q:Exit→Tm→St→Prop} {tm bD:Tm} {s:St} (ht:wq tm bD) (h:Sem P B nt a Q bD s):Sem P B nt a Q tm s:=fun c hc act w hh=>h c hc act w (hh.qy ht)
end
theorem gj {s:St} {o:Nat} {r:List D} (h:s.ah[o]? = some r):o<s.ah.length:=(List.getElem?_eq_some_iff.1 h).1
theorem NF {s:St} {a b:Nat} {r r':List D} (h:s.ah[a]? = some r) (h':s.ah[b]? = some r') (hn:r≠r'):a≠b:=fun e=>by subst e;rw[h]at h';cases h';exact hn rfl
end Go.Abs
namespace Go.Abs
theorem aF.BI {P:Program} {f:Nat} {args:List D} {s0 s:St} {o off n m:Nat} {row:List D} (h:aF P f args s0 (.ptr o off) s) (ho:s.ah[o]? = some row) (hn:s0.ah.length≤n) (Bq:n≤o) (hm:s0.ay.length≤m) :
 aF P f args s0 (.dI (D.gH n m row) off) (s.cut n m):=by
 intro M0 w0 fS r0 k6 amd ha
 refine(h M0 w0 fS r0 k6 amd ha).mono ?_
 rintro en w ⟨M,d,v0,s',rfl,⟨rfl,rfl⟩,e,r,hv⟩
 have yS:=hv.BT
 have pf:v0 = .pointer (some ⟨M.mu o,off,none⟩):=hv.s8.1
 have G5:o<s'.ah.length:=(List.getElem?_eq_some_iff.1 ho).1
 obtain⟨vs,T,hh,dP,⟨iz,_⟩,jO⟩:=r.obj o row ho
 replace hh:w.heap[M.mu o]? = some (.cells vs T (0,0)):=hh.cells yS
 let M':Map:= {M with G:=fun b q=>if b=M.mu o then vs[q]? else M.G b q}
 have hGo : ∀ q,M.G (M.mu o) q=none:=r.ki o G5
 have le:Le M s' M' s':=⟨fun b q v hq=>by
  show(if b=M.mu o then vs[q]? else M.G b q)=some v
  by_cases hb:b=M.mu o
  ·subst hb;rw[hGo]at hq;cases hq
  ·rw[if_neg hb];exact hq,Nat.le_refl _,fun _ _=> .refl _,Nat.le_refl _,fun t n' _ e=>⟨n',e,Nat.le_refl _,fun _=>rfl⟩⟩
 have hD : ∀ q,q<(s'.cut n m).ah.length→q<s'.ah.length∧q≠o:=fun q h=>by rw[ou]at h;omega
 have xv:w0.heap.size≤M.mu o:=e.uI o (.inl (by omega)) G5
 have ec:=e.cut hn hm
 have lec:Le M (s'.cut n m) M' (s'.cut n m):=⟨le.G,Nat.le_refl _,fun _ _=> .refl _,Nat.le_refl _,fun t n' _ e=>⟨n',e,Nat.le_refl _,fun _=>rfl⟩⟩
 have rc:=r.cut n m
 have qP : ∀ b,b≠M.mu o→∀ q,M'.G b q=M.G b q:=fun b hb q=>if_neg hb
 refine⟨M',_,v0,_,rfl,⟨rfl,rfl⟩,⟨ec.le.trans lec,ec.kept,ec.uI,ec.rf,fun b q eW=>?_,ec.size,ec.os,ec.tape,ec.output⟩,⟨fun b q v hq=>?_,fun q ds hq=>?_,fun q hq x8=>?_,rc.inj,fun t n' Ft=>?_,rc.fy,rc.gd⟩, ?_⟩
 ·by_cases hb:b=M.mu o
  ·subst hb;exact .inl xv
  ·rw[qP b hb]at eW;exact ec.sY b q eW
 ·have np:(if b=M.mu o then vs[q]? else M.G b q)=some v:=hq
  by_cases hb:b=M.mu o
  ·rw [if_pos hb]at np
   rw[hb,jx hh]
   exact⟨np,iz v (Array.mem_of_getElem? np)⟩
  ·rw [if_neg hb]at np
   exact r.comm b q v np
 ·obtain⟨fO,T',h3,h4,h5,h6⟩:=rc.obj q ds hq
  exact⟨fO,T',h3,h4,h5,fun i d v e1 e2=>(h6 i d v e1 e2).mono lec⟩
 ·obtain⟨h3,h4⟩:=hD q hq
  show M'.G (M.mu q) x8=none
  rw[qP _ (fun e=>h4 (r.inj q o h3 G5 e))]
  exact r.ki q h3 x8
 ·rcases rc.tok t n' Ft with h3 | ⟨b,cap,z,fO,T',h3,h4,h5,h6,h7⟩
  ·exact .inl h3
  ·refine .inr ⟨b,cap,z,fO,T',h3,h4,h5,h6,fun x8 EA=> ?_,h7.2⟩
   rw[qP _ (fun e=>r.fy t b cap z o (wi ⟨n',Ft⟩) h3 G5 e.symm)]
   exact h7.1 x8 EA
 ·rw [pf]
  have:=RD.dI (M:=M') (s:=s'.cut n m) (D.gH n m row) off (M.mu o) 0 (fun i d e1=>?_) (fun i d u e1 eu=>?_)
  ·simpa using this
  ·rw [nK,List.getElem?_map,Option.map_eq_some_iff]at e1
   obtain⟨d0,e1,rfl⟩:=e1
   have hi:=(List.getElem?_eq_some_iff.1 e1).1
   refine⟨vs[i]'(by omega), ?_⟩
   show(if M.mu o=M.mu o then vs[0+i]? else _)=_
   rw[if_pos rfl,Nat.zero_add]
   exact Array.getElem?_eq_getElem _
  ·rw [nK,List.getElem?_map,Option.map_eq_some_iff]at e1
   obtain⟨d0,e1,rfl⟩:=e1
   have FC:(if M.mu o=M.mu o then vs[0+i]? else M.G (M.mu o) (0+i))=some u:=eu
   rw[if_pos rfl,Nat.zero_add]at FC
   exact((jO i d0 u e1 FC).fg n m).mono lec
theorem aF.goK {P:Program} {f:FuncId} {res:List (Nat×Option (Bool×Nat))} {body:AC} {args:List D} {s:St} {d:D} {s':St} {nt:Nat} (n m:Nat) (hn:s.ah.length≤n) (hm:s.ay.length≤m) (h0:Has P f nt res body) (hl:Nat.ble args.length nt=true)
 (h : ∀ (B:gi) (Q:Exit→Tm→St→Prop),B.s=s→qE n m res d s'=Q→kL P B nt body Q (nA 0 args) s):aF P f args s d s':=by
 obtain⟨fn,hf,hc⟩:=h0
 refine bP.JI (bP.intro (Q:=fun d1 s1=>Wk d1 d∧gM s1.ah s'.ah∧s1.ay=s'.ay) hf hc (Nat.le_of_ble_eq_true hl) fun B hB=>(iW (h B _ hB rfl)).mono fun e tm s1 hr=>?_) fun d1 s1 ⟨h1,h2,h3⟩=>⟨d,s',h1,h2,h3,rfl,rfl⟩
 subst hB
 cases e with
 |normal=>obtain⟨l,h1,h2,h3,h4⟩:=hr;exact⟨l,h1,_,_,hn,hm,h2,h3,h4⟩
 |ret=>obtain⟨l,h1,h2,h3,h4⟩:=hr;exact⟨l,h1,_,_,hn,hm,h2,h3,h4⟩
 |exit id=>exact hr.elim
 |goto l=>exact hr.elim
 |panic ch=>exact hr.elim
 |outgrown=>exact hr.elim
section
variable (s:St) (o g off len k z size bytes:Nat) (kk:IntKind)
theorem ah3:oj s o g=match s.ah[o]? with|some (.int .i64 n::cells)=>if n=(g:Int)then some cells else none|_=>none:=nd rfl
theorem ad9 (agg:Bool):zT (.fG o g off) agg size s=match oj s o g with|some cells=>(match part cells off agg size with|some d=>some (d,s)|none=>none)|none=>none:=nd rfl
theorem aa8 (r:List D):BP (.fG o g off) (some r) size s=match oj s o g with
 |some cells=>if r.length=size∧off+size≤cells.length then some (.tuple [],⟨s.ah.set o (.int .i64 g::iO cells off r),s.ay⟩)else none
 |none=>none:=nd rfl
theorem ah4:ON (.fG o g off)=some (.fG o g off):=nd rfl
theorem aa9:Fc (.fG o g k) off=some (.fG o g (k+off)):=nd rfl
theorem abb:yQ (.eQ z o g len) (.int kk (k:Int)) size=if k<len then(if z=size then some (.fG o g (k*z))else none)else none:=by
 simp only[yQ]
 by_cases h1:k<len<;>by_cases h2:z=size<;>simp[h1,h2]
theorem ah5:GM (.eQ z o g len)=some (.int .i64 len):=nd rfl
theorem aea:GM (.eJ z)=some (.int .i64 0):=nd rfl
theorem KY {z bytes:Nat} (t:Tag) (r:List D) (s:St) (hm:bytes+1≤bx):BQ z bytes (.eJ z) (.slice t z [r]) s=some (.eQ z s.ah.length 0 1,⟨s.ah++ [.int .i64 ((0:Nat):Int)::r],s.ay⟩):=by
 simp[BQ,hm]
theorem ah6 (n m:Nat):D.fg n m (.eQ z o g len)=if o<n then .eQ z o g len else .junk:=nd (by simp only[D.fg])
theorem ah7 (n m:Nat):D.fg n m (.fG o g off)=if o<n then .fG o g off else .junk:=nd (by simp only[D.fg])
theorem ah8 (n m:Nat):D.fg n m (.eJ z) = .eJ z:=nd (by simp only[D.fg])
theorem aeb:(D.eQ z o g len).row=some [.eQ z o g len]:=nd rfl
theorem aec:(D.fG o g off).row=some [.fG o g off]:=nd rfl
theorem aed:(D.eJ z).row=some [.eJ z]:=nd rfl
end
attribute [go_sem] ah3 ad9 aa8 ah4 aa9 abb ah5 aea ah6 ah7 ah8 aeb aec aed
theorem Wk.eJ (z z':Nat):Wk (.slice .full z []) (.eJ z'):=fun M s v h=>by
 cases h with
 |jb _ _ cap hc ht=>subst hc;exact .eJ z' none
 |slice _ _ _ b k cap hl hs h1 h2 ht=>
  have:cap=0:=ht
  subst this
  exact .eJ z' _
instance (z z':Nat):Ok (Wk (.slice .full z []) (.eJ z')):=⟨Wk.eJ z z'⟩
instance {a a' b b':List D} [Ok (jK a a')] [Ok (jK b b')] : Ok (jK (a++b) (a'++b')):=⟨jK.append Ok.out Ok.out⟩
theorem ah9 (n m:Nat) (a b:List D):D.gH n m (a++b)=D.gH n m a++D.gH n m b:=nd (by simp only[nK,List.map_append])
attribute [go_sem] ah9
def Ch (os:List Nat) (m:Nat) (ah:List (List D)):List Nat→List (List D)→Prop
 | [],[]=>True
 |o::l,ds::r=>ah[o]? = some (D.fk os (List.range m) ds)∧D.bJ os.length m ds=true∧Ch os m ah l r
 |_,_=>False
theorem Ch.get {os:List Nat} {m:Nat} {ah:List (List D)} : ∀ {l:List Nat} {r:List (List D)},Ch os m ah l r→r.length=l.length∧∀ (i o:Nat) (ds:List D),l[i]? = some o→r[i]? = some ds→ah[o]? = some (D.fk os (List.range m) ds)∧D.bJ os.length m ds=true
 | [],[],_=>⟨rfl,fun i o ds h=>by simp at h⟩
 |o::l,ds::r,⟨h1,h2,h3⟩=>by
  obtain⟨g1,g2⟩:=h3.get
  refine⟨by simp[g1],fun i o' oc e1 e2=>?_⟩
  cases i with
  |zero=>simp at e1 e2;subst e1 e2;exact⟨h1,h2⟩
  |succ i=>exact g2 i o' oc (by simpa using e1) (by simpa using e2)
 | [],_::_,h=>h.elim
 |_::_,[],h=>h.elim
section
variable {P:Program} {B:gi} {nt:Nat} {a:AC} {Q:Exit→Tm→St→Prop} {tm:Tm} {s:St}
theorem br.ame (hB:B.s = ⟨[],[]⟩) (os:List Nat) (gD:List (List D)) (bD:Tm) (vr:os.Nodup) (jA : ∀ o∈os,o<s.ah.length) (yd:Ch os s.ay.length s.ah os gD) (TD:Ea os (List.range s.ay.length) tm bD)
 (h:br P B nt a Q bD ⟨gD,s.ay⟩):br P B nt a Q tm s:=
 br.sel os gD bD vr jA (by rw[hB];exact Nat.zero_le _) (fun i h=>by rw[hB]at h;exact absurd h (Nat.not_lt_zero _)) (fun i o _ _=>by rw[hB];exact Nat.zero_le _) yd.get.1 yd.get.2 TD h
end
section
variable (os ts:List Nat) (n m:Nat)
theorem aia (o off:Nat):D.dh os ts (.ptr o off)=match os[o]? with|some o'=> .ptr o' off|none=> .junk:=nd (by simp only[D.dh]<;>rfl)
theorem aib (z o g len:Nat):D.dh os ts (.eQ z o g len)=match os[o]? with|some o'=> .eQ z o' g len|none=> .junk:=nd (by simp only[D.dh]<;>rfl)
theorem abd (g:Tag) (z:Nat) (rows:List (List D)):D.dh os ts (.slice g z rows) = .slice (g.dh ts) z (D.ov os ts rows):=nd (by simp only[D.dh])
theorem aic (l:List D):D.dh os ts (.agg l) = .agg (D.fk os ts l):=nd (by simp only[D.dh])
theorem aee:D.dh os ts .junk = .junk:=nd (by simp only[D.dh])
theorem aid (k:IntKind) (x:Int):D.dh os ts (.int k x) = .int k x:=nd (by simp only[D.dh])
theorem aef (b:Bool):D.dh os ts (.bool b) = .bool b:=nd (by simp only[D.dh])
theorem aie (l:List UInt8):D.dh os ts (.str l) = .str l:=nd (by simp only[D.dh])
theorem aeg:D.dh os ts .ew = .ew:=nd (by simp only[D.dh])
theorem aeh (z:Nat):D.dh os ts (.eJ z) = .eJ z:=nd (by simp only[D.dh])
theorem abe:D.fk os ts [] = []:=nd (by simp only[D.fk])
theorem abf (d:D) (l:List D):D.fk os ts (d::l)=D.dh os ts d::D.fk os ts l:=nd (by simp only[D.fk])
theorem WR:Tag.dh ts .shared = .shared:=nd rfl
theorem aei:Tag.dh ts .full = .full:=nd rfl
theorem abg (o off:Nat):D.ok n m (.ptr o off)=decide (o<n):=nd (by simp only[D.ok])
theorem abh (z o g len:Nat):D.ok n m (.eQ z o g len)=decide (o<n):=nd (by simp only[D.ok])
theorem TE (g:Tag) (z:Nat) (rows:List (List D)):D.ok n m (.slice g z rows)=(g.ok m && D.gL n m rows):=nd (by simp only[D.ok])
theorem abi (l:List D):D.ok n m (.agg l)=D.bJ n m l:=nd (by simp only[D.ok])
theorem WS:D.ok n m .junk=true:=nd (by simp only[D.ok])
theorem abj (k:IntKind) (x:Int):D.ok n m (.int k x)=true:=nd (by simp only[D.ok])
theorem WT (b:Bool):D.ok n m (.bool b)=true:=nd (by simp only[D.ok])
theorem abk (l:List UInt8):D.ok n m (.str l)=true:=nd (by simp only[D.ok])
theorem WU:D.ok n m .ew=true:=nd (by simp only[D.ok])
theorem WV (z:Nat):D.ok n m (.eJ z)=true:=nd (by simp only[D.ok])
theorem aej:D.bJ n m [] = true:=nd (by simp only[D.bJ])
theorem aek (d:D) (l:List D):D.bJ n m (d::l)=(D.ok n m d && D.bJ n m l):=nd (by simp only[D.bJ])
theorem QT:Tag.ok m .shared=true:=nd rfl
theorem WW:Tag.ok m .full=true:=nd rfl
theorem abl (os:List Nat) (m:Nat) (ah:List (List D)):Ch os m ah [] [] = True:=nd rfl
theorem abm (os:List Nat) (m:Nat) (ah:List (List D)) (o:Nat) (l:List Nat) (ds:List D) (r:List (List D)):Ch os m ah (o::l) (ds::r)=(ah[o]? = some (D.fk os (List.range m) ds)∧D.bJ os.length m ds=true∧Ch os m ah l r):=nd rfl
theorem ael (tm:Tm):Ea os ts tm [] = True:=nd rfl
theorem aem (tm:Tm) (k:Nat) (d:D) (r:Tm):Ea os ts tm ((k,d)::r)=(tm.get k=d.dh os ts∧d.ok os.length ts.length=true∧Ea os ts tm r):=nd rfl
theorem KZ (rows:List (List D)) (h:D.gL 0 0 rows=true):D.ov os ts rows=rows:=jB os ts rows h
theorem FD (row:List D) (h:D.bJ 0 0 row=true):D.fk os ts row=row:=fM os ts row h
theorem QU (rows:List (List D)) (h:D.gL 0 0 rows=true):D.gL n m rows=true:=ng (Nat.zero_le n) (Nat.zero_le m) rows h
theorem JM (row:List D) (h:D.bJ 0 0 row=true):D.bJ n m row=true:=iQ (Nat.zero_le n) (Nat.zero_le m) row h
theorem NG (p:Pg):D.fk os ts (cB p)=cB p:=FD _ _ _ (jq p)
theorem abn (p:Sm):D.fk os ts (bj p)=bj p:=FD _ _ _ (sf p)
theorem WX (l:List Pc):D.ov os ts (l.map cy)=l.map cy:=KZ _ _ _ (xr l)
theorem WY (l:List Sm):D.ov os ts (l.map bj)=l.map bj:=KZ _ _ _ (oy l)
theorem TF (l:List az):D.ov os ts (l.map encStr)=l.map encStr:=KZ _ _ _ (ff l)
theorem abo (p:Pc):D.fk os ts (cy p)=cy p:=FD _ _ _ (yj p)
theorem aen (p:Pc):D.bJ n m (cy p)=true:=JM _ _ _ (yj p)
theorem TG (p:Pg):D.bJ n m (cB p)=true:=JM _ _ _ (jq p)
theorem aeo (p:Sm):D.bJ n m (bj p)=true:=JM _ _ _ (sf p)
theorem abp (l:List Pc):D.gL n m (l.map cy)=true:=QU _ _ _ (xr l)
theorem abq (l:List Sm):D.gL n m (l.map bj)=true:=QU _ _ _ (oy l)
theorem WZ (l:List az):D.gL n m (l.map encStr)=true:=QU _ _ _ (ff l)
theorem QV : ∀ l:List Pc,D.bJ 0 0 ((l.map cy).flatten)=true:=fun l=>by
 have h:=xr l
 rw[Fs,List.all_eq_true]at h
 rw[zf,List.all_eq_true]
 intro d hd
 obtain⟨r,hr,hd⟩:=List.mem_flatten.1 hd
 have:=h r hr
 rw[zf,List.all_eq_true]at this
 exact this d hd
theorem W0 (l:List Pc):D.fk os ts ((l.map cy).flatten)=(l.map cy).flatten:=FD _ _ _ (QV l)
theorem abr (l:List Pc):D.bJ n m ((l.map cy).flatten)=true:=JM _ _ _ (QV l)
theorem abt (l:List Pc):D.gH n m ((l.map cy).flatten)=(l.map cy).flatten:=iC _ _ _ (QV l)
end
attribute [go_sem] abo aen aia aib abd aic aee aid aef aie aeg aeh abe abf WR aei abg abh TE abi WS abj WT abk WU WV aej aek QT WW abl abm ael aem NG abn WX WY TF TG aeo abp abq WZ W0 abr abt
mutual
theorem K0 (o g:Nat) (rows:List (List D)) : ∀ d,D.ok 0 0 d=true→D.fU o g rows d=d
 | .junk,_=>by simp[D.fU]
 | .int k n,_=>by simp[D.fU]
 | .bool b,_=>by simp[D.fU]
 | .str l,_=>by simp[D.fU]
 | .ew,_=>by simp[D.fU]
 | .val v,_=>by simp[D.fU]
 | .eJ z,_=>by simp[D.fU]
 | .fF T o,h=>by simp[D.ok]at h
 | .gb o,h=>by simp[D.ok]at h
 | .eQ z o g len,h=>by simp[D.ok]at h
 | .fG o g off,h=>by simp[D.ok]at h
 | .ptr o f,h=>by simp[D.ok]at h
 | .gw f cs,h=>by
  simp only[D.ok]at h
  simp only[D.fU,td o g rows cs h]
 | .dI r f,h=>by
  simp only[D.ok]at h
  simp only[D.fU,td o g rows r h]
 | .slice t z rs,h=>by
  simp only[D.ok,Bool.and_eq_true]at h
  simp only[D.fU,zk o g rows rs h.2]
 | .agg cs,h=>by
  simp only[D.ok]at h
  simp only[D.fU,td o g rows cs h]
 | .tuple cs,h=>by
  simp only[D.ok]at h
  simp only[D.fU,td o g rows cs h]
theorem td (o g:Nat) (rows:List (List D)) : ∀ l,D.bJ 0 0 l=true→D.jP o g rows l=l
 | [],_=>by simp[D.jP]
 |d::r,h=>by
  simp only[D.bJ,Bool.and_eq_true]at h
  simp only[D.jP,K0 o g rows d h.1,td o g rows r h.2]
theorem zk (o g:Nat) (rows:List (List D)) : ∀ l,D.gL 0 0 l=true→D.sg o g rows l=l
 | [],_=>by simp[D.sg]
 |d::r,h=>by
  simp only[D.gL,Bool.and_eq_true]at h
  simp only[D.sg,td o g rows d h.1,zk o g rows r h.2]
end
section
variable (o g:Nat) (rows:List (List D)) (n m:Nat)
theorem aif (q off:Nat):D.fU o g rows (.ptr q off) = .ptr q off:=nd (by simp only[D.fU])
theorem aep (q h off:Nat):D.fU o g rows (.fG q h off) = .fG q h off:=nd (by simp only[D.fU])
theorem aih (z o' g' len:Nat):D.fU o g rows (.eQ z o' g' len)=if o'=o∧g'=g∧len=rows.length then .slice .shared z rows else .eQ z o' g' len:=nd (by simp only[D.fU])
theorem abu (t:Tag) (z:Nat) (rs:List (List D)):D.fU o g rows (.slice t z rs) = .slice t z (D.sg o g rows rs):=nd (by simp only[D.fU])
theorem aii (l:List D):D.fU o g rows (.agg l) = .agg (D.jP o g rows l):=nd (by simp only[D.fU])
theorem aeq:D.fU o g rows .junk = .junk:=nd (by simp only[D.fU])
theorem aij (k:IntKind) (x:Int):D.fU o g rows (.int k x) = .int k x:=nd (by simp only[D.fU])
theorem aer (b:Bool):D.fU o g rows (.bool b) = .bool b:=nd (by simp only[D.fU])
theorem aik (l:List UInt8):D.fU o g rows (.str l) = .str l:=nd (by simp only[D.fU])
theorem abv:D.jP o g rows [] = []:=nd (by simp only[D.jP])
theorem abw (d:D) (l:List D):D.jP o g rows (d::l)=D.fU o g rows d::D.jP o g rows l:=nd (by simp only[D.jP])
theorem amf (p:Pg):D.jP o g rows (cB p)=cB p:=td _ _ _ _ (jq p)
theorem ail (l:List Pc):D.sg o g rows (l.map cy)=l.map cy:=zk _ _ _ _ (xr l)
theorem aim (l:List Sm):D.sg o g rows (l.map bj)=l.map bj:=zk _ _ _ _ (oy l)
theorem aes (l:List az):D.sg o g rows (l.map encStr)=l.map encStr:=zk _ _ _ _ (ff l)
theorem ain (ds:List D):fzR o g rows n m ds=D.gH n m (D.jP o g rows ds):=nd rfl
theorem aet (tm:Tm):Y7 o g rows m tm [] = True:=nd rfl
theorem aeu (tm:Tm) (k:Nat) (d:D) (r:Tm):Y7 o g rows m tm ((k,d)::r)=(Wk (((tm.get k).fU o g rows).fg o m) d∧Y7 o g rows m tm r):=nd rfl
end
attribute [go_sem] aif aep aih abu aii aeq aij aer aik abv abw amf ail aim aes ain aet aeu
end Go.Abs
namespace Go.Abs
mutual
def Ex.size:Ex→Nat
 |⟨_,_,_,kids⟩=>1+Ex.a7 kids
def Ex.a7:List Ex→Nat
 | []=>0
 |x::l=>1+x.size+Ex.a7 l
end
mutual
def Ex.depth:Ex→Nat
 |⟨_,_,_,kids⟩=>Ex.nO kids+1
def Ex.nO:List Ex→Nat
 | []=>0
 |x::l=>max x.depth (Ex.nO l)
end
def aev (x:Ex):Option Int:=if x.size<4611686018427387904 then some (x.depth:Int)else none
theorem Ex.df {x:Ex} : ∀ {l:List Ex},x∈l→x.size<Ex.a7 l
 |y::l,h=>by
  simp only[Ex.a7]
  rcases List.mem_cons.1 h with rfl|h
  ·omega
  ·have:=Ex.df h;omega
theorem Ex.dS : ∀ (l:List Ex),l.length≤Ex.a7 l
 | []=>Nat.le_refl _
 |x::l=>by simp only[Ex.a7,List.length_cons];have:=Ex.dS l;omega
def QW (t:qR):Int×Int:=
 if t.kind != 4 then(0,0)
 else if t.text == [124,124]then(17,1)
 else if t.text == [38,38]then(16,2)
 else if t.text == [61,61]then(14,3)
 else if t.text == [33,61]then(15,3)
 else if t.text == [60]then(10,4)
 else if t.text == [60,61]then(11,4)
 else if t.text == [62]then(12,4)
 else if t.text == [62,61]then(13,4)
 else if t.text == [43]then(8,5)
 else if t.text == [45]then(9,5)
 else if t.text == [42]then(5,6)
 else if t.text == [47]then(6,6)
 else if t.text == [37]then(7,6)
 else(0,0)
structure Rd where
 l:List qR
 i:Nat
 code:Int
 K1:Int
 n:Nat
abbrev Rd.good (r:Rd):Bool:=r.code==0
def Rd.wu (r:Rd):Option qR:=(ad3 r.l r.i).bind fun t=>if decide (0≤t.kind) && decide (t.kind≤4)then some t else none
def Rd.bad (c:Int) (r:Rd):Option Rd:=if r.good then r.wu.bind fun t=>some {r with code:=c,K1:=t.pos}else some r
def Rd.is (text:az) (r:Rd):Option Bool:=r.wu.bind fun t=>some ((t.kind==3 ||t.kind==4) && t.text==text)
def Rd.take (text:az) (r:Rd):Option (Bool×Rd):=
 if !r.good then some (false,r)else(r.is text).bind fun b=>if !b then some (false,r)else some (true,{r with i:=r.i+1})
def Rd.want (text:az) (r:Rd):Option Rd:=(r.take text).bind fun p=>if !p.1 then p.2.bad 3 else some p.2
def Rd.name (room:Bool) (r:Rd):Option (az×Rd):=
 r.wu.bind fun t=>if !r.good ||t.kind != 1 then(r.bad 3).bind fun r=>some ([],r)else if !room then(r.bad 4).bind fun r=>some ([],r)else some (t.text,{r with i:=r.i+1})
def Rd.on (r:Rd):Rd:= {r with i:=r.i+1}
mutual
def Rd.one:Nat→Rd→Option (Ex×Rd)
 | 0,_=>none
 | n+1,r=>r.wu.bind fun t=>
  if !r.good then some (qS,r)
  else if t.kind==2 then some (⟨1,t.n,[],[]⟩,{r with i:=r.i+1})
  else if t.kind==1 then some (⟨2,0,t.text,[]⟩,{r with i:=r.i+1})
  else(r.take [40]).bind fun p=>
   if p.1 then(Rd.two n 1 p.2).bind fun x=>(x.2.want [41]).bind fun r=>some (x.1,r)
   else(p.2.take [45]).bind fun p=>
    if p.1 then(Rd.one n p.2).bind fun x=>some (⟨3,0,[],[x.1]⟩,x.2)
    else(p.2.take [33]).bind fun p=>
     if p.1 then(Rd.one n p.2).bind fun x=>some (⟨4,0,[],[x.1]⟩,x.2)
     else(p.2.bad 3).bind fun r=>some (qS,r)
def Rd.two:Nat→Int→Rd→Option (Ex×Rd)
 | 0,_,_=>none
 |n+1,least,r=>(Rd.one n r).bind fun x=>Rd.aew n least x.1 x.2
def Rd.aew:Nat→Int→Ex→Rd→Option (Ex×Rd)
 | 0,_,_,_=>none
 | n+1,least,x,r=>
  if r.good then r.wu.bind fun t=>
   if decide ((QW t).2<least) ||(QW t).1==0 then some (x,r)
   else(Rd.two n ((QW t).2+1) {r with i:=r.i+1}).bind fun y=>Rd.aew n least ⟨(QW t).1,0,[],[x,y.1]⟩ y.2
  else some (x,r)
end
def Rd.whole (n:Nat) (r:Rd):Option (Ex×Rd):=
 r.wu.bind fun t=>(Rd.two n 1 r).bind fun x=>
  if x.2.good then(aev x.1).bind fun d=>if decide (d > 20)then some (x.1,{x.2 with code:=4,K1:=t.pos})else some (x.1,x.2)
  else some (x.1,x.2)
def Rd.names:Nat→List az→Int→Rd→Option (List az×Rd)
 | 0,_,_,_=>none
 | n+1,l,aex,r=>
  if r.good then(r.name (decide ((l.length:Int)<aex))).bind fun p=>(push 17 l p.1).bind fun l=>(p.2.take [44]).bind fun q=>
   if !q.1 then(q.2.want [59]).bind fun r=>some (l,r)else Rd.names n l aex q.2
  else some (l,r)
def Rd.ahead (sign:az) (r:Rd):Option Bool:=
 if r.good then r.wu.bind fun t=>if t.kind==1 then(ad3 r.l (r.i+1)).bind fun u=>some (u.kind==4 && u.text==sign)else some false
 else some false
def Rd.labels:Nat→List az→Rd→Option (List az×Rd)
 | 0,_,_=>none
 |n+1,l,r=>(r.ahead [58]).bind fun b=>if b then r.wu.bind fun t=>(push 17 l t.text).bind fun l=>Rd.labels n l {r with i:=r.i+2}else some (l,r)
def Rd.aey (r:Rd):Option Bool:=
 r.wu.bind fun t=>some (if t.kind==1 then true else if t.kind != 3 then false
  else t.text == [105,102] ||t.text == [119,104,105,108,101] ||t.text == [98,114,101,97,107] ||t.text == [99,111,110,116,105,110,117,101] ||t.text == [114,101,116,117,114,110] ||t.text == [103,111,116,111] ||t.text == [114,101,97,100] ||t.text == [112,114,105,110,116])
def Rd.QX (m:Nat):Nat→List Ar→Rd→Option (List Ar×Rd)
 | 0,_,_=>none
 | n+1,l,r=>
  if r.good then(r.take [114,101,102]).bind fun p=>
   if p.1 then(p.2.name true).bind fun x=>(push 81 l ⟨true,x.1,qS⟩).bind fun l=>(x.2.take [44]).bind fun c=>if !c.1 then some (l,c.2)else Rd.QX m n l c.2
   else(Rd.whole m p.2).bind fun x=>(push 81 l ⟨false,[],x.1⟩).bind fun l=>(x.2.take [44]).bind fun c=>if !c.1 then some (l,c.2)else Rd.QX m n l c.2
  else some (l,r)
def Rd.other (sign:az) (r:Rd):Option Bool:=if r.good then(r.is sign).bind fun b=>some !b else some false
def Rd.call (m:Nat) (name proc:az) (r:Rd):Option (Sm×Rd):=
 (r.want [40]).bind fun r=>(r.other [41]).bind fun b=>
  if b then(Rd.QX m m [] r).bind fun q=>(q.2.want [41]).bind fun r=>(r.want [59]).bind fun r=>some (⟨0,4,[],name,proc,qS,false,q.1,[],[]⟩,r)
  else(r.want [41]).bind fun r=>(r.want [59]).bind fun r=>some (⟨0,4,[],name,proc,qS,false,[],[],[]⟩,r)
def Rd.named (m:Nat) (r:Rd):Option (Sm×Rd):=
 (r.name true).bind fun x=>(x.2.is [40]).bind fun b=>
  if b then Rd.call m [] x.1 x.2
  else(x.2.want [61]).bind fun r=>(r.ahead [40]).bind fun b=>
   if b then(r.name true).bind fun y=>Rd.call m x.1 y.1 y.2
   else(Rd.whole m r).bind fun y=>(y.2.want [59]).bind fun r=>some (⟨0,1,[],x.1,[],y.1,false,[],[],[]⟩,r)
def Rd.plain (m:Nat) (word:az) (r:Rd):Option (Sm×Rd):=
 if word == [98,114,101,97,107]then some (⟨0,7,[],[],[],qS,false,[],[],[]⟩,r)
 else if word == [99,111,110,116,105,110,117,101]then some (⟨0,8,[],[],[],qS,false,[],[],[]⟩,r)
 else if word == [114,101,116,117,114,110]then(r.is [59]).bind fun b=>
  if !b then(Rd.whole m r).bind fun x=>some (⟨0,9,[],[],[],x.1,true,[],[],[]⟩,x.2)else some (⟨0,9,[],[],[],qS,false,[],[],[]⟩,r)
 else if word == [103,111,116,111]then(r.name true).bind fun x=>some (⟨0,10,[],x.1,[],qS,false,[],[],[]⟩,x.2)
 else if word == [114,101,97,100]then(r.name true).bind fun x=>some (⟨0,2,[],x.1,[],qS,false,[],[],[]⟩,x.2)
 else if word == [112,114,105,110,116]then(Rd.whole m r).bind fun x=>some (⟨0,3,[],[],[],x.1,false,[],[],[]⟩,x.2)
 else some (D9,r)
def Rd.head (m:Nat) (r:Rd):Option (Ex×Rd):=(r.want [40]).bind fun r=>(Rd.whole m r).bind fun x=>(x.2.want [41]).bind fun r=>some (x.1,r)
mutual
def Rd.rows (m:Nat):Nat→Int→Bool→Rd→Option ((List Sm×List az)×Rd)
 | 0,_,_,_=>none
 |n+1,nest,body,r=>Rd.Y8 m n nest body [] r
def Rd.Y8 (m:Nat):Nat→Int→Bool→List Sm→Rd→Option ((List Sm×List az)×Rd)
 | 0,_,_,_,_=>none
 | n+1,nest,body,out,r=>
  if r.good then(Rd.labels m [] r).bind fun l=>(l.2.is [125]).bind fun b=>
   if b && (body ||(l.1.length:Int)==0)then some ((out,l.1),{l.2 with i:=l.2.i+1})
   else(Rd.stmt m n nest l.2).bind fun s=>(push 209 out {s.1 with labels:=l.1}).bind fun out=>Rd.Y8 m n nest body out s.2
  else some (([],[]),r)
def Rd.stmt (m:Nat):Nat→Int→Rd→Option (Sm×Rd)
 | 0,_,_=>none
 | n+1,nest,r=>r.aey.bind fun b=>
  if !b then(r.bad 3).bind fun r=>some (D9,r)
  else(inc r.n).bind fun k=>
   if decide ((k:Int) > 200) ||decide (nest > 12)then(({r with n:=k} : Rd).bad 4).bind fun r=>some (D9,r)
   else({r with n:=k} : Rd).wu.bind fun t=>
    if t.kind==1 then Rd.named m {r with n:=k}
    else if t.text == [105,102]then Rd.choice m n nest {r with n:=k,i:=r.i+1}
    else if t.text == [119,104,105,108,101]then(Rd.head m {r with n:=k,i:=r.i+1}).bind fun x=>(Rd.block m n nest x.2).bind fun b=>some (⟨0,6,[],[],[],x.1,false,[],b.1,[]⟩,b.2)
    else(Rd.plain m t.text {r with n:=k,i:=r.i+1}).bind fun s=>(s.2.want [59]).bind fun r=>some (s.1,r)
def Rd.block (m:Nat):Nat→Int→Rd→Option (List Sm×Rd)
 | 0,_,_=>none
 |n+1,nest,r=>(r.want [123]).bind fun r=>(ama nest).bind fun k=>(Rd.rows m n k false r).bind fun p=>some (p.1.1,p.2)
def Rd.choice (m:Nat):Nat→Int→Rd→Option (Sm×Rd)
 | 0,_,_=>none
 |n+1,nest,r=>(Rd.head m r).bind fun x=>(Rd.block m n nest x.2).bind fun t=>(t.2.take [101,108,115,101]).bind fun q=>
  if q.1 then(Rd.block m n nest q.2).bind fun e=>some (⟨0,5,[],[],[],x.1,false,[],t.1,e.1⟩,e.2)
  else some (⟨0,5,[],[],[],x.1,false,[],t.1,[]⟩,q.2)
end
def Rd.params:Nat→List Pm→Rd→Option (List Pm×Rd)
 | 0,_,_=>none
 | n+1,l,r=>
  if r.good then(r.take [114,101,102]).bind fun q=>(q.2.name (decide ((l.length:Int)<8))).bind fun x=>(push 25 l ⟨x.1,q.1⟩).bind fun l=>(x.2.take [44]).bind fun c=>
   if !c.1 then some (l,c.2)else Rd.params n l c.2
  else some (l,r)
def Rd.vars (m:Nat):Nat→List az→Rd→Option (List az×Rd)
 | 0,_,_=>none
 |n+1,l,r=>(r.take [118,97,114]).bind fun q=>if q.1 then(Rd.names m l 16 q.2).bind fun x=>Rd.vars m n x.1 x.2 else some (l,q.2)
def Rd.Y9 (m:Nat) (name:az) (ps:List Pm) (r:Rd):Option (Pc×Rd):=
 (Rd.vars m m [] r).bind fun v=>(Rd.rows m m 1 true v.2).bind fun b=>some (⟨name,ps,v.1,b.1.1,b.1.2⟩,b.2)
def Rd.proc (m:Nat) (r:Rd):Option (Pc×Rd):=
 (r.name true).bind fun x=>(x.2.want [40]).bind fun r=>(r.other [41]).bind fun b=>
  if b then(Rd.params m [] r).bind fun q=>(q.2.want [41]).bind fun r=>(r.want [123]).bind fun r=>Rd.Y9 m x.1 q.1 r
  else(r.want [41]).bind fun r=>(r.want [123]).bind fun r=>Rd.Y9 m x.1 [] r
def Rd.globals (m:Nat):Nat→List az→Rd→Option (List az×Rd)
 | 0,_,_=>none
 |n+1,l,r=>(r.take [103,108,111,98,97,108]).bind fun q=>if q.1 then(Rd.names m l 16 q.2).bind fun x=>Rd.globals m n x.1 x.2 else some (l,q.2)
def Rd.aez (r:Rd):Option Bool:=if r.good then r.is [112,114,111,99]else some false
def Rd.TH (r:Rd):Option Bool:=if r.good then r.wu.bind fun t=>some (t.kind != 0)else some false
def Rd.procs (m:Nat):Nat→List Pc→Rd→Option (List Pc×Rd)
 | 0,_,_=>none
 | n+1,l,r=>r.aez.bind fun b=>
  if b then
   if(l.length:Int)==16 then(r.bad 4).bind fun r=>some (l,r)
   else(Rd.proc m {r with i:=r.i+1}).bind fun x=>(push 113 l x.1).bind fun l=>Rd.procs m n l x.2
  else r.TH.bind fun b=>if b then(r.bad 3).bind fun r=>some (l,r)else some (l,r)
def Rd.program (m:Nat) (r:Rd):Option (Pg×Rd):=(Rd.globals m m [] r).bind fun g=>(Rd.procs m m [] g.2).bind fun q=>some (⟨g.1,q.1⟩,q.2)
mutual
def Ex.beq:Ex→Ex→Bool
 |⟨op,n,name,kids⟩,⟨op',n',QY,Za⟩=>if op != op' ||n != n' || !(name==QY) ||(kids.length:Int) != (Za.length:Int)then false else Ex.qF kids Za
def Ex.qF:List Ex→List Ex→Bool
 | [],_=>true
 |_::_,[]=>true
 |x::l,y::l'=>if !Ex.beq x y then false else Ex.qF l l'
end
def Ar.a7:List Ar→Nat
 | []=>0
 |a::l=>1+a.x.size+Ar.a7 l
mutual
def Sm.size:Sm→Nat
 |⟨_,_,labels,_,_,x,_,args,bb,aP⟩=>1+labels.length+x.size+Ar.a7 args+Sm.a7 bb+Sm.a7 aP
def Sm.a7:List Sm→Nat
 | []=>0
 |s::l=>1+s.size+Sm.a7 l
end
def Pc.size (f:Pc):Nat:=1+f.params.length+f.vars.length+f.fin.length+Sm.a7 f.body
def Pc.a7:List Pc→Nat
 | []=>0
 |f::l=>1+f.size+Pc.a7 l
def Pg.size (p:Pg):Nat:=1+p.globals.length+Pc.a7 p.procs
mutual
def Sm.num (b:Bool) (n:Nat):Sm→Sm×Nat
 |⟨id,kind,labels,name,proc,x,has,args,bb,aP⟩=>
  (⟨if b then((n+1:Nat):Int)else id,kind,labels,name,proc,x,has,args,(Sm.uQ b (n+1) bb).1,(Sm.uQ b (Sm.uQ b (n+1) bb).2 aP).1⟩,(Sm.uQ b (Sm.uQ b (n+1) bb).2 aP).2)
def Sm.uQ (b:Bool) (n:Nat):List Sm→List Sm×Nat
 | []=>([],n)
 |s::l=>((Sm.num b n s).1::(Sm.uQ b (Sm.num b n s).2 l).1,(Sm.uQ b (Sm.num b n s).2 l).2)
end
def Pc.uQ (n:Nat):List Pc→List Pc
 | []=> []
 |f::l=> {f with body:=(Sm.uQ true n f.body).1}::Pc.uQ (Sm.uQ true n f.body).2 l
def Pg.number (p:Pg):Pg:= {p with procs:=Pc.uQ 0 p.procs}
def Pg.abx (p:Pg):Option Pg:=if p.size<1073741824 then some p.number else none
theorem Sm.dS : ∀ (l:List Sm),l.length≤Sm.a7 l
 | []=>Nat.le_refl _
 |x::l=>by simp only[Sm.a7,List.length_cons];have:=Sm.dS l;omega
theorem Ar.dS : ∀ (l:List Ar),l.length≤Ar.a7 l
 | []=>Nat.le_refl _
 |x::l=>by simp only[Ar.a7,List.length_cons];have:=Ar.dS l;omega
theorem Pc.dS : ∀ (l:List Pc),l.length≤Pc.a7 l
 | []=>Nat.le_refl _
 |x::l=>by simp only[Pc.a7,List.length_cons];have:=Pc.dS l;omega
theorem Ar.df {x:Ar} : ∀ {l:List Ar},x∈l→x.x.size<Ar.a7 l
 |y::l,h=>by
  simp only[Ar.a7]
  rcases List.mem_cons.1 h with rfl|h
  ·omega
  ·have:=Ar.df h;omega
theorem Sm.df {x:Sm} : ∀ {l:List Sm},x∈l→x.size<Sm.a7 l
 |y::l,h=>by
  simp only[Sm.a7]
  rcases List.mem_cons.1 h with rfl|h
  ·omega
  ·have:=Sm.df h;omega
theorem Pc.df {x:Pc} : ∀ {l:List Pc},x∈l→x.size<Pc.a7 l
 |y::l,h=>by
  simp only[Pc.a7]
  rcases List.mem_cons.1 h with rfl|h
  ·omega
  ·have:=Pc.df h;omega
mutual
def Sm.jQ:Sm→Nat
 |⟨_,_,_,_,_,_,_,_,bb,aP⟩=>1+Sm.jr bb+Sm.jr aP
def Sm.jr:List Sm→Nat
 | []=>0
 |s::l=>s.jQ+Sm.jr l
end
structure Im where
 s:Sm
 proc:Int
 up:Int
 next:Int
 loop:Int
mutual
def Im.one (proc up next loop:Int) (out:List Im):Sm→List Im
 | ⟨id,kind,labels,name,pc,x,has,args,bb,aP⟩=>
  Im.rows proc ((out.length:Int)+1) (if kind==6 then(out.length:Int)+1 else next) (if kind==6 then(out.length:Int)+1 else loop)
   (Im.rows proc ((out.length:Int)+1) (if kind==6 then(out.length:Int)+1 else next) (if kind==6 then(out.length:Int)+1 else loop) (out++ [⟨⟨id,kind,labels,name,pc,x,has,args,bb,aP⟩,proc,up,next,loop⟩]) bb) aP
def Im.rows (proc up next loop:Int) (out:List Im):List Sm→List Im
 | []=>out
 |s::l=>Im.rows proc up next loop (Im.one proc up (if l.length=0 then next else(out.length:Int)+1+(s.jQ:Int)) loop out s) l
end
theorem Im.aeA (proc up next loop:Int) (out:List Im) (s:Sm):Im.one proc up next loop out s =
 Im.rows proc ((out.length:Int)+1) (if s.kind==6 then(out.length:Int)+1 else next) (if s.kind==6 then(out.length:Int)+1 else loop)
  (Im.rows proc ((out.length:Int)+1) (if s.kind==6 then(out.length:Int)+1 else next) (if s.kind==6 then(out.length:Int)+1 else loop) (out++ [⟨s,proc,up,next,loop⟩]) s.bb) s.aP:=by
 cases s;simp only[Im.one]
mutual
theorem aby (proc up next loop:Int) (out:List Im) : ∀ s:Sm,(Im.one proc up next loop out s).length=out.length+s.jQ
 |⟨id,kind,labels,name,pc,x,has,args,bb,aP⟩=>by
  simp only[Im.one,Sm.jQ]
  rw[gP,gP]
  simp only[List.length_append,List.length_cons,List.length_nil];omega
theorem gP (proc up next loop:Int) (out:List Im) : ∀ l:List Sm,(Im.rows proc up next loop out l).length=out.length+Sm.jr l
 | []=>rfl
 |s::l=>by
  simp only[Im.rows,Sm.jr]
  rw[gP,aby];omega
end
mutual
theorem ED : ∀ s:Sm,s.jQ≤s.size
 |⟨_,_,labels,_,_,x,_,args,bb,aP⟩=>by
  have:=oh bb;have:=oh aP
  simp only[Sm.jQ,Sm.size];omega
theorem oh : ∀ l:List Sm,Sm.jr l≤Sm.a7 l
 | []=>Nat.le_refl _
 |s::l=>by
  have:=ED s;have:=oh l
  simp only[Sm.jr,Sm.a7];omega
end
structure Sh where
 L:List Im
 lo:List Int
 hi:List Int
def Sh.go (i:Nat) (h:Sh):List Pc→Sh
 | []=>h
 |f::l=>Sh.go (i+1) ⟨Im.rows i 0 (-1) 0 h.L f.body,h.lo++ [(h.L.length:Int)+1],h.hi++ [((Im.rows i 0 (-1) 0 h.L f.body).length:Int)+1]⟩ l
def Pg.bg (p:Pg):Sh:=Sh.go 0 ⟨[],[],[]⟩ p.procs
def abz:Nat:=3
def Zb:Nat:=4
def Zc:Nat:=5
def W1:Nat:=6
def Zd:Nat:=7
def Ze:Nat:=8
def abA:Nat:=9
def xw:Nat:=10
def Zf:Nat:=11
def W2:Nat:=12
def Zg:Nat:=13
def W3:Nat:=14
def yk:Nat:=15
def yl:Nat:=16
def wv:Nat:=17
def agX:Nat:=18
def uR:Nat:=19
def tP:Nat:=20
def uS:Nat:=21
def q5:Nat:=22
def acF:Nat:=23
def si:Nat:=24
def uT:Nat:=25
def aio:Nat:=26
def agY:Nat:=27
def l7:Nat:=28
def jC:Nat:=29
def ym:Nat:=30
def aeB:Nat:=31
def agZ:Nat:=32
def Ah:Nat:=33
def abB:Nat:=34
def Zh:Nat:=35
def sj:Nat:=36
def acG:Nat:=37
def yn:Nat:=38
def yo:Nat:=39
def kb:Nat:=40
def gE:Nat:=41
def ly:Nat:=42
def lF:Nat:=43
def jD:Nat:=44
def iR:Nat:=45
def pT:Nat:=46
def pk:Nat:=47
def rp:Nat:=48
def po:Nat:=49
def aeC:Nat:=50
def NH:Nat:=51
def QZ:Nat:=52
def yp:Nat:=53
def ag0:Nat:=54
def o8:Nat:=55
def kA:Nat:=56
def jR:Nat:=57
def jt:Nat:=58
def ag1:Nat:=59
def aip:Nat:=60
def acH:Nat:=61
def Ai:Nat:=62
def Zi:Nat:=63
def nP:Nat:=64
def mU:Nat:=65
def kW:Nat:=66
def acI:Nat:=67
def sk:Nat:=68
def lP:Nat:=69
def vJ:Nat:=70
def kB:Nat:=71
def kC:Nat:=72
def wx:Nat:=73
def pU:Nat:=74
def gy:Nat:=75
def mB:Nat:=76
def iZ:Nat:=77
def ku:Nat:=78
def eO:Nat:=79
def pD:Nat:=80
def qT:Nat:=81
def lz:Nat:=82
def aiq:Nat:=83
def aeD:Nat:=84
def yr:Nat:=85
def acJ:Nat:=86
def RZ:Nat:=87
def NK:Nat:=88
def aeE:Nat:=89
def acK:Nat:=90
def Q1:Nat:=91
def Q2:Nat:=92
def NL:Nat:=93
def TI:Nat:=94
def mJ:Nat:=95
def q6:Nat:=96
def wy:Nat:=97
def uU:Nat:=98
def yu:Nat:=99
def jS:Nat:=100
def air:Nat:=101
def Zj:Nat:=102
def abC:Nat:=103
def sm:Nat:=104
def Cj:Nat:=105
def Aj:Nat:=106
def uV:Nat:=107
def ni:Nat:=108
def la:Nat:=109
def tQ:Nat:=110
def gk:Nat:=111
def xx:Nat:=112
def nQ:Nat:=113
def gX:Nat:=114
def cD:Nat:=115
def aeF:Nat:=116
def aeG:Nat:=117
def aeH:Nat:=118
def Zk:Nat:=119
def nj:Nat:=120
def R0:Nat:=121
def abD:Nat:=122
def aeI:Nat:=123
def aeJ:Nat:=124
def ais:Nat:=125
def ait:Nat:=126
def Q3:Nat:=127
def oR:Nat:=128
def gn:Nat:=129
def pE:Nat:=130
def q7:Nat:=131
def wz:Nat:=132
def sn:Nat:=133
def qU:Nat:=134
def wA:Nat:=135
def sq:Nat:=136
def tf:Nat:=137
def aeK:Nat:=138
def aiu:Nat:=139
def Zl:Nat:=140
def yv:Nat:=141
def pV:Nat:=142
def sr:Nat:=143
def uW:Nat:=144
def lQ:Nat:=145
def pW:Nat:=146
def aiv:Nat:=147
def aeL:Nat:=148
def aeM:Nat:=149
def aeN:Nat:=150
def acL:Nat:=151
def ag2:Nat:=152
def ag3:Nat:=153
def akP:Nat:=154
def Zm:Nat:=155
def acM:Nat:=156
def acN:Nat:=157
def aeO:Nat:=158
def ag4:Nat:=159
def acO:Nat:=160
def aeP:Nat:=161
def aiw:Nat:=162
def aix:Nat:=163
def Zn:Nat:=164
def abE:Nat:=165
def aeQ:Nat:=166
def lG:Nat:=167
def su:Nat:=168
def wB:Nat:=169
def wC:Nat:=170
def uX:Nat:=171
def yw:Nat:=172
def jT:Nat:=173
def ko:Nat:=174
def yx:Nat:=175
def Ak:Nat:=176
def sv:Nat:=177
def Al:Nat:=178
def aeR:Nat:=179
def ag5:Nat:=180
def aiy:Nat:=181
def aeS:Nat:=182
def abF:Nat:=183
def aiz:Nat:=184
def ag6:Nat:=185
def aiA:Nat:=186
def ag7:Nat:=187
def ag8:Nat:=188
def sx:Nat:=189
def gY:Nat:=190
def pF:Nat:=191
def uY:Nat:=192
def FE:Nat:=193
def Zo:Nat:=194
def jU:Nat:=195
def uZ:Nat:=196
def ti:Nat:=197
def aeT:Nat:=198
def aeU:Nat:=199
def ag9:Nat:=200
def abG:Nat:=201
def aha:Nat:=202
def aiB:Nat:=203
def M6:Nat:=204
def acP:Nat:=205
def acQ:Nat:=206
def ji:Nat:=207
def Ck:Nat:=208
def E6:Nat:=209
def Cl:Nat:=210
def DM:Nat:=211
def Dm:Nat:=212
def yM:Nat:=213
def Vh:Nat:=214
def BF:Nat:=215
def EE:Nat:=216
def Vi:Nat:=217
def Vj:Nat:=218
def aeV:Nat:=219
def ahb:Nat:=220
def ahc:Nat:=221
def acR:Nat:=222
def aeW:Nat:=223
def E7:Nat:=224
def Mu:Nat:=225
def M7:Nat:=226
def BG:Nat:=227
def GH:Nat:=228
def TJ:Nat:=229
def GK:Nat:=230
abbrev AI.o (t:Nat) (a:AO):AI:= .op (some t) none a
abbrev AI.g (t c:Nat) (b:Bool) (a:AO):AI:= .op (some t) (some (c,b)) a
abbrev AI.c (t f:Nat) (l:List X):AI:= .call (some t) none f l
abbrev AI.d (t c:Nat) (b:Bool) (f:Nat) (l:List X):AI:= .call (some t) (some (c,b)) f l
abbrev AI.m (t:Nat) (x:X):AI:= .op (some t) none (.mv x)
abbrev bA:X:= .s 0
abbrev bp:X:= .s 1
abbrev db:X:= .s 2
abbrev cG:X:= .s 3
abbrev fA:X:= .s 4
abbrev cv:X:= .s 5
abbrev dJ:X:= .s 6
abbrev cR:X:= .s 7
abbrev dk:X:= .s 8
abbrev dc:X:= .s 9
abbrev bQ:X:= .s 10
abbrev cU:X:= .s 11
abbrev cJ:X:= .s 12
abbrev da:X:= .s 13
abbrev cT:X:= .s 14
abbrev dB:X:= .s 15
abbrev dj:X:= .s 16
abbrev dK:X:= .s 17
abbrev dH:X:= .s 18
abbrev dY:X:= .s 19
abbrev eg:X:= .s 20
abbrev ei:X:= .s 21
abbrev dT:X:= .s 22
abbrev eB:X:= .s 23
abbrev eU:X:= .s 24
abbrev eZ:X:= .s 25
abbrev fm:X:= .s 26
abbrev fw:X:= .s 27
abbrev fV:X:= .s 28
abbrev fY:X:= .s 29
abbrev gp:X:= .s 30
abbrev ga:X:= .s 31
abbrev gF:X:= .s 32
abbrev gv:X:= .s 33
abbrev ie:X:= .s 34
abbrev gG:X:= .s 35
abbrev gQ:X:= .s 36
abbrev iN:X:= .s 37
abbrev ju:X:= .s 38
abbrev jd:X:= .s 39
abbrev jV:X:= .s 40
abbrev jJ:X:= .s 41
abbrev kD:X:= .s 42
abbrev km:X:= .s 43
abbrev kE:X:= .s 44
abbrev lh:X:= .s 45
abbrev lj:X:= .s 46
abbrev lk:X:= .s 47
abbrev kF:X:= .s 48
abbrev kn:X:= .s 49
abbrev kG:X:= .s 50
abbrev kH:X:= .s 51
abbrev kI:X:= .s 52
abbrev ll:X:= .s 53
abbrev lH:X:= .s 54
abbrev lI:X:= .s 55
abbrev nn:X:= .s 56
abbrev oz:X:= .s 57
abbrev nR:X:= .s 58
abbrev my:X:= .s 59
abbrev pw:X:= .s 60
abbrev qG:X:= .s 61
abbrev pX:X:= .s 62
abbrev qH:X:= .s 63
abbrev qI:X:= .s 64
abbrev tj:X:= .s 65
abbrev u5:X:= .s 66
abbrev u6:X:= .s 67
abbrev tn:X:= .s 68
abbrev wD:X:= .s 69
abbrev wE:X:= .s 70
abbrev Am:X:= .s 71
abbrev yy:X:= .s 72
abbrev yz:X:= .s 73
abbrev An:X:= .s 74
abbrev Ao:X:= .s 75
abbrev Ap:X:= .s 76
abbrev Cm:X:= .s 77
abbrev yA:X:= .s 78
abbrev EF:X:= .s 79
abbrev EG:X:= .s 80
abbrev EH:X:= .s 81
abbrev G6:X:= .s 82
abbrev G7:X:= .s 83
abbrev G8:X:= .s 84
abbrev G9:X:= .s 85
abbrev Ha:X:= .s 86
abbrev Hb:X:= .s 87
abbrev Hc:X:= .s 88
abbrev Cn:X:= .s 89
abbrev Hd:X:= .s 90
abbrev K3:X:= .s 91
abbrev Q4:X:= .s 92
abbrev W4:X:= .s 93
abbrev W5:X:= .s 94
abbrev W6:X:= .s 95
abbrev aeX:X:= .s 96
abbrev aeY:X:= .s 97
abbrev aeZ:X:= .s 98
abbrev ae0:X:= .s 99
abbrev Zp:X:= .s 100
abbrev Zq:X:= .s 101
abbrev Zr:X:= .s 102
abbrev Zs:X:= .s 103
abbrev Zt:X:= .s 104
abbrev Zu:X:= .s 105
abbrev Zv:X:= .s 106
abbrev Zw:X:= .s 107
abbrev Zx:X:= .s 108
abbrev aiC:X:= .s 109
abbrev Zy:X:= .s 110
abbrev Zz:X:= .s 111
abbrev Q5:X:= .s 112
abbrev ZA:X:= .s 113
abbrev ZB:X:= .s 114
abbrev ZC:X:= .s 115
abbrev ZD:X:= .s 116
abbrev ZE:X:= .s 117
abbrev ZF:X:= .s 118
abbrev ZG:X:= .s 119
abbrev ZH:X:= .s 120
abbrev ZI:X:= .s 121
abbrev ZJ:X:= .s 122
abbrev ZK:X:= .s 123
abbrev ZL:X:= .s 124
abbrev ZM:X:= .s 125
abbrev aiD:X:= .s 126
abbrev ZN:X:= .s 127
abbrev FF:X:= .s 128
abbrev ZO:X:= .s 129
abbrev ZP:X:= .s 130
abbrev aiE:X:= .s 131
abbrev aiF:X:= .s 132
abbrev aiG:X:= .s 133
abbrev aiH:X:= .s 134
abbrev aiI:X:= .s 135
abbrev aiJ:X:= .s 136
abbrev aiK:X:= .s 137
abbrev aiL:X:= .s 138
abbrev aiM:X:= .s 139
abbrev aiN:X:= .s 140
abbrev aiO:X:= .s 141
abbrev aiP:X:= .s 142
abbrev aiQ:X:= .s 143
abbrev aiR:X:= .s 144
abbrev aiS:X:= .s 145
abbrev aiT:X:= .s 146
abbrev aiU:X:= .s 147
abbrev aiV:X:= .s 148
abbrev aiW:X:= .s 149
abbrev aiX:X:= .s 150
abbrev aiY:X:= .s 151
abbrev aiZ:X:= .s 152
abbrev ai0:X:= .s 153
abbrev ai1:X:= .s 154
abbrev ai2:X:= .s 155
abbrev ai3:X:= .s 156
abbrev ai4:X:= .s 157
abbrev ai5:X:= .s 158
abbrev ai6:X:= .s 159
abbrev ai7:X:= .s 160
abbrev ai8:X:= .s 161
abbrev ai9:X:= .s 162
abbrev aja:X:= .s 163
abbrev ajb:X:= .s 164
abbrev ajc:X:= .s 165
abbrev ajd:X:= .s 166
abbrev aje:X:= .s 167
abbrev ajf:X:= .s 168
abbrev ajg:X:= .s 169
abbrev ajh:X:= .s 170
abbrev aji:X:= .s 171
abbrev ajj:X:= .s 172
abbrev ajk:X:= .s 173
abbrev ajl:X:= .s 174
abbrev ajm:X:= .s 175
abbrev Q04:AC:= .cond cJ (.seq (.run [.o 10 (.mv (.k (.bool false)))]) .ret) .skip
abbrev Q09:AC:= .cond dB (.seq (.run [.o 10 (.mv (.k (.bool true)))]) .ret) .skip
abbrev Q0B:AC:= .run [.o 16 (.load cv true 2), .m 17 bp, .m 18 db, .c 19 uS [dj,dK,dH], .o 20 (.un .not dY), .m 21 eg, .g 22 21 false (.mv cG), .g 23 21 false (.bin .eql dT (.k (.str [109,97,105,110]))), .o 24 (.pick ei (.k (.bool true)) eB), .m 25 eU, .g 26 25 false (.mv fA), .g 27 25 false (.bin .eql fm (.k (.str [109,97,105,110]))), .o 28 (.pick eZ (.k (.bool true)) fw), .m 29 fV, .g 30 29 false (.mv cG),(.g 31 29 false (.build [(.int .i64 0),(.int .i64 0),(.str []),(.slice .full 0 [])] [(0,(1,(.k (.int .i64 2)))),(2,(1,gp))])), .d 32 29 false jC [ga], .g 33 29 false (.un .not gF), .o 34 (.pick fY (.k (.bool true)) gv), .m 35 ie, .g 36 35 false (.mv fA),(.g 37 35 false (.build [(.int .i64 0),(.int .i64 0),(.str []),(.slice .full 0 [])] [(0,(1,(.k (.int .i64 2)))),(2,(1,gQ))])), .d 38 35 false jC [iN], .g 39 35 false (.un .not ju), .o 40 (.pick gG (.k (.bool true)) jd)]
abbrev Q0E:AC:= .cond jV (.seq (.run [.o 10 (.mv (.k (.bool true)))]) .ret) .skip
abbrev Q0G:AC:= .par [.o 41 (.load cv true 2), .m 42 bp, .m 43 db, .c 44 q5 [jJ,kD,km], .o 45 (.load cv true 2), .m 46 cG, .m 47 fA, .c 48 ym [lh,lj,lk], .m 49 bp, .m 50 db, .c 51 q5 [kF,kn,kG], .c 52 uR [kE,kH], .m 10 kI] [(0,0),(1,0),(2,0),(3,0),(4,1),(5,0),(6,0),(7,0),(8,0),(9,0),(10,0),(11,0),(12,0)]
abbrev Q0L:AC:= .seq (.run [.o 5 (.box bA), .o 10 (.mv (.k (.bool false)))]) (.seq (.seq (.run [.c 11 yk [], .o 12 (.un .not cU)]) Q04) (.seq (.seq (.run [.o 13 (.load cv true 2), .c 14 yl [da], .o 15 (.un .not cT)]) Q09) (.seq (.seq Q0B Q0E) (.seq Q0G .ret))))
abbrev Q0O:AC:= .run [.m 9 db, .o 10 (.bin .eql dc (.k (.int .i64 0))), .m 11 bQ, .g 12 11 true (.aq bp 0), .g 13 11 true (.load cJ false 1), .g 14 11 true (.bin .eql da (.k (.int .i64 1))), .o 15 (.pick cU cT (.k (.bool false))), .m 16 dB, .g 17 16 true (.aq bp 1), .g 18 16 true (.load dK false 1), .g 19 16 true (.bin .eql dH (.k (.int .i64 7))), .o 20 (.pick dj dY (.k (.bool false))), .m 21 eg, .g 22 21 true (.aq bp 3), .g 23 21 true (.load dT false 1),(.g 24 21 true (.dq [(.int .i64 0)] 1 2 [(0,(.k (.int .i64 5))),(1,(.k (.int .i64 5)))])), .d 25 21 true l7 [eB,eU], .o 26 (.pick ei eZ (.k (.bool false))), .m 27 fm, .g 28 27 true (.aq bp 4), .g 29 27 true (.load fV false 1), .g 30 27 true (.len fY), .g 31 27 true (.bin .eql gp (.k (.int .i64 2))), .o 32 (.pick fw ga (.k (.bool false))), .m 33 gF, .g 34 33 true (.aq bp 4), .g 35 33 true (.load ie false 1), .g 36 33 true (.bZ gG (.k (.int .i64 0)) 2), .g 37 33 true (.aq gQ 0), .g 38 33 true (.load iN false 1), .g 39 33 true (.bin .eql ju (.k (.int .i64 2))), .o 40 (.pick gv jd (.k (.bool false))), .m 41 jV, .g 42 41 true (.aq bp 4), .g 43 41 true (.load kD false 1), .g 44 41 true (.bZ km (.k (.int .i64 1)) 2), .g 45 41 true (.aq kE 1), .g 46 41 true (.load lh false 1),(.g 47 41 true (.dq [(.int .i64 0)] 1 1 [(0,(.k (.int .i64 5)))])), .d 48 41 true l7 [lj,lk], .o 49 (.pick jJ kF (.k (.bool false))), .m 50 kn, .g 51 50 true (.load bp true 5), .d 52 50 true yn [kH], .g 53 50 true (.rO .real kI kI),(.g 54 50 true (.rO .eq ll (.k (.val (.float .f64 4619567317775286272))))), .o 55 (.pick kG lH (.k (.bool false))), .m 0 lI]
abbrev Q0Q:AC:= .seq (.run [.c 4 yo [],(.o 5 (.dq [(.int .i64 0)] 1 2 [(0,(.k (.int .i64 5))),(1,(.k (.int .i64 2)))])),(.c 6 wv [fA,(.k (.slice .full 0 [])),(.k (.int .i64 50)),cv]), .m 3 dJ, .o 7 (.ext cG 0), .o 8 (.ext cG 1), .o 1 (.alloc [(.int .i64 0),(.int .i64 0),(.int .i64 0),(.slice .full 0 []),(.slice .full 0 [])]), .op none none (.store bp cR 5), .m 2 dk]) (.seq Q0O .ret)
abbrev Q0R:AC:= .seq (.run [.o 0 (.mv (.k (.bool false)))]) Q0Q
abbrev Q0Z:AC:= .par [.o 26 (.aq cv 4), .o 27 (.load fm false 1), .o 28 (.aq cv 2), .o 29 (.load fV false 1), .o 30 (.aq cv 0), .o 31 (.load gp false 1), .m 32 cG, .c 33 gE [ga,gF], .c 34 kb [fY,gv], .c 35 kb [fw,ie], .m 3 gG] [(4,0),(5,0),(6,0),(7,0),(2,0),(3,1),(8,0),(0,0),(1,2),(9,0),(10,0)]
abbrev Q18:AC:= .seq (.seq (.run [.m 36 dJ, .o 37 (.aq cv 1), .o 38 (.load iN false 1), .o 39 (.len ju), .o 40 (.bin .lss gQ jd), .m 41 jV, .g 42 41 true (.mv cG), .g 43 41 true (.bin .leq kD (.k (.int .i64 20000))), .o 44 (.pick jJ km (.k (.bool false)))]) (.cond kE .skip (.exit 2))) (.seq (.block 3 (.run [.o 47 (.aq cv 1), .o 48 (.load lk false 1), .m 49 dJ, .o 50 (.bZ kF kn 2), .o 51 (.aq kG 0), .o 52 (.load kH false 1), .m 53 cG, .c 54 gE [kI,ll], .m 3 lH])) (.run [.m 45 dJ, .o 46 (.bin .add lh (.k (.int .i64 1))), .m 6 lj]))
abbrev Q1D:AC:= .seq (.seq (.run [.o 6 (.mv (.k (.int .i64 0)))]) (.block 2 (.loop Q18))) (.run [.o 55 (.aq cv 3), .o 56 (.load lI false 1), .m 57 cG, .c 58 ly [nn,oz], .m 3 nR])
abbrev Q1I:AC:= .seq (.block 1 (.seq (.run [.o 21 (.aq bp 1), .o 22 (.load ei false 1), .m 23 fA, .o 24 (.bZ dT eB 5), .o 25 (.load eU true 5), .o 5 (.alloc [(.str []),(.slice .full 0 []),(.slice .full 0 []),(.slice .full 0 []),(.slice .full 0 [])]), .op none none (.store cv eZ 5)]) (.seq Q0Z Q1D))) (.run [.m 19 fA, .o 20 (.bin .add dY (.k (.int .i64 1))), .m 4 eg])
abbrev Q1J:AC:= .seq (.seq (.run [.m 10 fA, .o 11 (.aq bp 1), .o 12 (.load cU false 1), .o 13 (.len cJ), .o 14 (.bin .lss bQ da), .m 15 cT, .g 16 15 true (.mv cG), .g 17 15 true (.bin .leq dj (.k (.int .i64 20000))), .o 18 (.pick dB dK (.k (.bool false)))]) (.cond dH .skip (.exit 0))) Q1I
abbrev Q1P:AC:= .seq (.seq (.run [.o 4 (.mv (.k (.int .i64 0)))]) (.block 0 (.loop Q1J))) (.seq (.run [.m 59 cG, .o 60 (.bin .leq my (.k (.int .i64 20000))), .m 2 pw]) .ret)
abbrev Q1R:AC:= .seq (.run [.o 1 (.box bA), .o 2 (.mv (.k (.bool false)))]) (.seq (.run [.o 7 (.aq bp 0), .o 8 (.load cR false 1), .c 9 kb [dk,(.k (.int .i64 0))], .m 3 dc]) Q1P)
abbrev Q1W:AC:= .cond eU (.seq (.run [.o 25 (.build [(.int .i64 0),(.int .i64 0),(.int .i64 0),(.slice .full 0 []),(.slice .full 0 [])] []), .op none none (.store dk eZ 5), .o 9 (.mv (.k (.int .i64 1)))]) .ret) .skip
abbrev Q26:AC:= .seq (.cond gQ .skip (.exit 0)) (.seq (.block 1 (.run [.m 37 bQ, .m 38 bQ, .o 39 (.bY ju), .o 40 (.aq jd 1), .o 41 (.load jV false 1), .o 42 (.alloc [(.int .i64 0)]), .o 43 (.dq [.ew] 1 1 [(0,kD)]), .o 44 (.app 1 8 jJ km), .o 45 (.bY iN), .o 46 (.aq lh 1), .op none none (.store lj kE 1)])) (.run [.o 47 (.bin .add gG (.k (.int .i64 1))), .m 35 lk]))
abbrev Q27:AC:= .seq (.run [.o 36 (.bin .lss gG ie)]) Q26
abbrev Q2H:AC:= .cond nn (.seq (.run [.o 12 (.mv (.k (.int .i64 0)))]) (.goto 0)) .skip
abbrev Q2I:AC:= .seq (.run [.m 55 da,(.o 56 (.bin .eql lI (.k (.int .i64 (-1)))))]) Q2H
abbrev Q2M:AC:= .cond qH (.seq (.run [.m 64 bQ, .o 65 (.bY qI), .o 66 (.aq tj 6), .o 67 (.aq u5 0), .op none none (.store u6 (.k (.int .i64 2)) 1)]) (.goto 2)) .skip
abbrev Q2Y:AC:= .seq (.run [.m 102 bQ, .o 103 (.aq cU 0), .o 104 (.load Zs true 13), .c 105 pk [Zr,Zt], .m 12 Zu]) (.seq (.run [.m 106 bQ, .o 107 (.bY Zv), .o 108 (.aq Zw 6), .o 109 (.aq Zx 0), .o 110 (.load aiC false 1), .o 111 (.bin .eql Zy (.k (.int .i64 0)))]) (.cond Zz (.goto 0) .skip))
abbrev Q32:AC:= .cond W5 (.run [.m 96 bQ, .o 97 (.aq cU 0), .o 98 (.load aeY true 13), .c 99 pT [aeX,aeZ], .m 13 ae0]) (.seq (.run [.o 101 (.bin .eql Hd (.k (.int .i64 9))), .m 100 Zq]) (.cond Zp Q2Y (.run [.m 91 bQ, .o 92 (.load cU true 17), .c 93 rp [K3,Q4], .m 13 W4])))
abbrev Q34:AC:= .block 2 (.seq (.run [.o 95 (.bin .eql Hd (.k (.int .i64 4))), .m 94 W6]) Q32)
abbrev Q3E:AC:= .seq (.run [.m 127 bQ, .o 128 (.bY ZN), .o 129 (.aq FF 6), .o 130 (.load ZO true 5), .op none none (.store dk ZP 5), .o 9 (.mv (.k (.int .i64 0)))]) .ret
abbrev Q3G:AC:= .seq (.seq (.run [.m 121 bQ, .o 122 (.bY ZI), .o 123 (.aq ZJ 6), .o 124 (.aq ZK 0), .o 125 (.load ZL false 1), .o 126 (.bin .eql ZM (.k (.int .i64 0)))]) (.cond aiD (.goto 1) .skip)) (.seq (.label 2) Q3E)
abbrev Q3H:AC:= .seq (.run [.m 118 bQ, .m 119 cJ, .c 120 po [ZF,ZG], .m 13 ZH]) Q3G
abbrev Q3K:AC:= .seq (.seq (.run [.m 112 bQ, .o 113 (.bY Q5), .o 114 (.aq ZA 6), .o 115 (.aq ZB 0), .o 116 (.load ZC false 1), .o 117 (.bin .eql ZD (.k (.int .i64 0)))]) (.cond ZE (.goto 1) .skip)) (.seq (.goto 2) (.seq (.label 0) Q3H))
abbrev Q3N:AC:= .seq (.run [.m 68 bQ, .o 69 (.bY tn), .o 70 (.aq wD 6), .o 71 (.aq wE 1), .o 72 (.load Am false 1), .o 73 (.bin .add yy (.k (.int .i64 1))), .o 74 (.bY tn), .o 75 (.aq An 6), .o 76 (.aq Ao 1), .op none none (.store Ap yz 1)]) (.seq (.run [.m 77 bQ, .o 78 (.bY Cm), .o 79 (.aq yA 0), .o 80 (.load EF false 1), .o 81 (.bY EG), .o 82 (.aq EH 2), .o 83 (.load G6 false 1), .m 84 da, .o 85 (.bin .sub G8 (.k (.int .i64 1))), .o 86 (.bZ G7 G9 17), .o 87 (.load Ha true 17), .op none none (.store cU Hb 17)]) (.seq (.seq (.run [.o 88 (.aq cU 0), .o 89 (.aq Hc 1), .o 90 (.load Cn false 1)]) Q34) Q3K))
abbrev Q3P:AC:= .seq Q2I (.seq (.seq (.run [.m 57 bQ, .o 58 (.bY oz), .o 59 (.aq nR 6), .o 60 (.aq my 1), .o 61 (.load pw false 1), .m 62 db, .o 63 (.bin .eql qG pX)]) Q2M) Q3N)
abbrev Q3S:AC:= .seq (.run [.o 12 (.mv (.k (.int .i64 0)))]) (.seq (.run [.m 48 bQ, .m 49 bQ, .o 50 (.bY kn), .o 51 (.aq kG 0), .o 52 (.load kH false 1),(.c 53 iR [kI,(.k (.str [109,97,105,110]))]),(.c 54 jD [kF,ll,(.k (.slice .full 0 [])),(.k (.int .i64 0))]), .m 13 lH]) (.seq (.label 1) Q3P))
abbrev Q3T:AC:= .seq (.run [.o 11 (.alloc [(.int .i64 0),(.int .i64 0),(.slice .full 0 []),(.str []),(.str []),(.int .i64 0),(.int .i64 0),(.str []),(.slice .full 0 []),(.bool false),(.slice .full 0 []),(.slice .full 0 []),(.slice .full 0 []),(.int .i64 0),(.int .i64 0),(.int .i64 0),(.int .i64 0)])]) Q3S
abbrev Q3U:AC:= .seq (.seq (.run [.o 32 (.aq fA 0), .o 33 (.load gF false 1), .o 34 (.len gv), .o 35 (.mv (.k (.int .i64 0)))]) (.block 0 (.loop Q27))) Q3T
abbrev Q3W:AC:= .seq (.seq (.run [.m 14 db, .o 15 (.bin .lss cT (.k (.int .i64 0))), .m 16 dB, .g 17 16 false (.mv db), .g 18 16 false (.bin .gtr dK (.k (.int .i64 1000000))), .o 19 (.pick dj (.k (.bool true)) dH), .m 20 dY, .g 21 20 false (.load fA true 2), .d 22 20 false tP [ei], .g 23 20 false (.un .not dT), .o 24 (.pick eg (.k (.bool true)) eB)]) Q1W) (.seq (.run [.o 26 (.load fA true 2), .c 27 lF [fm], .m 28 bp, .m 29 cG, .o 30 (.build [.ew,(.slice .full 0 []),(.slice .full 0 []),(.slice .full 0 []),(.slice .full 0 []),(.slice .full 0 []),(.int .i64 0),(.int .i64 0),(.int .i64 0),(.slice .full 0 []),(.slice .full 0 [])] [(0,(1,fw)),(2,(1,fV)),(3,(1,fY))]), .o 31 (.box gp), .m 10 ga]) Q3U)
abbrev Q3X:AC:= .scope Q3W
abbrev Q3Y:AC:= .seq (.run [.o 4 (.box bA), .o 8 (.alloc [(.int .i64 0),(.int .i64 0),(.int .i64 0),(.slice .full 0 []),(.slice .full 0 [])]), .o 9 (.mv (.k (.int .i64 0)))]) Q3X
abbrev Q42:AC:= .seq (.run [.o 2 (.box bA), .o 3 (.box bp), .o 4 (.mv (.k (.bool false)))]) (.seq (.run [.o 5 (.load db true 5), .o 6 (.load cG true 5), .c 7 uT [cv,dJ], .m 8 cR, .g 9 8 true (.aq db 4), .g 10 8 true (.load dc false 1), .g 11 8 true (.aq cG 4), .g 12 8 true (.load cU false 1), .d 13 8 true si [bQ,cJ], .o 14 (.pick dk da (.k (.bool false))), .m 4 cT]) .ret)
abbrev Q46:AC:= .seq (.run [.o 1 (.box bA), .o 2 (.mv (.k (.bool false)))]) (.seq (.run [.o 3 (.load bp true 2), .c 4 yp [cG], .o 5 (.DW fA 0 false 1), .o 6 (.bin .eql cv (.k (.int .i64 0))), .m 2 dJ]) .ret)
abbrev Q4A:AC:= .seq (.run [.o 3 (.box bA), .o 6 (.mv (.k (.bool false)))]) (.seq (.run [.o 7 (.load cG true 2), .c 8 tP [cR], .m 9 dk, .g 10 9 true (.mv db), .g 11 9 true (.bin .geq bQ (.k (.int .i64 0))), .o 12 (.pick dc cU (.k (.bool false))), .m 13 cJ, .g 14 13 true (.mv db), .g 15 13 true (.bin .leq cT (.k (.int .i64 400))), .o 16 (.pick da dB (.k (.bool false))), .m 17 dj, .g 18 17 true (.mv bp), .g 19 17 true (.len dH), .g 20 17 true (.bin .leq dY (.k (.int .i64 100))), .o 21 (.pick dK eg (.k (.bool false))), .m 6 ei]) .ret)
abbrev Q4C:AC:= .par [.o 10 (.load cG true 2), .m 11 bp, .m 12 db, .o 13 (.load cG true 2), .c 14 Ah [da,(.k (.int .i64 0))], .c 15 wv [bQ,cU,cJ,cT], .m 9 dB, .o 16 (.ext dc 0), .o 17 (.ext dc 1), .o 7 (.alloc [(.int .i64 0),(.int .i64 0),(.int .i64 0),(.slice .full 0 []),(.slice .full 0 [])]), .op none none (.store cR dj 5), .m 8 dK] [(3,0),(4,0),(0,1),(1,0),(2,0),(5,0),(9,0),(6,0),(7,0),(10,0),(8,0),(11,0)]
abbrev Q4G:AC:= .seq (.run [.o 3 (.box bA), .o 6 (.alloc [(.int .i64 0),(.int .i64 0),(.int .i64 0),(.slice .full 0 []),(.slice .full 0 [])])]) (.seq Q4C (.seq (.run [.o 18 (.load cR true 5), .op none none (.store dJ dH 5)]) .ret))
abbrev Q4L:AC:= .cond bQ (.seq (.run [.o 4 (.mv (.k (.bool false)))]) .ret) .skip
abbrev Q4R:AC:= .par [.m 16 bA, .m 17 cv, .o 18 (.bZ dj dK 2), .o 19 (.aq dH 0), .o 20 (.load dY false 1), .m 21 bp, .m 22 cv, .o 23 (.bZ ei dT 2), .o 24 (.aq eB 0), .o 25 (.load eU false 1), .o 26 (.bin .neq eg eZ), .m 27 fm, .g 28 27 false (.mv bA), .g 29 27 false (.mv cv), .g 30 27 false (.bZ fV fY 2), .g 31 27 false (.aq gp 1), .g 32 27 false (.load ga false 1), .g 33 27 false (.mv bp), .g 34 27 false (.mv cv), .g 35 27 false (.bZ gv ie 2), .g 36 27 false (.aq gG 1), .g 37 27 false (.load gQ false 1), .d 38 27 false l7 [gF,iN], .g 39 27 false (.un .not ju), .o 40 (.pick fw (.k (.bool true)) jd)] [(0,0),(1,0),(2,0),(3,0),(4,0),(5,0),(6,0),(7,0),(8,0),(9,0),(10,0),(11,0),(12,0),(13,0),(14,0),(15,0),(16,0),(17,0),(18,0),(19,0),(20,0),(21,0),(22,0),(23,0),(24,0)]
abbrev Q4U:AC:= .cond jV (.seq (.run [.o 4 (.mv (.k (.bool false)))]) .ret) .skip
abbrev Q50:AC:= .seq (.cond cT .skip (.exit 0)) (.seq (.block 1 (.seq (.run [.m 15 da, .m 5 dB]) (.seq Q4R Q4U))) (.run [.o 41 (.bin .add da (.k (.int .i64 1))), .m 13 jJ]))
abbrev Q54:AC:= .seq (.run [.m 11 bA, .o 12 (.len cU), .o 13 (.mv (.k (.int .i64 0)))]) (.block 0 (.loop (.seq (.run [.o 14 (.bin .lss da cJ)]) Q50)))
abbrev Q57:AC:= .seq Q54 (.seq (.run [.o 4 (.mv (.k (.bool true)))]) .ret)
abbrev Q59:AC:= .seq (.run [.o 4 (.mv (.k (.bool false)))]) (.seq (.seq (.run [.m 6 bA, .o 7 (.len dJ), .m 8 bp, .o 9 (.len dk), .o 10 (.bin .neq cR dc)]) Q4L) Q57)
abbrev Q5B:AC:= .run [.o 5 (.aq db 0), .o 6 (.load cv false 1), .o 7 (.aq cG 0), .o 8 (.load cR false 1), .o 9 (.bin .eql dJ dk), .m 10 dc, .g 11 10 true (.aq db 1), .g 12 10 true (.load cU false 1), .g 13 10 true (.aq cG 1), .g 14 10 true (.load da false 1), .g 15 10 true (.bin .eql cJ cT), .o 16 (.pick bQ dB (.k (.bool false))), .m 17 dj, .g 18 17 true (.aq db 2), .g 19 17 true (.load dH false 1), .g 20 17 true (.aq cG 2), .g 21 17 true (.load eg false 1), .g 22 17 true (.bin .eql dY ei), .o 23 (.pick dK dT (.k (.bool false))), .m 24 eB, .g 25 24 true (.aq db 3), .g 26 24 true (.load eZ false 1), .g 27 24 true (.aq cG 3), .g 28 24 true (.load fw false 1), .d 29 24 true l7 [fm,fV], .o 30 (.pick eU fY (.k (.bool false))), .m 4 gp]
abbrev Q5D:AC:= .seq (.run [.o 2 (.box bA), .o 3 (.box bp), .o 4 (.mv (.k (.bool false)))]) (.seq Q5B .ret)
abbrev Q5I:AC:= .cond bQ (.seq (.run [.o 4 (.mv (.k (.bool false)))]) .ret) .skip
abbrev Q5O:AC:= .par [.m 16 bA, .m 17 cv, .o 18 (.bZ dj dK 1), .o 19 (.load dH false 1), .m 20 bp, .m 21 cv, .o 22 (.bZ eg ei 1), .o 23 (.load dT false 1), .o 24 (.bin .neq dY eB)] [(0,0),(1,0),(2,0),(3,0),(4,0),(5,0),(6,0),(7,0),(8,0)]
abbrev Q5R:AC:= .cond eU (.seq (.run [.o 4 (.mv (.k (.bool false)))]) .ret) .skip
abbrev Q5X:AC:= .seq (.cond cT .skip (.exit 0)) (.seq (.block 1 (.seq (.run [.m 15 da, .m 5 dB]) (.seq Q5O Q5R))) (.run [.o 25 (.bin .add da (.k (.int .i64 1))), .m 13 eZ]))
abbrev Q61:AC:= .seq (.run [.m 11 bA, .o 12 (.len cU), .o 13 (.mv (.k (.int .i64 0)))]) (.block 0 (.loop (.seq (.run [.o 14 (.bin .lss da cJ)]) Q5X)))
abbrev Q64:AC:= .seq Q61 (.seq (.run [.o 4 (.mv (.k (.bool true)))]) .ret)
abbrev Q66:AC:= .seq (.run [.o 4 (.mv (.k (.bool false)))]) (.seq (.seq (.run [.m 6 bA, .o 7 (.len dJ), .m 8 bp, .o 9 (.len dk), .o 10 (.bin .neq cR dc)]) Q5I) Q64)
abbrev Q6A:AC:= .seq (.run [.o 1 (.box bA), .o 2 (.mv (.k (.bool false)))]) (.seq (.run [.o 3 (.load bp true 4), .c 4 o8 [cG,(.k (.int .i64 20))], .m 2 fA]) .ret)
abbrev Q6H:AC:= .par [.o 26 (.aq dc 0), .o 27 (.load fm false 1), .m 28 bp, .m 29 db, .c 30 jR [fw,fV,fY], .o 31 (.aq dc 2), .o 32 (.load ga false 1), .m 33 bp, .m 34 db, .c 35 kA [gF,gv,ie], .o 36 (.aq dc 4), .o 37 (.load gQ false 1), .m 38 bp, .m 39 db, .c 40 kA [iN,ju,jd], .o 41 (.aq dc 3), .o 42 (.load jJ false 1), .m 43 bp, .m 44 db, .c 45 jt [kD,km,kE], .o 46 (.build [(.str []),(.slice .full 0 []),(.slice .full 0 []),(.slice .full 0 []),(.slice .full 0 [])] [(0,(1,gp)),(2,(1,gG)),(4,(1,jV)),(3,(1,lh))]), .o 10 (.alloc [(.str []),(.slice .full 0 []),(.slice .full 0 []),(.slice .full 0 []),(.slice .full 0 [])]), .op none none (.store bQ lj 5)] [(0,0),(1,0),(2,0),(3,0),(4,0),(5,0),(6,1),(7,0),(8,0),(9,0),(10,0),(11,2),(12,0),(13,0),(14,0),(15,0),(16,3),(17,0),(18,0),(19,0),(21,0),(20,0),(22,0)]
abbrev Q6M:AC:= .par [.o 54 (.aq bQ 1), .o 55 (.load lH false 1), .o 56 (.aq cJ 1), .o 57 (.load nn false 1), .o 58 (.aq cJ 0), .o 59 (.load nR false 1), .m 60 bp, .m 61 db, .c 62 jR [my,pw,qG], .o 63 (.build [(.str []),(.bool false)] [(1,(1,oz)),(0,(1,pX))]), .o 64 (.dq [(.str []),(.bool false)] 2 1 [(0,qH)]), .o 65 (.app 2 24 lI qI), .o 66 (.aq bQ 1), .op none none (.store u5 tj 1)] [(4,0),(5,0),(6,0),(7,0),(8,0),(0,0),(1,1),(2,0),(3,1),(9,0),(10,0),(11,0),(12,0),(13,0)]
abbrev Q6Q:AC:= .seq (.block 3 (.seq (.run [.o 52 (.bZ kF kG 2), .o 53 (.load kI true 2), .o 12 (.alloc [(.str []),(.bool false)]), .op none none (.store cJ ll 2)]) Q6M)) (.run [.o 67 (.bin .add kG (.k (.int .i64 1))), .m 50 u6])
abbrev Q6U:AC:= .block 2 (.loop (.seq (.run [.o 51 (.bin .lss kG kn)]) (.seq (.cond kH .skip (.exit 2)) Q6Q)))
abbrev Q6X:AC:= .seq (.seq (.run [.o 47 (.aq dc 1), .o 48 (.load lk false 1), .o 49 (.len kF), .o 50 (.mv (.k (.int .i64 0)))]) Q6U) (.run [.o 68 (.aq cR 1), .o 69 (.load tn false 1), .o 70 (.load bQ true 5), .o 71 (.dq [(.str []),(.slice .full 0 []),(.slice .full 0 []),(.slice .full 0 []),(.slice .full 0 [])] 5 1 [(0,wE)]), .o 72 (.app 5 112 wD Am), .o 73 (.aq cR 1), .op none none (.store yz yy 1)])
abbrev Q72:AC:= .seq (.block 1 (.seq (.run [.o 24 (.bZ eg dT 5), .o 25 (.load eU true 5), .o 9 (.alloc [(.str []),(.slice .full 0 []),(.slice .full 0 []),(.slice .full 0 []),(.slice .full 0 [])]), .op none none (.store dc eZ 5)]) (.seq Q6H Q6X))) (.run [.o 74 (.bin .add dT (.k (.int .i64 1))), .m 22 An])
abbrev Q76:AC:= .block 0 (.loop (.seq (.run [.o 23 (.bin .lss dT ei)]) (.seq (.cond eB .skip (.exit 0)) Q72)))
abbrev Q7A:AC:= .seq (.seq (.run [.o 19 (.aq cG 1), .o 20 (.load dY false 1), .o 21 (.len eg), .o 22 (.mv (.k (.int .i64 0)))]) Q76) (.seq (.run [.o 75 (.load cR true 2), .op none none (.store dJ Ao 2)]) .ret)
abbrev Q7C:AC:= .seq (.run [.o 3 (.box bA), .o 6 (.alloc [(.slice .full 0 []),(.slice .full 0 [])])]) (.seq (.run [.o 13 (.aq cG 0), .o 14 (.load da false 1), .m 15 bp, .m 16 db, .c 17 kA [cT,dB,dj], .o 18 (.build [(.slice .full 0 []),(.slice .full 0 [])] [(0,(1,dK))]), .o 7 (.alloc [(.slice .full 0 []),(.slice .full 0 [])]), .op none none (.store cR dH 2)]) Q7A)
abbrev Q7N:AC:= .seq (.run [.o 13 (.bZ dc cU 16), .o 14 (.load da true 16), .o 7 (.alloc [(.int .i64 0),(.int .i64 0),(.slice .full 0 []),(.str []),(.str []),(.int .i64 0),(.int .i64 0),(.str []),(.slice .full 0 []),(.bool false),(.slice .full 0 []),(.slice .full 0 []),(.slice .full 0 []),(.int .i64 0),(.int .i64 0),(.bool false)]), .op none none (.store cR cT 16)]) (.seq (.run [.m 15 bp, .o 16 (.bin .eql dB (.k (.int .i64 0))), .m 17 dj, .g 18 17 false (.aq cR 0), .g 19 17 false (.aq dH 1), .g 20 17 false (.load dY false 1), .g 21 17 false (.mv bp), .g 22 17 false (.bin .eql eg ei), .o 23 (.pick dK (.k (.bool true)) dT)]) (.cond eB (.run [.m 24 cv, .o 25 (.aq cR 0), .o 26 (.aq eZ 0), .o 27 (.load fm false 1), .o 28 (.dq [(.int .i64 0)] 1 1 [(0,fw)]), .o 29 (.app 1 8 eU fV), .m 5 fY]) .skip))
abbrev Q7R:AC:= .seq (.cond cJ .skip (.exit 0)) (.seq (.block 1 Q7N) (.run [.o 30 (.bin .add cU (.k (.int .i64 1))), .m 11 gp]))
abbrev Q7V:AC:= .seq (.run [.o 8 (.load db true 2), .c 9 Ai [dk], .o 10 (.len dc), .o 11 (.mv (.k (.int .i64 0)))]) (.block 0 (.loop (.seq (.run [.o 12 (.bin .lss cU bQ)]) Q7R)))
abbrev Q80:AC:= .seq (.run [.o 2 (.box bA), .o 4 (.mv (.k (.slice .full 0 [])))]) (.seq (.run [.o 5 (.mv (.k (.slice .full 0 [])))]) (.seq Q7V (.seq (.run [.m 31 cv, .m 4 ga]) .ret)))
abbrev Q85:AC:= .cond eB (.seq (.run [.o 2 (.mv (.k (.bool false)))]) .ret) .skip
abbrev Q8C:AC:= .run [.o 33 (.aq cv 1), .o 34 (.load gv false 1), .o 35 (.len ie), .o 36 (.bin .gtr gG (.k (.int .i64 8))), .m 37 gQ, .g 38 37 false (.aq cv 2), .g 39 37 false (.load ju false 1), .g 40 37 false (.len jd), .g 41 37 false (.bin .gtr jV (.k (.int .i64 16))), .o 42 (.pick iN (.k (.bool true)) jJ), .m 43 kD, .g 44 43 false (.aq cv 0), .g 45 43 false (.load kE false 1), .d 46 43 false mU [lh], .g 47 43 false (.un .not lj), .o 48 (.pick km (.k (.bool true)) lk), .m 49 kF, .g 50 49 false (.aq cv 2), .g 51 49 false (.load kG false 1), .d 52 49 false nP [kH], .g 53 49 false (.un .not kI), .o 54 (.pick kn (.k (.bool true)) ll), .m 55 lH, .g 56 55 false (.aq cv 4), .g 57 55 false (.load nn false 1), .d 58 55 false nP [oz], .g 59 55 false (.un .not nR), .o 60 (.pick lI (.k (.bool true)) my)]
abbrev Q8F:AC:= .cond pw (.seq (.run [.o 2 (.mv (.k (.bool false)))]) .ret) .skip
abbrev Q8O:AC:= .cond Am (.seq (.run [.o 2 (.mv (.k (.bool false)))]) .ret) .skip
abbrev Q8T:AC:= .seq (.block 3 (.seq (.run [.o 66 (.bZ pX qI 2), .o 67 (.load u5 true 2), .o 7 (.alloc [(.str []),(.bool false)]), .op none none (.store cR u6 2)]) (.seq (.run [.o 68 (.aq cR 0), .o 69 (.load tn false 1), .c 70 mU [wD], .o 71 (.un .not wE)]) Q8O))) (.run [.o 72 (.bin .add qI (.k (.int .i64 1))), .m 64 yy])
abbrev Q8X:AC:= .block 2 (.loop (.seq (.run [.o 65 (.bin .lss qI qH)]) (.seq (.cond tj .skip (.exit 2)) Q8T)))
abbrev Q92:AC:= .cond Cm (.seq (.run [.o 2 (.mv (.k (.bool false)))]) .ret) .skip
abbrev Q94:AC:= .seq (.seq (.run [.o 61 (.aq cv 1), .o 62 (.load qG false 1), .o 63 (.len pX), .o 64 (.mv (.k (.int .i64 0)))]) Q8X) (.seq (.run [.m 73 cG, .o 74 (.aq cv 3), .o 75 (.load An false 1), .c 76 kW [yz,Ao,(.k (.int .i64 1))], .o 77 (.un .not Ap)]) Q92)
abbrev Q99:AC:= .seq (.block 1 (.seq (.run [.o 31 (.bZ fw fY 5), .o 32 (.load ga true 5), .o 5 (.alloc [(.str []),(.slice .full 0 []),(.slice .full 0 []),(.slice .full 0 []),(.slice .full 0 [])]), .op none none (.store cv gF 5)]) (.seq (.seq Q8C Q8F) Q94))) (.run [.o 78 (.bin .add fY (.k (.int .i64 1))), .m 29 yA])
abbrev Q9D:AC:= .block 0 (.loop (.seq (.run [.o 30 (.bin .lss fY fV)]) (.seq (.cond gp .skip (.exit 0)) Q99)))
abbrev Q9H:AC:= .seq (.seq (.run [.o 26 (.aq bp 1), .o 27 (.load fm false 1), .o 28 (.len fw), .o 29 (.mv (.k (.int .i64 0)))]) Q9D) (.seq (.run [.o 2 (.mv (.k (.bool true)))]) .ret)
abbrev Q9J:AC:= .seq (.seq (.run [.o 8 (.aq bp 0), .o 9 (.load dk false 1), .o 10 (.len dc), .o 11 (.bin .gtr bQ (.k (.int .i64 16))), .m 12 cU, .g 13 12 false (.aq bp 1), .g 14 12 false (.load da false 1), .g 15 12 false (.len cT), .g 16 12 false (.bin .gtr dB (.k (.int .i64 16))), .o 17 (.pick cJ (.k (.bool true)) dj), .m 18 dK, .g 19 18 false (.aq bp 0), .g 20 18 false (.load dY false 1), .d 21 18 false nP [eg], .g 22 18 false (.un .not ei), .o 23 (.pick dH (.k (.bool true)) dT)]) Q85) (.seq (.run [.o 24 (.build [(.int .i64 0)] []), .o 25 (.box eU), .m 3 eZ]) Q9H)
abbrev Q9K:AC:= .seq (.run [.o 1 (.box bA), .o 2 (.mv (.k (.bool false)))]) Q9J
open Go.Proofs
theorem iS:Has Tryz.prog xw 53 [(10,none)] Q0L:=⟨Tryz.f10,by kernel_rfl,by kernel_rfl⟩
set_option maxRecDepth 20000 in
theorem Jk : Has Tryz.prog yk 56 [(0, none)] Q0R := ⟨Tryz.f15, by kernel_rfl, by kernel_rfl⟩
theorem Jl:Has Tryz.prog yl 61 [(2,none)] Q1R:=⟨Tryz.f16,by kernel_rfl,by kernel_rfl⟩
theorem vK:Has Tryz.prog wv 131 [(8,(some (true,5))),(9,none)] Q3Y:=⟨Tryz.f17,by kernel_rfl,by kernel_rfl⟩
theorem FG:Has Tryz.prog uR 15 [(4,none)] Q42:=⟨Tryz.f19,by kernel_rfl,by kernel_rfl⟩
theorem Jm:Has Tryz.prog tP 7 [(2,none)] Q46:=⟨Tryz.f20,by kernel_rfl,by kernel_rfl⟩
theorem FH:Has Tryz.prog uS 22 [(6,none)] Q4A:=⟨Tryz.f21,by kernel_rfl,by kernel_rfl⟩
theorem FI:Has Tryz.prog q5 19 [(6,(some (true,5)))] Q4G:=⟨Tryz.f22,by kernel_rfl,by kernel_rfl⟩
theorem vy:Has Tryz.prog si 42 [(4,none)] Q59:=⟨Tryz.f24,by kernel_rfl,by kernel_rfl⟩
theorem FJ:Has Tryz.prog uT 31 [(4,none)] Q5D:=⟨Tryz.f25,by kernel_rfl,by kernel_rfl⟩
theorem wF:Has Tryz.prog l7 26 [(4,none)] Q66:=⟨Tryz.f28,by kernel_rfl,by kernel_rfl⟩
theorem wG:Has Tryz.prog jC 5 [(2,none)] Q6A:=⟨Tryz.f29,by kernel_rfl,by kernel_rfl⟩
theorem Jn:Has Tryz.prog ym 76 [(6,(some (true,2)))] Q7C:=⟨Tryz.f30,by kernel_rfl,by kernel_rfl⟩
theorem K4:Has Tryz.prog Ah 32 [(4,none)] Q80:=⟨Tryz.f33,by kernel_rfl,by kernel_rfl⟩
theorem K5:Has Tryz.prog sj 79 [(2,none)] Q9K:=⟨Tryz.f36,by kernel_rfl,by kernel_rfl⟩
end Go.Abs
