/-
  What is proved here: part 1 of the road to the claim (Frame, Frame2, Walk, Par, Par1, Par2, Par3, Step, Wp, Types, Mir, MirTree, Cnt, MirFlat, Nums, Codes0, Have0, Codes1, Have1).
  No conditions.
-/
import Derived.Test.YtpjadlleefgcpabGreatRnO0
import Derived.Attr
import Derived.Test.YtpjadlleefgcpabGreatProg
import Derived.KernelRfl

set_option linter.unusedSimpArgs false
set_option linter.unusedVariables false
namespace Go.Abs
def Tag.ok (m:Nat):Tag→Bool
 | .tok t _=>decide (t<m)
 |_=>true
def Tag.de (ts:List Nat):Tag→Tag
 | .tok t y=>match ts[t]? with|some t'=> .tok t' y|none=> .shared
 |g=>g
mutual
def D.ok (n m:Nat):D→Bool
 | .ptr o _=>decide (o<n)
 | .dO row _=>D.bI n m row
 | .slice g _ rows=>g.ok m && D.gY n m rows
 | .agg cs=>D.bI n m cs
 | .tuple ds=>D.bI n m ds
 | .fu _ o=>decide (o<n)
 | .gn _ cs=>D.bI n m cs
 | .fW o=>decide (o<n)
 | .eJ _ o _ _=>decide (o<n)
 | .fv o _ _=>decide (o<n)
 |_=>true
def D.bI (n m:Nat):List D→Bool
 | []=>true
 |d::r=>D.ok n m d && D.bI n m r
def D.gY (n m:Nat):List (List D)→Bool
 | []=>true
 |d::r=>D.bI n m d && D.gY n m r
end
mutual
def D.de (os ts:List Nat):D→D
 | .ptr o off=>match os[o]? with|some o'=> .ptr o' off|none=> .junk
 | .dO row off=> .dO (D.eW os ts row) off
 | .slice g z rows=> .slice (g.de ts) z (D.nW os ts rows)
 | .agg cs=> .agg (D.eW os ts cs)
 | .tuple ds=> .tuple (D.eW os ts ds)
 | .junk=> .junk
 | .int k x=> .int k x
 | .bool b=> .bool b
 | .str l=> .str l
 | .ew=> .ew
 | .val v=> .val v
 | .fu T o=>match os[o]? with|some o'=> .fu T o'|none=> .junk
 | .gn f cs=> .gn f (D.eW os ts cs)
 | .fW o=>match os[o]? with|some o'=> .fW o'|none=> .junk
 | .eJ z o g len=>match os[o]? with|some o'=> .eJ z o' g len|none=> .junk
 | .fv o g off=>match os[o]? with|some o'=> .fv o' g off|none=> .junk
 | .eH z=> .eH z
def D.eW (os ts:List Nat):List D→List D
 | []=> []
 |d::r=>D.de os ts d::D.eW os ts r
def D.nW (os ts:List Nat):List (List D)→List (List D)
 | []=> []
 |d::r=>D.eW os ts d::D.nW os ts r
end
theorem fQ (os ts:List Nat) : ∀ l,D.eW os ts l=l.map (D.de os ts)
 | []=>by simp[D.eW]
 |d::r=>by simp[D.eW,fQ os ts r]
theorem Cp (os ts:List Nat) : ∀ l,D.nW os ts l=l.map (D.eW os ts)
 | []=>by simp[D.nW]
 |d::r=>by simp[D.nW,Cp os ts r]
theorem yl (n m:Nat) : ∀ l,D.bI n m l=l.all (D.ok n m)
 | []=>by simp[D.bI]
 |d::r=>by simp[D.bI,yl n m r]
theorem EE (n m:Nat) : ∀ l,D.gY n m l=l.all (D.bI n m)
 | []=>by simp[D.gY]
 |d::r=>by simp[D.gY,EE n m r]
theorem vw {n m:Nat} {l:List D} (h:D.bI n m l=true) {i:Nat} {d:D} (e:l[i]? = some d):D.ok n m d=true:=by
 rw[yl]at h;exact List.all_eq_true.1 h d (List.mem_of_getElem? e)
theorem Z3 {n m:Nat} {l:List (List D)} (h:D.gY n m l=true) {i:Nat} {d:List D} (e:l[i]? = some d):D.bI n m d=true:=by
 rw[EE]at h;exact List.all_eq_true.1 h d (List.mem_of_getElem? e)
section
variable {M M0:Map} {s s0:St} {os ts:List Nat}
theorem iU.Cq (kW : ∀ (i:Nat) t,ts[i]? = some t→M0.be i=M.be t) (ht : ∀ (i t:Nat),ts[i]? = some t→s0.aw[i]? = s.aw[t]?) (hlen:s0.aw.length=ts.length) {g:Tag} {z len cap:Nat} {base:Option (Nat×Nat)} (pV:g.ok ts.length=true) (h:iU M s (g.de ts) z len base cap):iU M0 s0 g z len base cap:=by
 cases g with
 |full=>exact h
 |shared=>exact h
 |tok t y=>
  have hC:t<ts.length:=by simpa[Tag.ok]using pV
  have e:ts[t]? = some ts[t]:=List.getElem?_eq_getElem hC
  simp only[Tag.de,e]at h
  obtain⟨h1,h2⟩:=h
  refine⟨by omega,fun n hn=>?_⟩
  rw[ht t _ e]at hn
  rw[kW t _ e]
  exact h2 n hn
theorem RD.Cq (hG:M0.G=M.G) (jw : ∀ (i:Nat) o,os[i]? = some o→M0.loc i=M.loc o) (jX:s0.ah.length=os.length)
 (kW : ∀ (i:Nat) t,ts[i]? = some t→M0.be i=M.be t) (ht : ∀ (i t:Nat),ts[i]? = some t→s0.aw[i]? = s.aw[t]?) (hlen:s0.aw.length=ts.length) {d:D} {v:Value} (h:RD M s d v) :
 ∀ d0:D,d0.de os ts=d→d0.ok os.length ts.length=true→RD M0 s0 d0 v:=by
 have mX : ∀ (i:Nat) o,os[i]? = some o→M0.mu i=M.mu o:=fun i o h=>congrArg Prod.fst (jw i o h)
 have tag:=fun {g z len cap base}=>@iU.Cq M M0 s s0 ts kW ht hlen g z len cap base
 induction h with
 | junk v=>
  intro d0 e ok
  cases d0<;>simp only[D.de]at e<;>try (cases e;done)
  ·exact .junk v
  ·rename_i o off
   have hC:o<os.length:=by simpa[D.ok]using ok
   rw[List.getElem?_eq_getElem hC]at e;cases e
  ·rename_i T o
   have hC:o<os.length:=by simpa[D.ok]using ok
   rw[List.getElem?_eq_getElem hC]at e;cases e
  ·rename_i o
   have hC:o<os.length:=by simpa[D.ok]using ok
   rw[List.getElem?_eq_getElem hC]at e;cases e
  ·rename_i z o g len
   have hC:o<os.length:=by simpa[D.ok]using ok
   rw[List.getElem?_eq_getElem hC]at e;cases e
  ·rename_i o g off
   have hC:o<os.length:=by simpa[D.ok]using ok
   rw[List.getElem?_eq_getElem hC]at e;cases e
 |eH z a=>intro d0 e ok;cases d0<;>simp only[D.de]at e<;>first|(cases e;exact .eH _ _)|(split at e<;>cases e)|cases e
 |eJ z o g len b cap A ho hm ha hl=>
  intro d0 e ok
  cases d0<;>simp only[D.de]at e<;>first|(cases e;done)|skip
  all_goals try (split at e<;>cases e;done)
  rename_i z0 o0 g0 acV
  have hC:o0<os.length:=by simpa[D.ok]using ok
  rw[List.getElem?_eq_getElem hC]at e
  cases e
  exact RD.eJ (s:=s0) z o0 g len b cap A (by omega) ((congrArg Prod.snd (jw o0 _ (List.getElem?_eq_getElem hC))).trans hm) ha hl
 |fv z o g off b cap A ho hm ha=>
  intro d0 e ok
  cases d0<;>simp only[D.de]at e<;>first|(cases e;done)|skip
  all_goals try (split at e<;>cases e;done)
  rename_i o0 g0 Vn
  have hC:o0<os.length:=by simpa[D.ok]using ok
  rw[List.getElem?_eq_getElem hC]at e
  cases e
  exact RD.fv (s:=s0) z o0 g off b cap A (by omega) ((congrArg Prod.snd (jw o0 _ (List.getElem?_eq_getElem hC))).trans hm) ha
 |val v hv=>intro d0 e ok;cases d0<;>simp only[D.de]at e<;>first|(cases e;exact .val _ hv)|(split at e<;>cases e)|cases e
 |fu T o v ho ht hv=>
  intro d0 e ok
  cases d0<;>simp only[D.de]at e<;>first|(split at e<;>cases e;done)|skip
  all_goals try (cases e;done)
  rename_i T0 o0
  have hC:o0<os.length:=by simpa[D.ok]using ok
  rw[List.getElem?_eq_getElem hC]at e
  cases e
  have hl:=jw o0 _ (List.getElem?_eq_getElem hC)
  exact .fu _ o0 v (by omega) ((congrArg (fun x=>x.2.ty?) hl).trans ht) (by rw[mX o0 _ (List.getElem?_eq_getElem hC)];exact hv)
 |int k x=>intro d0 e ok;cases d0<;>simp only[D.de]at e<;>first|(cases e;exact .int _ _)|(split at e<;>cases e)|cases e
 |bool b=>intro d0 e ok;cases d0<;>simp only[D.de]at e<;>first|(cases e;exact .bool _)|(split at e<;>cases e)|cases e
 |str l=>intro d0 e ok;cases d0<;>simp only[D.de]at e<;>first|(cases e;exact .str _)|(split at e<;>cases e)|cases e
 |ew=>intro d0 e ok;cases d0<;>simp only[D.de]at e<;>first|(cases e;exact .ew)|(split at e<;>cases e)|cases e
 |fW o ho hm=>
  intro d0 e ok
  cases d0<;>simp only[D.de]at e<;>first|(cases e;done)|skip
  all_goals try (split at e<;>cases e;done)
  rename_i o0
  have hC:o0<os.length:=by simpa[D.ok]using ok
  rw[List.getElem?_eq_getElem hC]at e
  cases e
  rw[← mX o0 _ (List.getElem?_eq_getElem hC)]
  exact RD.fW (s:=s0) o0 (by omega) ((congrArg Prod.snd (jw o0 _ (List.getElem?_eq_getElem hC))).trans hm)
 |gn f ds vs hl _ ih=>
  intro d0 e ok
  cases d0<;>simp only[D.de]at e<;>first|(split at e<;>cases e;done)|skip
  all_goals try (cases e;done)
  rename_i f0 Sn
  simp only[D.gn.injEq]at e
  obtain⟨rfl,rfl⟩:=e
  simp only[D.ok]at ok
  rw[fQ]at hl ih
  refine .gn _ Sn vs (by simpa using hl) (fun i d v e1 e2=>ih i _ v (by rw[List.getElem?_map,e1];rfl) e2 d rfl (vw ok e1))
 |ptr o off ho hm=>
  intro d0 e ok
  cases d0<;>simp only[D.de]at e<;>first|(cases e;done)|skip
  all_goals try (split at e<;>cases e;done)
  rename_i o0 Vn
  have hC:o0<os.length:=by simpa[D.ok]using ok
  rw[List.getElem?_eq_getElem hC]at e
  cases e
  rw[← mX o0 _ (List.getElem?_eq_getElem hC)]
  exact RD.ptr (s:=s0) o0 _ (by omega) (by rw[show M0.ob o0=_ from congrArg Prod.snd (jw o0 _ (List.getElem?_eq_getElem hC))];exact hm)
 |dO row off b k h1 h2 ih=>
  intro d0 e ok
  cases d0<;>simp only[D.de]at e<;>first|(split at e<;>cases e;done)|skip
  all_goals try (cases e;done)
  rename_i aku Vn
  simp only[D.dO.injEq]at e
  obtain⟨rfl,rfl⟩:=e
  simp only[D.ok]at ok
  rw[fQ]at h1 ih
  refine .dO aku Vn b k (fun i d e=>?_) (fun i d u e eu=>?_)
  ·rw[hG];exact h1 i _ (by rw[List.getElem?_map,e];rfl)
  ·rw[hG]at eu;exact ih i _ u (by rw[List.getElem?_map,e];rfl) eu d rfl (vw ok e)
 |jv g z cap hc pW=>
  intro d0 e ok
  cases d0<;>simp only[D.de]at e<;>first|(split at e<;>cases e;done)|skip
  all_goals try (cases e;done)
  rename_i g0 z0 kA
  simp only[D.slice.injEq]at e
  obtain⟨rfl,rfl,e⟩:=e
  have:kA = []:=by cases kA<;>simp[D.nW]at e;rfl
  subst this
  simp only[D.ok,Bool.and_eq_true]at ok
  exact .jv g0 z0 cap hc (tag ok.1 pW)
 | mr z a cap=>
  intro d0 e ok
  cases d0<;>simp only[D.de]at e<;>first|(split at e<;>cases e;done)|skip
  all_goals try (cases e;done)
  rename_i g0 z0 kA
  simp only[D.slice.injEq]at e
  obtain⟨hg,rfl,e⟩:=e
  have:kA = []:=by cases kA<;>simp[D.nW]at e;rfl
  subst this
  simp only[D.ok,Bool.and_eq_true]at ok
  have:g0 = .shared:=by
   cases g0 with
   |tok t y=>
    have ht:t<ts.length:=by simpa[Tag.ok]using ok.1
    simp[Tag.de,ht]at hg
   |shared=>rfl
   |_=>simp[Tag.de]at hg
  subst this
  exact .mr _ a cap
 | slice g z rows b k cap hl hs h1 h2 pW ih=>
  intro d0 e ok
  cases d0<;>simp only[D.de]at e<;>first|(split at e<;>cases e;done)|skip
  all_goals try (cases e;done)
  rename_i g0 z0 kA
  simp only[D.slice.injEq]at e
  obtain⟨rfl,rfl,rfl⟩:=e
  simp only[D.ok,Bool.and_eq_true]at ok
  rw[Cp]at hl hs h1 ih pW
  simp only[Cp,List.length_map]at hl pW ⊢
  have eD : ∀ (i:Nat) (row:List D),kA[i]? = some row→(kA.map (D.eW os ts))[i]? = some (D.eW os ts row):=fun i row e=>by rw[List.getElem?_map,e];rfl
  have kM : ∀ (row:List D) (j:Nat) (d:D),row[j]? = some d→(D.eW os ts row)[j]? = some (D.de os ts d):=fun row j d e=>by rw[fQ,List.getElem?_map,e];rfl
  refine .slice g0 z0 kA b k cap hl (fun row hr=>?_) (fun i row j d e1 e2=>?_) (fun i row j d u e1 e2 eu=>?_) (tag ok.1 pW)
  ·have:=hs (D.eW os ts row) (List.mem_map.2 ⟨row,hr,rfl⟩)
   rwa [fQ,List.length_map]at this
  ·rw[hG];exact h1 i _ j _ (eD i row e1) (kM row j d e2)
  ·rw[hG]at eu;exact ih i _ j _ u (eD i row e1) (kM row j d e2) eu d rfl (vw (Z3 ok.2 e1) e2)
 |agg cells vs hl h1 _ ih=>
  intro d0 e ok
  cases d0<;>simp only[D.de]at e<;>first|(split at e<;>cases e;done)|skip
  all_goals try (cases e;done)
  rename_i Sn
  simp only[D.agg.injEq]at e
  subst e
  simp only[D.ok]at ok
  rw[fQ]at hl ih
  refine .agg Sn vs (by simpa using hl) h1 (fun i d v e1 e2=>ih i _ v (by rw[List.getElem?_map,e1];rfl) e2 d rfl (vw ok e1))
 |tuple ds vs hl _ ih=>
  intro d0 e ok
  cases d0<;>simp only[D.de]at e<;>first|(split at e<;>cases e;done)|skip
  all_goals try (cases e;done)
  rename_i Sn
  simp only[D.tuple.injEq]at e
  subst e
  simp only[D.ok]at ok
  rw[fQ]at hl ih
  refine .tuple Sn vs (by simpa using hl) (fun i d v e1 e2=>ih i _ v (by rw[List.getElem?_map,e1];rfl) e2 d rfl (vw ok e1))
theorem RD.de (hG:M0.G=M.G) (jw : ∀ i,i<s0.ah.length→∃ o,os[i]? = some o∧o<s.ah.length∧M.loc o=M0.loc i)
 (kW : ∀ i,i<s0.aw.length→∃ t,ts[i]? = some t∧t<s.aw.length∧s.aw[t]? = s0.aw[i]? ∧M.be t=M0.be i) {d:D} {v:Value} (h:RD M0 s0 d v):RD M s (d.de os ts) v:=by
 have tag : ∀ {g:Tag} {z len cap:Nat} {base:Option (Nat×Nat)},iU M0 s0 g z len base cap→iU M s (g.de ts) z len base cap:=by
  intro g z len cap base h
  cases g with
  |full=>exact h
  |shared=>exact h
  |tok t y=>
   obtain⟨h1,h2⟩:=h
   obtain⟨t',e,hC,JP,hb⟩:=kW t h1
   simp only[Tag.de,e]
   refine⟨hC,fun n hn=>?_⟩
   rw[hb]
   exact h2 n (JP ▸ hn)
 induction h with
 |junk v=>simp only[D.de];exact .junk v
 |int k x=>simp only[D.de];exact .int k x
 |bool b=>simp only[D.de];exact .bool b
 |str l=>simp only[D.de];exact .str l
 |ew=>simp only[D.de];exact .ew
 |ptr o off ho hk=>
  obtain⟨o',e,hC,hm⟩:=jw o ho
  simp only[D.de,e]
  have hb:M.ob o'=M0.ob o:=congrArg Prod.snd hm
  have hm:M.mu o'=M0.mu o:=congrArg Prod.fst hm
  rw[← hm]
  exact .ptr o' off hC (by rw[hb];exact hk)
 |fW o ho hk=>
  obtain⟨o',e,hC,hm⟩:=jw o ho
  simp only[D.de,e]
  have hb:M.ob o'=M0.ob o:=congrArg Prod.snd hm
  have hm:M.mu o'=M0.mu o:=congrArg Prod.fst hm
  rw[← hm]
  exact .fW o' hC (by rw[hb];exact hk)
 |eH z a=>simp only[D.de];exact .eH z a
 |eJ z o g len b cap A ho hk ha hl=>
  obtain⟨o',e,hC,hm⟩:=jw o ho
  simp only[D.de,e]
  exact .eJ z o' g len b cap A hC ((congrArg Prod.snd hm).trans hk) ha hl
 |fv z o g off b cap A ho hk ha=>
  obtain⟨o',e,hC,hm⟩:=jw o ho
  simp only[D.de,e]
  exact .fv z o' g off b cap A hC ((congrArg Prod.snd hm).trans hk) ha
 |gn f ds vs hl _ ih=>
  simp only[D.de,fQ]
  refine .gn f _ vs (by simpa using hl) (fun i d v e1 e2=>?_)
  simp only[List.getElem?_map,Option.map_eq_some_iff]at e1
  obtain⟨d',e1,rfl⟩:=e1
  exact ih i d' v e1 e2
 |val v hv=>simp only[D.de];exact .val v hv
 |fu T o v ho ht hv=>
  obtain⟨o',e,hC,hm⟩:=jw o ho
  simp only[D.de,e]
  have h1:M.mu o'=M0.mu o:=congrArg Prod.fst hm
  have h2:M.ty o'=M0.ty o:=congrArg (fun x=>x.2.ty?) hm
  exact .fu T o' v hC (by rw[h2];exact ht) (by rw[h1];exact hv)
 | dO row off b k h1 h2 ih=>
  simp only[D.de,fQ]
  refine .dO _ off b k (fun i d e=>?_) (fun i d u e eu=>?_)
  ·simp only [List.getElem?_map,Option.map_eq_some_iff]at e
   obtain⟨d',e,rfl⟩:=e
   rw[← hG];exact h1 i d' e
  ·simp only [List.getElem?_map,Option.map_eq_some_iff]at e
   obtain⟨d',e,rfl⟩:=e
   rw[← hG]at eu;exact ih i d' u e eu
 |jv g z cap hc ht=>simp only[D.de,D.nW];exact .jv _ z cap hc (tag ht)
 |mr z a cap=>simp only[D.de,D.nW,Tag.de];exact .mr z a cap
 | slice g z rows b k cap hl hs h1 h2 ht ih=>
  simp only[D.de,Cp]
  have hlen:(rows.map (D.eW os ts)).length=rows.length:=by simp
  have key:=RD.slice (M:=M) (s:=s) (g.de ts) z (rows.map (D.eW os ts)) b k cap (by rw[hlen];exact hl) (fun row hr=>by
   obtain⟨jy,h',rfl⟩:=List.mem_map.1 hr
   rw[fQ,List.length_map];exact hs jy h')
   (fun i row j d e1 e2=>by
    simp only[List.getElem?_map,Option.map_eq_some_iff]at e1
    obtain⟨jy,e1,rfl⟩:=e1
    rw[fQ]at e2
    simp only[List.getElem?_map,Option.map_eq_some_iff]at e2
    obtain⟨d',e2,rfl⟩:=e2
    rw[← hG];exact h1 i jy j d' e1 e2)
   (fun i row j d u e1 e2 eu=>by
    simp only[List.getElem?_map,Option.map_eq_some_iff]at e1
    obtain⟨jy,e1,rfl⟩:=e1
    rw[fQ]at e2
    simp only[List.getElem?_map,Option.map_eq_some_iff]at e2
    obtain⟨d',e2,rfl⟩:=e2
    rw[← hG]at eu;exact ih i jy j d' u e1 e2 eu)
   (by rw[hlen];exact tag ht)
  rw[hlen]at key
  exact key
 |agg cells vs hl h1 _ ih=>
  simp only[D.de,fQ]
  refine .agg _ vs (by simpa using hl) h1 (fun i d v e1 e2=>?_)
  simp only[List.getElem?_map,Option.map_eq_some_iff]at e1
  obtain⟨d',e1,rfl⟩:=e1
  exact ih i d' v e1 e2
 |tuple ds vs hl _ ih=>
  simp only[D.de,fQ]
  refine .tuple _ vs (by simpa using hl) (fun i d v e1 e2=>?_)
  simp only[List.getElem?_map,Option.map_eq_some_iff]at e1
  obtain⟨d',e1,rfl⟩:=e1
  exact ih i d' v e1 e2
def kG {α:Type} : List Nat→List α→List α→List α
 | [],new,l=>l++new
 |_::_,[],l=>l
 |o::os,x::xs,l=>kG os xs (l.set o x)
def ko (os:List Nat) (n k:Nat):List Nat:=os++(List.range k).map (n + ·)
theorem xn {α:Type} : ∀ (os:List Nat) (xs l:List α),os.length≤xs.length→(kG os xs l).length=l.length+(xs.length - os.length)
 | [],xs,l,_=>by simp[kG]
 |o::os,[],l,h=>by simp at h
 |o::os,x::xs,l,h=>by
  simp only[kG]
  rw[xn os xs _ (by simpa using h)]
  simp
theorem DP {α:Type} : ∀ (os:List Nat) (xs l:List α),os.length≤xs.length→os.Nodup→(∀ o∈os,o<l.length)→
 (∀ (i:Nat) (o:Nat),os[i]? = some o→(kG os xs l)[o]? = xs[i]?)∧(∀ o,o<l.length→o∉os→(kG os xs l)[o]? = l[o]?)∧
 (∀ k,(kG os xs l)[l.length+k]? = xs[os.length+k]?)
 | [],xs,l,_,_,_=>by
  refine⟨by simp,fun o ho _=>by simp only[kG];rw[List.getElem?_append_left ho],fun k=>by simp only[kG];rw[List.getElem?_append_right (by omega)];simp⟩
 |o::os,[],l,h,_,_=>by simp at h
 | o::os,x::xs,l,h,hn,hC=>by
  simp only[List.nodup_cons]at hn
  have Am : ∀ q∈os,q<(l.set o x).length:=fun q hq=>by simpa using hC q (by simp[hq])
  obtain⟨h1,h2,h3⟩:=DP os xs (l.set o x) (by simpa using h) hn.2 Am
  have ho:o<l.length:=hC o (by simp)
  simp only[kG]
  refine⟨fun i q e=>?_,fun q hq Bo=>?_,fun k=>?_⟩
  ·cases i with
   |zero=>
    simp only[List.getElem?_cons_zero,Option.some.injEq]at e
    subst e
    rw[h2 o (by simpa using ho) hn.1]
    simp[ho]
   |succ i=>simpa using h1 i q (by simpa using e)
  ·have vt:q≠o:=fun e=>Bo (by simp [e])
   rw[h2 q (by simpa using hq) (fun h=>Bo (by simp[h])),List.getElem?_set_ne (Ne.symm vt)]
  ·have:=h3 k
   simp only[List.length_set]at this
   rw[this]
   simp only[List.length_cons]
   rw[show os.length+1+k=(os.length+k)+1 by omega];simp
theorem Dn (os:List Nat) (n k i:Nat):(ko os n k)[i]? = if i<os.length then os[i]? else if i<os.length+k then some (n+(i - os.length))else none:=by
 unfold ko
 split
 ·rename_i h;rw[List.getElem?_append_left h]
 ·rename_i h
  rw[List.getElem?_append_right (by omega)]
  split
  ·rename_i h2
   rw[List.getElem?_map,List.getElem?_range (by omega)];rfl
  ·rename_i h2
   rw[List.getElem?_eq_none]
   simp;omega
def posOf:List Nat→Nat→Option Nat
 | [],_=>none
 |x::r,o=>if x=o then some 0 else(posOf r o).map (· + 1)
theorem iV : ∀ {l:List Nat} {o i:Nat},posOf l o=some i→l[i]? = some o
 | x::r,o,i,h=>by
  simp only[posOf]at h
  split at h
  ·rename_i e;cases h;simp[e]
  ·cases hp:posOf r o with
   |none=>rw[hp]at h;cases h
   |some j=>rw[hp]at h;cases h;simpa using iV hp
theorem me : ∀ {l:List Nat} {o i:Nat},l.Nodup→l[i]? = some o→posOf l o=some i
 | x::r,o,i,hn,h=>by
  simp only[List.nodup_cons]at hn
  simp only[posOf]
  cases i with
  |zero=>simp at h;simp[h]
  |succ i=>
   simp at h
   have:x≠o:=fun e=>hn.1 (by rw[e];exact List.mem_of_getElem? h)
   rw[if_neg this,me hn.2 h];rfl
end
end Go.Abs
namespace Go.Abs
theorem An {l:List Nat} {n k:Nat} (h:l.Nodup) (hl : ∀ o∈l,o<n):(ko l n k).Nodup:=by
 unfold ko
 rw[List.nodup_append]
 refine⟨h, ?_,fun a ha b hb=>?_⟩
 ·rw [List.nodup_iff_pairwise_ne,List.pairwise_map]
  exact List.Pairwise.imp (fun h=>by omega) (List.nodup_iff_pairwise_ne.1 List.nodup_range)
 ·obtain⟨c,hc,rfl⟩:=List.mem_map.1 hb
  have:=hl a ha
  omega
def gP (M:Map) (os ts:List Nat):Map:=⟨M.G,fun i=>M.loc (os.getD i 0),fun i=>M.be (ts.getD i 0)⟩
def ym (M M0:Map) (os ts:List Nat):Map:=
 ⟨M0.G,fun o=>match posOf os o with|some i=>M0.loc i|none=>M.loc o,fun t=>match posOf ts t with|some i=>M0.be i|none=>M.be t⟩
section
variable {P:Program} {M:Map} {s s0:St} {w:World} {os ts:List Nat}
theorem vf {l:List Nat} {i o:Nat} (h:l[i]? = some o):l.getD i 0=o:=by simp[List.getD,h]
theorem Rel.sub (r:Rel M s w) (uE:os.Nodup) (vx:ts.Nodup) (jX : ∀ o∈os,o<s.ah.length)
 (ho:s0.ah.length=os.length) (xo : ∀ (i o:Nat) (ds:List D),os[i]? = some o→s0.ah[i]? = some ds→s.ah[o]? = some (D.eW os ts ds)∧D.bI os.length ts.length ds=true)
 (ht:s0.aw.length=ts.length) (tW : ∀ (i t:Nat),ts[i]? = some t→s0.aw[i]? = s.aw[t]?):Rel (gP M os ts) s0 w:=by
 have nth : ∀ i,i<s0.ah.length→∃ o,os[i]? = some o∧o<s.ah.length:=fun i hi=>⟨os[i],List.getElem?_eq_getElem (by omega),jX _ (List.getElem_mem _)⟩
 have loc : ∀ (i:Nat) o,os[i]? = some o→(gP M os ts).loc i=M.loc o:=fun i o h=>by simp only[gP,vf h]
 have mu : ∀ (i:Nat) o,os[i]? = some o→(gP M os ts).mu i=M.mu o:=fun i o h=>congrArg Prod.fst (loc i o h)
 have be : ∀ (i:Nat) t,ts[i]? = some t→(gP M os ts).be i=M.be t:=fun i t h=>by simp only[gP,vf h]
 have Ys : ∀ t,s0.live t→∃ t',ts[t]? = some t'∧s.live t':=fun t ⟨n,hn⟩=>by
  have hC:=(List.getElem?_eq_some_iff.1 hn).1
  have e:ts[t]? = some ts[t]:=List.getElem?_eq_getElem (by omega)
  exact⟨_,e,n,by rw[← tW t _ e];exact hn⟩
 refine⟨r.comm,fun i ds e=>?_,fun i hi off=>?_,fun i i' hi ig e=>?_,fun t n e=>?_,fun t b c z i hl e hi=>?_,fun t t' b c z c' z' h h' e e'=>?_⟩
 ·obtain⟨o,h1,_⟩:=nth i (List.getElem?_eq_some_iff.1 e).1
  obtain⟨h2,h3⟩:=xo i o ds h1 e
  obtain⟨vs,T,g1,g2,g3,g4⟩:=r.obj o _ h2
  refine⟨vs,T,by rw[loc i o h1];exact g1,by rw[fQ]at g2;simpa using g2,⟨g3.1,by rw[show(gP M os ts).ty i=M.ty o from congrArg (fun x=>x.2.ty?) (loc i o h1)];exact g3.2⟩,fun j d v e1 e2=>?_⟩
  exact RD.Cq (M:=M) (M0:=gP M os ts) (s:=s) rfl loc ho be tW ht (g4 j (d.de os ts) v (by rw[fQ,List.getElem?_map,e1];rfl) e2) d rfl (vw h3 e1)
 ·obtain⟨o,h1,h2⟩:=nth i hi
  rw[mu i o h1];exact r.jZ o h2 off
 ·obtain⟨o,h1,h2⟩:=nth i hi
  obtain⟨o',si,uF⟩:=nth i' ig
  rw[mu i o h1,mu i' o' si]at e
  have:=r.inj o o' h2 uF e
  subst this
  have a:=me uE h1
  have b:=me uE si
  rw[a]at b;cases b;rfl
 ·obtain⟨t',h1,h2⟩:=Ys t ⟨n,e⟩
  rw[be t t' h1]
  exact r.tok t' n (by rw[← tW t t' h1];exact e)
 ·obtain⟨t',h1,h2⟩:=Ys t hl
  obtain⟨o,h3,h4⟩:=nth i hi
  rw[be t t' h1]at e
  rw[mu i o h3]
  exact r.fh t' b c z o h2 e h4
 ·obtain⟨q,h1,h2⟩:=Ys t h
  obtain⟨q',si,uF⟩:=Ys t' h'
  rw[be t q h1]at e
  rw[be t' q' si]at e'
  have:=r.fX q q' b c z c' z' h2 uF e e'
  subst this
  have a:=me vx h1
  have b:=me vx si
  rw[a]at b;cases b;rfl
end
def St.back (s:St) (os ts:List Nat) (s':St):St:=
 ⟨kG os (s'.ah.map (D.eW (ko os s.ah.length (s'.ah.length - os.length)) (ko ts s.aw.length (s'.aw.length - ts.length)))) s.ah,kG ts s'.aw s.aw⟩
def D.back (s:St) (os ts:List Nat) (s':St) (d:D):D:=
 d.de (ko os s.ah.length (s'.ah.length - os.length)) (ko ts s.aw.length (s'.aw.length - ts.length))
theorem bL.frame {P:Program} {f:FuncId} {OP args:List D} {s s0:St} {Q0 Q:D→St→Prop} (os ts:List Nat) (h:bL P f OP s0 Q0) (uE:os.Nodup) (vx:ts.Nodup) (jX : ∀ o∈os,o<s.ah.length) (x8 : ∀ t∈ts,t<s.aw.length)
 (ho:s0.ah.length=os.length) (xo : ∀ (i o:Nat) (ds:List D),os[i]? = some o→s0.ah[i]? = some ds→s.ah[o]? = some (D.eW os ts ds)∧D.bI os.length ts.length ds=true)
 (ht:s0.aw.length=ts.length) (tW : ∀ (i t:Nat),ts[i]? = some t→s0.aw[i]? = s.aw[t]?)
 (zo:args=D.eW os ts OP) (pV:D.bI os.length ts.length OP=true) (k : ∀ d s',Q0 d s'→Q (d.back s os ts s') (s.back os ts s')):bL P f args s Q:=by
 intro M w fL r kQ ej ha
 have r0:=r.sub uE vx jX ho xo ht tW
 have loc : ∀ (i:Nat) o,os[i]? = some o→(gP M os ts).loc i=M.loc o:=fun i o h=>by simp only[gP,vf h]
 have mu : ∀ (i:Nat) o,os[i]? = some o→(gP M os ts).mu i=M.mu o:=fun i o h=>congrArg Prod.fst (loc i o h)
 have be : ∀ (i:Nat) t,ts[i]? = some t→(gP M os ts).be i=M.be t:=fun i t h=>by simp only[gP,vf h]
 subst zo
 have acW:Laid (gP M os ts) s0 w:=by
  intro g cs hg
  obtain⟨h1,h2,h3⟩:=kQ g cs hg
  refine⟨h1,fun o hC=>?_,fun t c z hl hb=>?_⟩
  ·obtain⟨o',nL⟩ : ∃ o',os[o]? = some o':=⟨_,List.getElem?_eq_getElem (by omega)⟩
   rw[mu o o' nL]
   exact h2 o' (jX o' (List.mem_of_getElem? nL))
  ·obtain⟨n,hn⟩:=hl
   have hC:=(List.getElem?_eq_some_iff.1 hn).1
   obtain⟨t',Sp⟩ : ∃ t',ts[t]? = some t':=⟨_,List.getElem?_eq_getElem (by omega)⟩
   rw[be t t' Sp]at hb
   exact h3 t' c z ⟨n,by rw[← tW t t' Sp];exact hn⟩ hb
 have hc:=h (gP M os ts) w fL r0 acW (by rw[ej,fQ,List.length_map]) (fun i d v e1 e2=>
  RD.Cq (M:=M) (M0:=gP M os ts) (s:=s) rfl loc ho be tW ht (ha i (d.de os ts) v (by rw[fQ,List.getElem?_map,e1];rfl) e2) d rfl (vw pV e1))
 refine hc.mono ?_
 rintro en w' ⟨yn,d,v,s',rfl,hq,e,r',hv⟩
 have JU:=e.le.n
 have Et:=e.le.t
 generalize OQ:ko os s.ah.length (s'.ah.length - os.length)=lQ
 generalize OR:ko ts s.aw.length (s'.aw.length - ts.length)=pb
 have nd:lQ.Nodup:=by rw[← OQ];exact An uE jX
 have ndt:pb.Nodup:=by rw[← OR];exact An vx x8
 have OS : ∀ i,lQ[i]? = if i<os.length then os[i]? else if i<s'.ah.length then some (s.ah.length+(i - os.length))else none:=fun i=>by
  rw[← OQ,Dn];split
  ·rfl
  ·rw[show os.length+(s'.ah.length - os.length)=s'.ah.length by omega]
 have OT : ∀ i,pb[i]? = if i<ts.length then ts[i]? else if i<s'.aw.length then some (s.aw.length+(i - ts.length))else none:=fun i=>by
  rw[← OR,Dn];split
  ·rfl
  ·rw[show ts.length+(s'.aw.length - ts.length)=s'.aw.length by omega]
 have hsb:s.back os ts s' = ⟨kG os (s'.ah.map (D.eW lQ pb)) s.ah,kG ts s'.aw s.aw⟩:=by simp only[St.back,OQ,OR]
 have hdb:d.back s os ts s'=d.de lQ pb:=by simp only[D.back,OQ,OR]
 have mJ:=k d s' hq
 rw[hsb,hdb]at mJ
 obtain⟨p1,p2,p3⟩:=DP os (s'.ah.map (D.eW lQ pb)) s.ah (by simp;omega) uE jX
 obtain⟨q1,q2,q3⟩:=DP ts s'.aw s.aw (by omega) vx x8
 have J0:=xn os (s'.ah.map (D.eW lQ pb)) s.ah (by simp;omega)
 have J1:=xn ts s'.aw s.aw (by omega)
 simp only[List.length_map]at J0
 generalize Aj:(⟨kG os (s'.ah.map (D.eW lQ pb)) s.ah,kG ts s'.aw s.aw⟩:St)=s2 at mJ
 have so:s2.ah=kG os (s'.ah.map (D.eW lQ pb)) s.ah:=by rw[← Aj]
 have st:s2.aw=kG ts s'.aw s.aw:=by rw[← Aj]
 -- the framed objects
 have fo : ∀ (i o:Nat),lQ[i]? = some o→o<s2.ah.length∧s2.ah[o]? = (s'.ah[i]?).map (D.eW lQ pb)∧i<s'.ah.length∧(i<os.length→o<s.ah.length∧os[i]? = some o)∧(os.length≤i→s.ah.length≤o):=by
  intro i o hi
  rw[OS]at hi
  split at hi
  ·rename_i h1
   have hC:=jX o (List.mem_of_getElem? hi)
   refine⟨by rw[so,J0];omega,by rw[so,p1 i o hi,List.getElem?_map],by omega,fun _=>⟨hC,hi⟩,fun h=>by omega⟩
  ·split at hi
   ·rename_i h1 h2
    cases hi
    refine⟨by rw[so,J0];omega, ?_,h2,fun h=>by omega,fun _=>by omega⟩
    rw[so,p3,List.getElem?_map,show os.length+(i - os.length)=i by omega]
   ·cases hi
 have ft : ∀ (i t:Nat),pb[i]? = some t→t<s2.aw.length∧s2.aw[t]? = s'.aw[i]? ∧i<s'.aw.length∧(i<ts.length→t<s.aw.length∧ts[i]? = some t)∧(ts.length≤i→s.aw.length≤t):=by
  intro i t hi
  rw[OT]at hi
  split at hi
  ·rename_i h1
   have hC:=x8 t (List.mem_of_getElem? hi)
   refine⟨by rw[st,J1];omega,by rw[st,q1 i t hi],by omega,fun _=>⟨hC,hi⟩,fun h=>by omega⟩
  ·split at hi
   ·rename_i h1 h2
    cases hi
    refine⟨by rw[st,J1];omega, ?_,h2,fun h=>by omega,fun _=>by omega⟩
    rw[st,q3,show ts.length+(i - ts.length)=i by omega]
   ·cases hi
 -- all others
 have uo : ∀ o,o<s2.ah.length→posOf lQ o=none→o<s.ah.length∧o∉os∧s2.ah[o]? = s.ah[o]? :=by
  intro o hC hp
  have nX : ∀ i,lQ[i]? ≠some o:=fun i hi=>by rw[me nd hi]at hp;cases hp
  have h1:o<s.ah.length:=by
   rcases Nat.lt_or_ge o s.ah.length with h|h
   ·exact h
   ·exfalso
    rw[so,J0]at hC
    refine nX (os.length+(o - s.ah.length)) ?_
    rw[OS,if_neg (by omega),if_pos (by omega)]
    congr 1;omega
  have h2:o∉os:=fun hm=>by
   obtain⟨i,hi⟩:=List.mem_iff_getElem?.1 hm
   have qZ:=(List.getElem?_eq_some_iff.1 hi).1
   exact nX i (by rw[OS,if_pos qZ];exact hi)
  exact⟨h1,h2,by rw[so,p2 o h1 h2]⟩
 have ut : ∀ t,t<s2.aw.length→posOf pb t=none→t<s.aw.length∧t∉ts∧s2.aw[t]? = s.aw[t]? :=by
  intro t hC hp
  have nX : ∀ i,pb[i]? ≠some t:=fun i hi=>by rw[me ndt hi]at hp;cases hp
  have h1:t<s.aw.length:=by
   rcases Nat.lt_or_ge t s.aw.length with h|h
   ·exact h
   ·exfalso
    rw[st,J1]at hC
    refine nX (ts.length+(t - s.aw.length)) ?_
    rw[OT,if_neg (by omega),if_pos (by omega)]
    congr 1;omega
  have h2:t∉ts:=fun hm=>by
   obtain⟨i,hi⟩:=List.mem_iff_getElem?.1 hm
   have qZ:=(List.getElem?_eq_some_iff.1 hi).1
   exact nX i (by rw[OT,if_pos qZ];exact hi)
  exact⟨h1,h2,by rw[st,q2 t h1 h2]⟩
 generalize Sr:ym M yn lQ pb=M2
 have mG:yn.G=M2.G:=by rw[← Sr];rfl
 have lo : ∀ (i o:Nat),lQ[i]? = some o→M2.loc o=yn.loc i:=fun i o hi=>by rw[← Sr];simp only[ym,me nd hi]
 have Yt : ∀ o,posOf lQ o=none→M2.loc o=M.loc o:=fun o hp=>by rw[← Sr];simp only[ym,hp]
 have mo : ∀ (i o:Nat),lQ[i]? = some o→M2.mu o=yn.mu i:=fun i o hi=>congrArg Prod.fst (lo i o hi)
 have J2 : ∀ o,posOf lQ o=none→M2.mu o=M.mu o:=fun o hp=>congrArg Prod.fst (Yt o hp)
 have mt : ∀ (i t:Nat),pb[i]? = some t→M2.be t=yn.be i:=fun i t hi=>by rw[← Sr];simp only[ym,me ndt hi]
 have J3 : ∀ t,posOf pb t=none→M2.be t=M.be t:=fun t hp=>by rw[← Sr];simp only[ym,hp]
 have le:Le M s M2 s2:=by
  refine⟨fun b o v hg=>by rw[← mG];exact e.le.G b o v hg,by rw[so,J0];omega,fun o hC=>?_,by rw[st,J1];omega,fun t n' hC nc=>?_⟩
  ·cases hp:posOf lQ o with
   |none=>rw[Yt o hp];exact .refl _
   | some i=>
    have hi:=iV hp
    rw[lo i o hi]
    obtain⟨_,_,_,h1,h2⟩:=fo i o hi
    have qZ:i<os.length:=by
     rcases Nat.lt_or_ge i os.length with h|h
     ·exact h
     ·have:=h2 h;omega
    have h3:=e.le.loc i (by omega)
    rw[loc i o (h1 qZ).2]at h3
    exact h3
  ·cases hp:posOf pb t with
   |none=>
    obtain⟨_,_,h3⟩:=ut t (by rw[st,J1];omega) hp
    rw[h3]at nc
    exact⟨n',nc,Nat.le_refl _,fun _=>J3 t hp⟩
   | some i=>
    have hi:=iV hp
    obtain⟨_,g1,_,h1,h2⟩:=ft i t hi
    have qZ:i<ts.length:=by
     rcases Nat.lt_or_ge i ts.length with h|h
     ·exact h
     ·have:=h2 h;omega
    rw[g1]at nc
    obtain⟨n,h3,h4,h5⟩:=e.le.tk i n' (by omega) nc
    refine⟨n,by rw[← tW i t (h1 qZ).2];exact h3,h4,fun eq=>?_⟩
    rw[mt i t hi,h5 eq,be i t (h1 qZ).2]
 have acX : ∀ {d:D} {v:Value},RD yn s' d v→RD M2 s2 (d.de lQ pb) v:=fun hd=>RD.de mG
  (fun i hi=>by
   obtain⟨o,ho⟩ : ∃ o,lQ[i]? = some o:=by
    rw[OS];split
    ·rename_i h1;exact⟨_,List.getElem?_eq_getElem h1⟩
    ·exact⟨_,rfl⟩
   exact⟨o,ho,(fo i o ho).1,lo i o ho⟩)
  (fun i hi=>by
   obtain⟨t,ht⟩ : ∃ t,pb[i]? = some t:=by
    rw[OT];split
    ·rename_i h1;exact⟨_,List.getElem?_eq_getElem h1⟩
    ·exact⟨_,rfl⟩
   exact⟨t,ht,(ft i t ht).1,(ft i t ht).2.1,mt i t ht⟩) hd
 -- blocks that the callee did not know
 have IP : ∀ i,s0.live i→∃ t,ts[i]? = some t∧s.live t:=fun i ⟨n,hn⟩=>by
  have hC:=(List.getElem?_eq_some_iff.1 hn).1
  have e1:ts[i]? = some ts[i]:=List.getElem?_eq_getElem (by omega)
  exact⟨_,e1,n,by rw[← tW i _ e1];exact hn⟩
 have OU : ∀ b,b<w.heap.size→(∀ (i o:Nat),os[i]? = some o→M.mu o≠b)→(∀ (i t:Nat) c z,ts[i]? = some t→s.live t→M.be t≠some (b,c,z))→
  w'.heap[b]? = w.heap[b]? ∧∀ off,yn.G b off=M.G b off:=by
  intro b hb h1 h2
  refine⟨e.kept b hb (fun i hi=>?_) (fun i c z hl=>?_),fun off=>?_⟩
  ·have e1:os[i]? = some os[i]:=List.getElem?_eq_getElem (by omega)
   rw[mu i _ e1];exact h1 i _ e1
  ·obtain⟨t,e1,hC⟩:=IP i hl
   rw[be i t e1];exact h2 i t c z e1 hC
  ·apply Classical.byContradiction
   intro fl
   rcases e.sj b off fl with h3|⟨i,c,z,hl,h3⟩
   ·omega
   ·obtain⟨t,e1,hC⟩:=IP i hl
    rw[be i t e1]at h3
    exact h2 i t c z e1 hC h3
 have Yu : ∀ o,o<s.ah.length→o∉os→w'.heap[M.mu o]? = w.heap[M.mu o]? ∧∀ off,yn.G (M.mu o) off=M.G (M.mu o) off:=fun o hC nX=>
  OU _ (r.qw hC) (fun i o' h1 h2=>nX (by rw[← r.inj o' o (jX o' (List.mem_of_getElem? h1)) hC h2];exact List.mem_of_getElem? h1))
   (fun i t c z _ hl h2=>r.fh t _ c z o hl h2 hC rfl)
 have agU : ∀ t b c z,s.live t→t∉ts→M.be t=some (b,c,z)→w'.heap[b]? = w.heap[b]? ∧∀ off,yn.G b off=M.G b off:=fun t b c z hl nX hb=>
  OU b (r.sM hl hb) (fun i o h1=>r.fh t b c z o hl hb (jX o (List.mem_of_getElem? h1)))
   (fun i t' c' z' h1 mK h2=>nX (by rw[r.fX t t' b c z c' z' hl mK hb h2];exact List.mem_of_getElem? h1))
 have lv : ∀ t,s2.live t→(∃ i,pb[i]? = some t∧s'.live i)∨(posOf pb t=none∧s.live t∧t∉ts):=by
  rintro t ⟨n,hn⟩
  cases hp:posOf pb t with
  |none=>
   obtain⟨h1,h2,h3⟩:=ut t (List.getElem?_eq_some_iff.1 hn).1 hp
   exact .inr ⟨rfl,⟨n,by rw[← h3];exact hn⟩,h2⟩
  |some i=>
   have hi:=iV hp
   exact .inl ⟨i,hi,n,by rw[← (ft i t hi).2.1];exact hn⟩
 -- where a framed object lies
 have Yv : ∀ (i o:Nat),lQ[i]? = some o→(o<s.ah.length∧o∈os∧yn.mu i=M.mu o)∨w.heap.size≤yn.mu i:=by
  intro i o hi
  obtain⟨_,_,h1,h2,h3⟩:=fo i o hi
  rcases e.mo h1 with ⟨h4,h5⟩|h4
  ·have h:i<os.length:=by omega
   exact .inl ⟨(h2 h).1,List.mem_of_getElem? (h2 h).2,by rw[h5,mu i o (h2 h).2]⟩
  ·exact .inr h4
 have Yw : ∀ (i t b c z:Nat),pb[i]? = some t→s'.live i→yn.be i=some (b,c,z)→(s.live t∧t∈ts∧∃ c' z',M.be t=some (b,c',z'))∨w.heap.size≤b:=by
  intro i t b c z hi hl hb
  rcases e.qG i b c z hl hb with ⟨h1,c',z',h2⟩|h1
  ·obtain⟨t',e1,hC⟩:=IP i h1
   have qZ:=(List.getElem?_eq_some_iff.1 e1).1
   obtain⟨_,_,_,h3,_⟩:=ft i t hi
   have:=(h3 qZ).2
   rw[e1]at this;cases this
   rw[be i _ e1]at h2
   exact .inl ⟨hC,List.mem_of_getElem? e1,c',z',h2⟩
  ·exact .inr h1
 refine⟨M2,d.de lQ pb,v,s2,rfl,mJ, ?_, ?_,acX hv⟩
 ·-- Ext
  refine⟨le,fun b hb h1 h2=>?_,fun o h1 h2=>?_,fun t b c z hl hb=>?_,fun b off fl=>?_,e.size,e.os,e.tape,e.output⟩
  ·exact(OU b hb (fun i o h3=>h1 o (jX o (List.mem_of_getElem? h3))) (fun i t c z _ hl=>h2 t c z hl)).1
  ·cases hp:posOf lQ o with
   |none=>
    have:=(uo o h2 hp).1
    rcases h1 with h1|h1
    ·omega
    ·exact(h1 (J2 o hp)).elim
   | some i=>
    have hi:=iV hp
    rw[mo i o hi]at h1 ⊢
    rcases Yv i o hi with ⟨h3,_,h5⟩|h3
    ·rcases h1 with h1 | h1
     ·omega
     ·exact(h1 h5).elim
    ·exact h3
  ·rcases lv t hl with ⟨i,hi,mK⟩ | ⟨hp,mK,_⟩
   ·rw [mt i t hi]at hb
    rcases Yw i t b c z hi mK hb with ⟨h1,_,h2⟩|h1
    ·exact .inl ⟨h1,h2⟩
    ·exact .inr h1
   ·rw [J3 t hp]at hb
    exact .inl ⟨mK,c,z,hb⟩
  ·rw [← mG]at fl
   rcases e.sj b off fl with h1|⟨i,c,z,hl,hb⟩
   ·exact .inl h1
   ·obtain⟨t,e1,hC⟩:=IP i hl
    rw[be i t e1]at hb
    exact .inr ⟨t,c,z,hC,hb⟩
 ·-- Rel
  refine⟨fun b o v hg=>r'.comm b o v (by rw[mG];exact hg),fun o ds Bi=>?_,fun o hC off=>?_,fun o o' hC Am heq=>?_,fun t n hn=>?_,fun t b c z o hl hb hC=>?_,fun t t' b c z c' z' hl mK hb sg=>?_⟩
  ·cases hp:posOf lQ o with
   |some i=>
    have hi:=iV hp
    obtain⟨_,g1,_⟩:=fo i o hi
    rw[g1]at Bi
    obtain⟨tn,h1,rfl⟩:=Option.map_eq_some_iff.1 Bi
    obtain⟨vs,T,h2,h3,h4,h5⟩:=r'.obj i tn h1
    refine⟨vs,T,by rw[lo i o hi];exact h2,by rw[fQ];simpa using h3,⟨h4.1,by rw[show M2.ty o=yn.ty i from congrArg (fun x=>x.2.ty?) (lo i o hi)];exact h4.2⟩,fun j d v e1 e2=>?_⟩
    rw[fQ]at e1
    simp only[List.getElem?_map,Option.map_eq_some_iff]at e1
    obtain⟨d',e1,rfl⟩:=e1
    exact acX (h5 j d' v e1 e2)
   |none=>
    obtain⟨h1,h2,h3⟩:=uo o (List.getElem?_eq_some_iff.1 Bi).1 hp
    rw[h3]at Bi
    obtain⟨vs,T,g1,g2,g3,g4⟩:=r.obj o ds Bi
    exact⟨vs,T,by rw[Yt o hp];exact g1.keep (Yu o h1 h2).1,g2,⟨g3.1,by rw[show M2.ty o=M.ty o from congrArg (fun x=>x.2.ty?) (Yt o hp)];exact g3.2⟩,fun j d v e1 e2=>(g4 j d v e1 e2).mono le⟩
  ·cases hp:posOf lQ o with
   |some i=>
    have hi:=iV hp
    rw[mo i o hi, ← mG];exact r'.jZ i (fo i o hi).2.2.1 off
   |none=>
    obtain⟨h1,h2,h3⟩:=uo o hC hp
    rw[J2 o hp, ← mG,(Yu o h1 h2).2 off];exact r.jZ o h1 off
  ·cases hp:posOf lQ o with
   | some i=>
    have hi:=iV hp
    rw[mo i o hi]at heq
    cases mU:posOf lQ o' with
    |some i'=>
     have ig:=iV mU
     rw[mo i' o' ig]at heq
     have:=r'.inj i i' (fo i o hi).2.2.1 (fo i' o' ig).2.2.1 heq
     subst this
     rw[hi]at ig;cases ig;rfl
    | none=>
     obtain⟨h1,h2,_⟩:=uo o' Am mU
     rw[J2 o' mU]at heq
     rcases Yv i o hi with ⟨h3,h4,h5⟩|h3
     ·rw [h5]at heq
      have:=r.inj o o' h3 h1 heq
      subst this;exact(h2 h4).elim
     ·have:=r.qw h1;omega
   | none=>
    obtain⟨h1,h2,_⟩:=uo o hC hp
    rw[J2 o hp]at heq
    cases mU:posOf lQ o' with
    | some i'=>
     have ig:=iV mU
     rw[mo i' o' ig]at heq
     rcases Yv i' o' ig with ⟨h3,h4,h5⟩|h3
     ·rw [h5]at heq
      have:=r.inj o o' h1 h3 heq
      subst this;exact(h2 h4).elim
     ·have:=r.qw h1;omega
    |none=>
     obtain⟨si,_,_⟩:=uo o' Am mU
     rw[J2 o' mU]at heq
     exact r.inj o o' h1 si heq
  ·rcases lv t ⟨n,hn⟩with ⟨i,hi,hl⟩ | ⟨hp,hl,nX⟩
   ·rw [mt i t hi, ← mG]
    exact r'.tok i n (by rw[← (ft i t hi).2.1];exact hn)
   ·obtain⟨_,_,h3⟩:=ut t (List.getElem?_eq_some_iff.1 hn).1 hp
    rw[h3]at hn
    rw[J3 t hp]
    rcases r.tok t n hn with h4|⟨b,cap,size,vs,T,g1,g2,g3,g4,g5⟩
    ·exact .inl h4
    ·obtain⟨k1,k2⟩:=agU t b cap size hl nX g1
     exact .inr ⟨b,cap,size,vs,T,g1,by rw[k1];exact g2,g3,g4,fun off ho=>by rw[← mG,k2 off];exact g5.1 off ho,g5.2⟩
  ·rcases lv t hl with ⟨i,hi,mK⟩ | ⟨hp,mK,nX⟩
   ·rw [mt i t hi]at hb
    cases J4:posOf lQ o with
    |some j=>
     have hj:=iV J4
     rw[mo j o hj]
     exact r'.fh i b c z j mK hb (fo j o hj).2.2.1
    |none=>
     obtain⟨h1,h2,_⟩:=uo o hC J4
     rw[J2 o J4]
     rcases Yw i t b c z hi mK hb with ⟨h3,_,c',z',h4⟩|h3
     ·exact r.fh t b c' z' o h3 h4 h1
     ·have:=r.qw h1;omega
   ·rw [J3 t hp]at hb
    cases J4:posOf lQ o with
    |some j=>
     have hj:=iV J4
     rw[mo j o hj]
     rcases Yv j o hj with ⟨h3,_,h5⟩|h3
     ·rw[h5];exact r.fh t b c z o mK hb h3
     ·have:=r.sM mK hb;omega
    |none=>
     obtain⟨h1,_,_⟩:=uo o hC J4
     rw[J2 o J4];exact r.fh t b c z o mK hb h1
  ·rcases lv t hl with ⟨i,hi,Ao⟩ | ⟨hp,hC,nX⟩
   ·rw [mt i t hi]at hb
    rcases lv t' mK with ⟨i',ig,Vo⟩|⟨mU,Am,Yx⟩
    ·rw [mt i' t' ig]at sg
     have:=r'.fX i i' b c z c' z' Ao Vo hb sg
     subst this
     rw[hi]at ig;cases ig;rfl
    ·rw [J3 t' mU]at sg
     rcases Yw i t b c z hi Ao hb with ⟨h3,h4,c2,z2,h5⟩|h3
     ·have:=r.fX t t' b c2 z2 c' z' h3 Am h5 sg
      subst this;exact(Yx h4).elim
     ·have:=r.sM Am sg;omega
   ·rw [J3 t hp]at hb
    rcases lv t' mK with ⟨i',ig,Vo⟩|⟨mU,Am,Yx⟩
    ·rw [mt i' t' ig]at sg
     rcases Yw i' t' b c' z' ig Vo sg with ⟨h3,h4,c2,z2,h5⟩|h3
     ·have:=r.fX t t' b c z c2 z2 hC h3 hb h5
      subst this;exact(nX h4).elim
     ·have:=r.sM hC hb;omega
    ·rw [J3 t' mU]at sg
     exact r.fX t t' b c z c' z' hC Am hb sg
end Go.Abs
namespace Go.Abs
def Wk (d d':D):Prop:=∀ (M:Map) (s:St) (v:Value),RD M s d v→RD M s d' v
inductive jz:List D→List D→Prop where
 |nil:jz [] []
 |cons {d d':D} {l l':List D} (h:Wk d d') (t:jz l l'):jz (d::l) (d'::l')
inductive gB:List (List D)→List (List D)→Prop where
 |nil:gB [] []
 |cons {r r':List D} {l l':List (List D)} (h:jz r r') (t:gB l l'):gB (r::l) (r'::l')
theorem Wk.refl (d:D):Wk d d:=fun _ _ _ h=>h
theorem Wk.trans {a b c:D} (h:Wk a b) (k:Wk b c):Wk a c:=fun M s v r=>k M s v (h M s v r)
theorem Wk.junk (d:D):Wk d .junk:=fun _ _ v _=> .junk v
theorem jz.refl : ∀ l,jz l l
 | []=> .nil
 |d::l=> .cons (Wk.refl d) (jz.refl l)
theorem gB.refl : ∀ l,gB l l
 | []=> .nil
 |d::l=> .cons (jz.refl d) (gB.refl l)
theorem jz.len {l l':List D} (h:jz l l'):l.length=l'.length:=by
 induction h with
 |nil=>rfl
 |cons _ _ ih=>simp[ih]
theorem gB.len {l l':List (List D)} (h:gB l l'):l.length=l'.length:=by
 induction h with
 |nil=>rfl
 |cons _ _ ih=>simp[ih]
theorem jz.get {l l':List D} (h:jz l l') : ∀ {i:Nat} {d':D},l'[i]? = some d'→∃ d,l[i]? = some d∧Wk d d':=by
 induction h with
 |nil=>intro i d' e;simp at e
 |cons hd _ ih=>
  intro i d' e
  cases i with
  |zero=>simp at e;subst e;exact⟨_,rfl,hd⟩
  |succ i=>simp at e;simpa using ih e
theorem gB.get {l l':List (List D)} (h:gB l l') : ∀ {i:Nat} {d':List D},l'[i]? = some d'→∃ d,l[i]? = some d∧jz d d':=by
 induction h with
 |nil=>intro i d' e;simp at e
 |cons hd _ ih=>
  intro i d' e
  cases i with
  |zero=>simp at e;subst e;exact⟨_,rfl,hd⟩
  |succ i=>simp at e;simpa using ih e
theorem jz.append {a a' b b':List D} (h:jz a a') (k:jz b b'):jz (a++b) (a'++b'):=by
 induction h with
 |nil=>exact k
 |cons hd _ ih=>exact .cons hd ih
theorem gB.append {a a' b b':List (List D)} (h:gB a a') (k:gB b b'):gB (a++b) (a'++b'):=by
 induction h with
 |nil=>exact k
 |cons hd _ ih=>exact .cons hd ih
theorem Wk.agg {l l':List D} (h:jz l l'):Wk (.agg l) (.agg l'):=by
 intro M s v r
 cases r with
 |agg _ vs hl h1 hr=>
  refine .agg _ vs (by rw[← hl,h.len]) h1 fun i d' u e e2=>?_
  obtain⟨d,e1,hw⟩:=h.get e
  exact hw M s u (hr i d u e1 e2)
theorem Wk.tuple {l l':List D} (h:jz l l'):Wk (.tuple l) (.tuple l'):=by
 intro M s v r
 cases r with
 |tuple _ vs hl hr=>
  refine .tuple _ vs (by rw[← hl,h.len]) fun i d' u e e2=>?_
  obtain⟨d,e1,hw⟩:=h.get e
  exact hw M s u (hr i d u e1 e2)
theorem Wk.rows {g:Tag} {z:Nat} {l l':List (List D)} (h:gB l l'):Wk (.slice g z l) (.slice g z l'):=by
 intro M s v r
 cases r with
 |jv _ _ cap hc ht=>cases h;exact .jv _ _ _ hc ht
 |mr _ a cap=>cases h;exact .mr _ a cap
 | slice _ _ _ b k cap hl hs h1 h2 ht=>
  rw[h.len]
  refine .slice g z l' b k cap (by rw[← h.len];exact hl) (fun row hm=>?_) (fun i row j d e e2=>?_) (fun i row j d u e e2 eu=>?_) (by rw[← h.len];exact ht)
  ·obtain⟨i,hi,he⟩:=List.mem_iff_getElem.1 hm
   obtain⟨r0,g1,g2⟩:=h.get (i:=i) (by rw[List.getElem?_eq_getElem hi,he])
   rw[← g2.len];exact hs r0 (List.mem_of_getElem? g1)
  ·obtain⟨r0,g1,g2⟩:=h.get e
   obtain⟨d0,g3,_⟩:=g2.get e2
   exact h1 i r0 j d0 g1 g3
  ·obtain⟨r0,g1,g2⟩:=h.get e
   obtain⟨d0,g3,g4⟩:=g2.get e2
   exact g4 M s u (h2 i r0 j d0 u g1 g3 eu)
theorem Wk.shared (g:Tag) (z:Nat) (l:List (List D)):Wk (.slice g z l) (.slice .shared z l):=by
 intro M s v r
 cases r with
 |jv _ _ cap hc ht=>exact .jv _ _ _ hc trivial
 |mr _ a cap=>exact .mr _ a cap
 |slice _ _ _ b k cap hl hs h1 h2 ht=>exact .slice _ _ _ b k cap hl hs h1 h2 trivial
theorem Wk.slice {g:Tag} {z:Nat} {l l':List (List D)} (h:gB l l'):Wk (.slice g z l) (.slice .shared z l'):=(Wk.shared g z l).trans (Wk.rows h)
theorem Wk.nil (g:Tag) (z z':Nat):Wk (.slice g z []) (.slice .shared z' []):=by
 intro M s v r
 cases r with
 |jv _ _ cap hc ht=>exact .jv _ _ _ hc trivial
 |mr _ a cap=>exact .mr _ a cap
 |slice _ _ _ b k cap hl hs h1 h2 ht=>exact .slice _ _ [] b k cap hl (by simp) (by simp) (by simp) trivial
theorem Wk.akv (z z':Nat):Wk (.slice .full z []) (.slice .full z' []):=by
 intro M s v r
 cases r with
 |jv _ _ cap hc ht=>exact .jv _ _ _ hc ht
 |slice _ _ _ b k cap hl hs h1 h2 ht=>exact .slice _ _ [] b k cap hl (by simp) (by simp) (by simp) ht
theorem Rel.mA {M:Map} {s:St} {w:World} {ah:List (List D)} (r:Rel M s w) (h:gB s.ah ah):Rel M ⟨ah,s.aw⟩ w∧Le M s M ⟨ah,s.aw⟩:=by
 have le:Le M s M ⟨ah,s.aw⟩:=⟨fun _ _ _ h=>h,Nat.le_of_eq h.len,fun _ _=> .refl _,Nat.le_refl _,fun t n' _ e=>⟨n',e,Nat.le_refl _,fun _=>rfl⟩⟩
 have hl:=h.len
 refine⟨⟨r.comm,fun o ds e=>?_,fun o ho=>r.jZ o (by rw[hl];exact ho),fun o o' ho nL=>r.inj o o' (by rw[hl];exact ho) (by rw[hl];exact nL),r.tok,
  fun t b c z o hv e ho=>r.fh t b c z o hv e (by rw[hl];exact ho),r.fX⟩,le⟩
 obtain⟨ds0,g1,g2⟩:=h.get e
 obtain⟨vs,T,h1,h2,h3,h4⟩:=r.obj o ds0 g1
 refine⟨vs,T,h1,by rw[h2,g2.len],h3,fun i d v e1 e2=>?_⟩
 obtain⟨d0,k1,k2⟩:=g2.get e1
 exact(k2 _ _ _ (h4 i d0 v k1 e2)).mono le
theorem Rel.blank {M:Map} {s:St} {w:World} (r:Rel M s w) :
 Rel (M.e7 s.aw.length none) {s with aw:=s.aw++ [some 0]} w∧Le M s (M.e7 s.aw.length none) {s with aw:=s.aw++ [some 0]}:=by
 have iN : ∀ t,St.live {s with aw:=s.aw++ [some 0]} t→s.live t∨t=s.aw.length:=by
  rintro t ⟨k,hk⟩
  rcases Nat.lt_or_ge t s.aw.length with h|h
  ·rw[List.getElem?_append_left h]at hk;exact .inl ⟨k,hk⟩
  ·have:=(List.getElem?_eq_some_iff.1 hk).1
   simp at this;exact .inr (by omega)
 have hC : ∀ t,s.live t→t<s.aw.length:=fun t ⟨k,hk⟩=>(List.getElem?_eq_some_iff.1 hk).1
 have hold : ∀ t,t<s.aw.length→(M.e7 s.aw.length none).be t=M.be t:=fun t h=>by simp[Map.e7];omega
 have dv:(M.e7 s.aw.length none).be s.aw.length=none:=by simp[Map.e7]
 have le:Le M s (M.e7 s.aw.length none) {s with aw:=s.aw++ [some 0]}:=
  ⟨fun _ _ _ h=>h,Nat.le_refl _,fun _ _=> .refl _,by simp,fun t k h e=>by
   rw[List.getElem?_append_left h]at e
   exact⟨k,e,Nat.le_refl _,fun _=>hold t h⟩⟩
 refine⟨⟨r.comm,fun o ds e=>?_,r.jZ,r.inj,fun t k e=>?_,fun t b' c z o hl e nL=>?_,fun t t' b' c z c' z' h h' e e'=>?_⟩,le⟩
 ·obtain⟨fD,T',h3,h4,h5,h6⟩:=r.obj o ds e
  exact⟨fD,T',h3,h4,h5,fun i d v e1 e2=>(h6 i d v e1 e2).mono le⟩
 ·rcases Nat.lt_or_ge t s.aw.length with h | h
  ·rw [List.getElem?_append_left h]at e
   rw[hold t h];exact r.tok t k e
  ·have:=(List.getElem?_eq_some_iff.1 e).1
   simp at this
   have:t=s.aw.length:=by omega
   subst this
   simp at e;subst e
   exact .inl ⟨dv,rfl⟩
 ·rcases iN t hl with h | h
  ·rw[hold t (hC t h)]at e;exact r.fh t b' c z o h e nL
  ·subst h;rw[dv]at e;cases e
 ·rcases iN t h with h | h <;> rcases iN t' h' with h' | h'
  ·rw[hold t (hC t h)]at e;rw[hold t' (hC t' h')]at e';exact r.fX t t' b' c z c' z' h h' e e'
  ·subst h';rw[dv]at e';cases e'
  ·subst h;rw[dv]at e;cases e
  ·omega
theorem RD.own {M:Map} {s:St} {z z':Nat} {v:Value} (h:RD M s (.slice .full z []) v):RD (M.e7 s.aw.length none) {s with aw:=s.aw++ [some 0]} (.slice (.tok s.aw.length) z' []) v:=by
 have key : ∀ base:Option (Nat×Nat),iU (M.e7 s.aw.length none) {s with aw:=s.aw++ [some 0]} (.tok s.aw.length) z' 0 base 0:=by
  intro base
  refine⟨by simp,fun n e=>?_⟩
  simp at e
  subst e
  exact⟨Nat.le_refl _,fun _=> .inl ⟨by simp[Map.e7],rfl,fun h=>by cases h⟩⟩
 cases h with
 |jv _ _ cap hc ht=>subst hc;exact .jv _ _ _ rfl (key none)
 |slice _ _ _ b k cap hl hs h1 h2 ht=>
  have:cap=0:=ht
  subst this
  exact .slice _ _ [] b k 0 (Nat.le_refl _) (by simp) (by simp) (by simp) (key _)
section
variable {P:Program} {B:fa} {nt:Nat} {Q:Exit→Tm→St→Prop} {tm:Tm} {s:St}
theorem Sem.wkO {ac:AC} (ah:List (List D)) (hw:gB s.ah ah) (h:Sem P B nt ac Q tm ⟨ah,s.aw⟩):Sem P B nt ac Q tm s:=by
 intro c hc act w ⟨M,e,r,ht,h1,h2⟩
 obtain⟨r',le⟩:=r.mA hw
 refine h c hc act w ⟨M,e.trans ⟨le,fun _ _ _ _=>rfl,fun o h1 h2=>?_,fun t b c z hl e=> .inl ⟨hl,c,z,e⟩,fun _ _ h=>(h rfl).elim,Nat.le_refl _,rfl,rfl,rfl⟩,r',fun k=>(ht k).mono le,h1,h2⟩
 simp only[← hw.len]at h2
 exact h1.elim (fun h1=>absurd h2 (Nat.not_lt.2 h1)) fun h1=>(h1 rfl).elim
theorem Bp {M0 M:Map} {s0 s:St} {w0 w:World} (e:Ext M0 s0 w0 M s w) (le:Le M s (M.e7 s.aw.length none) {s with aw:=s.aw++ [some 0]}) :
 Ext M0 s0 w0 (M.e7 s.aw.length none) {s with aw:=s.aw++ [some 0]} w:=by
 refine e.trans ⟨le,fun _ _ _ _=>rfl,fun o h1 h2=>h1.elim (fun h1=>absurd h2 (Nat.not_lt.2 h1)) (fun h1=>(h1 rfl).elim),fun t b c z hl eq=>?_,fun _ _ h=>(h rfl).elim,Nat.le_refl _,rfl,rfl,rfl⟩
 obtain⟨k,hk⟩:=hl
 rcases Nat.lt_or_ge t s.aw.length with h|h
 ·refine .inl ⟨⟨k,by rw [List.getElem?_append_left h]at hk;exact hk⟩,c,z, ?_⟩
  have:(M.e7 s.aw.length none).be t=M.be t:=by simp[Map.e7];omega
  rw[← this];exact eq
 ·have:=(List.getElem?_eq_some_iff.1 hk).1
  simp at this
  have:t=s.aw.length:=by omega
  subst this
  simp[Map.e7]at eq
theorem Sem.p8 {ac:AC} (t z':Nat) {z:Nat} (hw:tm.get t = .slice .full z []) (h:Sem P B nt ac Q (tm.set t (.slice (.tok s.aw.length) z' [])) {s with aw:=s.aw++ [some 0]}):Sem P B nt ac Q tm s:=by
 intro c hc act w ⟨M,e,r,ht,h1,h2⟩
 obtain⟨r',le⟩:=r.blank
 refine h c hc act w ⟨_,Bp e le,r',fun k=>?_,h1,h2⟩
 rw[Tm.Cl]
 split
 ·rename_i hk;subst hk;have:=ht k;rw[hw]at this;exact this.own
 ·exact(ht k).mono le
end
def az (P:Program) (f:Nat) (args:List D) (s:St) (d:D) (s':St):Prop:=bL P f args s fun x y=>x=d∧y=s'
def iC (n m:Nat) (res:List (Nat×Option (Bool×Nat))) (d:D) (s':St):Exit→Tm→St→Prop
 | .normal,tm,s| .ret,tm,s=>∃ l,aR res tm s=some l∧Wk ((aS l).fg n m) d∧gB (s.cut n m).ah s'.ah∧(s.cut n m).aw=s'.aw
 |_,_,_=>False
theorem bL.mA {P:Program} {f:FuncId} {args EF:List D} {s:St} {Q:D→St→Prop} (ha:jz args EF) (h:bL P f EF s Q):bL P f args s Q:=
 fun M w fL r kQ hl hr=>h M w fL r kQ (by rw[hl,ha.len]) fun i d v e1 e2=>by
  obtain⟨d0,g1,g2⟩:=ha.get e1
  exact g2 _ _ _ (hr i d0 v g1 e2)
theorem bL.IQ {P:Program} {f:FuncId} {args:List D} {s:St} {Q Q':D→St→Prop} (h:bL P f args s Q) (hq : ∀ d s1,Q d s1→∃ d' s',Wk d d'∧gB s1.ah s'.ah∧s1.aw=s'.aw∧Q' d' s'):bL P f args s Q':=
 fun M w fL r kQ hl ha=>(h M w fL r kQ hl ha).mono fun _ _ ⟨M',d,v,s1,h1,h2,h3,h4,h5⟩=>by
  obtain⟨d',s',g1,g2,g3,g4⟩:=hq d s1 h2
  obtain⟨r',le⟩:=h4.mA g2
  have hs:(⟨s'.ah,s1.aw⟩:St)=s':=by rw[g3]
  rw[hs]at r' le
  refine⟨M',d',v,s',h1,g4,h3.trans ⟨le,fun _ _ _ _=>rfl,fun o h1 h2=>?_,fun t b c z hl e=> .inl ⟨by obtain⟨n,hn⟩:=hl;exact⟨n,by rw[g3];exact hn⟩,c,z,e⟩,fun _ _ h=>(h rfl).elim,Nat.le_refl _,rfl,rfl,rfl⟩,r',(g1 _ _ _ h5).mono le⟩
  rw[← g2.len]at h2
  exact h1.elim (fun h1=>absurd h2 (Nat.not_lt.2 h1)) fun h1=>(h1 rfl).elim
theorem az.intro {P:Program} {f:FuncId} {af:AF} {args:List D} {s:St} {d:D} {s':St} (h0 : ∃ fn,P.funcs[f]? = some fn∧cF P fn=some af) (hl:args.length≤af.ntmps)
 (h : ∀ B:fa,B.s=s→Sem P B af.ntmps af.body (iC s.ah.length s.aw.length af.results d s') (mS 0 args) s):az P f args s d s':=by
 obtain⟨fn,hf,hc⟩:=h0
 refine bL.IQ (bL.intro (Q:=fun d1 s1=>Wk d1 d∧gB s1.ah s'.ah∧s1.aw=s'.aw) hf hc hl fun B hB=>(h B hB).mono fun e tm s1 hr=>?_) fun d1 s1 ⟨h1,h2,h3⟩=>⟨d,s',h1,h2,h3,rfl,rfl⟩
 subst hB
 cases e with
 |normal=>obtain⟨l,h1,h2,h3,h4⟩:=hr;exact⟨l,h1,_,_,Nat.le_refl _,Nat.le_refl _,h2,h3,h4⟩
 |ret=>obtain⟨l,h1,h2,h3,h4⟩:=hr;exact⟨l,h1,_,_,Nat.le_refl _,Nat.le_refl _,h2,h3,h4⟩
 |exit id=>exact hr.elim
 |goto l=>exact hr.elim
 |panic ch=>exact hr.elim
 |outgrown=>exact hr.elim
theorem az.use {P:Program} {f:FuncId} {args:List D} {s:St} {d:D} {s':St} {Q:D→St→Prop} (h:az P f args s d s') (hq:Q d s'):bL P f args s Q:=
 bL.mono h fun x y ⟨h1,h2⟩=>by subst h1;subst h2;exact hq
mutual
theorem qL (os ts:List Nat) : ∀ d,D.ok 0 0 d=true→D.de os ts d=d
 | .junk,_=>by simp[D.de]
 | .int k n,_=>by simp[D.de]
 | .bool b,_=>by simp[D.de]
 | .str l,_=>by simp[D.de]
 | .ew,_=>by simp[D.de]
 | .val v,_=>by simp[D.de]
 | .fu T o,h=>by simp[D.ok]at h
 | .fW o,h=>by simp[D.ok]at h
 | .eJ z o g len,h=>by simp[D.ok]at h
 | .fv o g off,h=>by simp[D.ok]at h
 | .eH z,_=>by simp[D.de]
 | .gn f cs,h=>by
  simp only[D.ok]at h
  simp only[D.de,fb os ts cs h]
 | .ptr o f,h=>by simp[D.ok]at h
 | .dO r f,h=>by
  simp only[D.ok]at h
  simp only[D.de,fb os ts r h]
 | .slice g z rows,h=>by
  simp only[D.ok,Bool.and_eq_true]at h
  simp only[D.de,ik os ts rows h.2]
  cases g with
  |tok t y=>simp[Tag.ok]at h
  |full=>rfl
  |shared=>rfl
 | .agg cs,h=>by
  simp only[D.ok]at h
  simp only[D.de,fb os ts cs h]
 | .tuple cs,h=>by
  simp only[D.ok]at h
  simp only[D.de,fb os ts cs h]
theorem fb (os ts:List Nat) : ∀ l,D.bI 0 0 l=true→D.eW os ts l=l
 | [],_=>by simp[D.eW]
 |d::r,h=>by
  simp only[D.bI,Bool.and_eq_true]at h
  simp only[D.eW,qL os ts d h.1,fb os ts r h.2]
theorem ik (os ts:List Nat) : ∀ l,D.gY 0 0 l=true→D.nW os ts l=l
 | [],_=>by simp[D.nW]
 |d::r,h=>by
  simp only[D.gY,Bool.and_eq_true]at h
  simp only[D.nW,fb os ts d h.1,ik os ts r h.2]
end
mutual
theorem Gi {n m n' m':Nat} (hn:n≤n') (hm:m≤m') : ∀ d,D.ok n m d=true→D.ok n' m' d=true
 | .junk,_=>rfl
 | .int k n,_=>rfl
 | .bool b,_=>rfl
 | .str l,_=>rfl
 | .ew,_=>rfl
 | .val v,_=>rfl
 | .fu T o,h=>by simp[D.ok]at h ⊢;omega
 | .fW o,h=>by simp[D.ok]at h ⊢;omega
 | .eJ z o g len,h=>by simp[D.ok]at h ⊢;omega
 | .fv o g off,h=>by simp[D.ok]at h ⊢;omega
 | .eH z,_=>rfl
 | .gn f cs,h=>by
  simp only[D.ok]at h ⊢
  exact gH hn hm cs h
 | .ptr o f,h=>by simp only[D.ok,decide_eq_true_eq]at h ⊢;omega
 | .dO r f,h=>by
  simp only[D.ok]at h ⊢
  exact gH hn hm r h
 | .slice g z rows,h=>by
  simp only[D.ok,Bool.and_eq_true]at h ⊢
  refine⟨?_,lG hn hm rows h.2⟩
  cases g with
  |tok t y=>simp only[Tag.ok,decide_eq_true_eq]at h ⊢;omega
  |full=>rfl
  |shared=>rfl
 | .agg cs,h=>by
  simp only[D.ok]at h ⊢
  exact gH hn hm cs h
 | .tuple cs,h=>by
  simp only[D.ok]at h ⊢
  exact gH hn hm cs h
theorem gH {n m n' m':Nat} (hn:n≤n') (hm:m≤m') : ∀ l,D.bI n m l=true→D.bI n' m' l=true
 | [],_=>rfl
 |d::r,h=>by
  simp only[D.bI,Bool.and_eq_true]at h ⊢
  exact⟨Gi hn hm d h.1,gH hn hm r h.2⟩
theorem lG {n m n' m':Nat} (hn:n≤n') (hm:m≤m') : ∀ l,D.gY n m l=true→D.gY n' m' l=true
 | [],_=>rfl
 |d::r,h=>by
  simp only[D.gY,Bool.and_eq_true]at h ⊢
  exact⟨gH hn hm d h.1,lG hn hm r h.2⟩
end
def S0:St:=⟨[],[]⟩
section
variable {P:Program} {f:Nat}
theorem az.pure {args:List D} {d:D} (h:az P f args S0 d S0) (ha:D.bI 0 0 args=true) (hd:D.ok 0 0 d=true) (s:St):az P f args s d s:=by
 refine bL.frame [] [] h List.nodup_nil List.nodup_nil (by simp) (by simp) rfl (by simp) rfl (by simp) (by rw[fb _ _ _ ha]) ha ?_
 rintro _ _ ⟨rfl,rfl⟩
 refine⟨qL _ _ _ hd, ?_⟩
 simp[St.back,kG,S0]
theorem az.kR {args row jy:List D} {d:D} (h:az P f (.ptr 0 0::args) ⟨[row],[]⟩ d ⟨[jy],[]⟩) (ha:D.bI 0 0 args=true) (hr:D.bI 0 0 row=true) (JE:D.bI 0 0 jy=true) (hd:D.ok 0 0 d=true)
 {s:St} {o:Nat} (ho:s.ah[o]? = some row):az P f (.ptr o 0::args) s d ⟨s.ah.set o jy,s.aw⟩:=by
 refine bL.frame [o] [] h (by simp) List.nodup_nil (by simpa using (List.getElem?_eq_some_iff.1 ho).1) (by simp) rfl (fun i o' ds e1 e2=>?_) rfl (by simp) (by simp[D.eW,D.de,fb _ _ _ ha])
  (by simp[D.bI,D.ok,gH (Nat.zero_le 1) (Nat.le_refl 0) _ ha]) ?_
 ·cases i with
  |zero=>simp at e1 e2;subst e1;subst e2;exact⟨by rw[fb _ _ _ hr];exact ho,gH (Nat.zero_le 1) (Nat.le_refl 0) _ hr⟩
  |succ i=>simp at e1
 ·rintro _ _ ⟨rfl,rfl⟩
  refine⟨qL _ _ _ hd, ?_⟩
  simp[St.back,kG,fb _ _ _ JE]
end
end Go.Abs
namespace Go.Abs
theorem X.cd {x:X} {tm bF:Tm} (h : ∀ t∈x.reads,tm.get t=bF.get t):x.ev tm=x.ev bF:=by
 cases x with
 |s t=>exact h t (by simp[X.reads])
 |k d=>rfl
theorem rB {t:Nat} {x:X} : ∀ {l:List X},x∈l→t∈x.reads→t∈oh l
 | [],h,_=>by cases h
 |y::r,h,ht=>by
  simp only[oh,List.mem_append]
  rcases List.mem_cons.1 h with rfl|h
  ·exact .inl ht
  ·exact .inr (rB h ht)
theorem wI {x:Option X} {tm bF:Tm} (h : ∀ t∈A0 x,tm.get t=bF.get t):x.map (·.ev tm)=x.map (·.ev bF):=by
 cases x with
 |none=>rfl
 |some y=>simp only[Option.map_some];rw[X.cd h]
theorem Dp {o:AO} {tm bF:Tm} {s:St} (h : ∀ t∈o.reads,tm.get t=bF.get t):aO o tm s=aO o bF s:=by
 cases o with
 |mv x=>
  have hx:x.ev tm=x.ev bF:=X.cd fun t ht=>h t (by simp[AO.reads,ht])
  simp only[aO,hx]
 |pick c a b=>
  have hc:c.ev tm=c.ev bF:=X.cd fun t ht=>h t (by simp[AO.reads,ht])
  have ha:a.ev tm=a.ev bF:=X.cd fun t ht=>h t (by simp[AO.reads,ht])
  have hb:b.ev tm=b.ev bF:=X.cd fun t ht=>h t (by simp[AO.reads,ht])
  simp only[aO,hc,ha,hb]
 |alloc z=>
  rfl
 |td z T=>rfl
 |AX x T=>
  have hx:x.ev tm=x.ev bF:=X.cd fun t ht=>h t (by simp[AO.reads,ht])
  simp only[aO,hx]
 |AY x y=>
  have hx:x.ev tm=x.ev bF:=X.cd fun t ht=>h t (by simp[AO.reads,ht])
  have hy:y.ev tm=y.ev bF:=X.cd fun t ht=>h t (by simp[AO.reads,ht])
  simp only[aO,hx,hy]
 |apps x y=>
  have hx:x.ev tm=x.ev bF:=X.cd fun t ht=>h t (by simp[AO.reads,ht])
  have hy:y.ev tm=y.ev bF:=X.cd fun t ht=>h t (by simp[AO.reads,ht])
  simp only[aO,hx,hy]
 |box x=>
  have hx:x.ev tm=x.ev bF:=X.cd fun t ht=>h t (by simp[AO.reads,ht])
  simp only[aO,hx]
 |AW x=>
  have hx:x.ev tm=x.ev bF:=X.cd fun t ht=>h t (by simp[AO.reads,ht])
  simp only[aO,hx]
 |load x g n=>
  have hx:x.ev tm=x.ev bF:=X.cd fun t ht=>h t (by simp[AO.reads,ht])
  simp only[aO,hx]
 |store p x n=>
  have hp:p.ev tm=p.ev bF:=X.cd fun t ht=>h t (by simp[AO.reads,ht])
  have hx:x.ev tm=x.ev bF:=X.cd fun t ht=>h t (by simp[AO.reads,ht])
  simp only[aO,hp,hx]
 |br x=>
  have hx:x.ev tm=x.ev bF:=X.cd fun t ht=>h t (by simp[AO.reads,ht])
  simp only[aO,hx]
 |bin op x y=>
  have hx:x.ev tm=x.ev bF:=X.cd fun t ht=>h t (by simp[AO.reads,ht])
  have hy:y.ev tm=y.ev bF:=X.cd fun t ht=>h t (by simp[AO.reads,ht])
  simp only[aO,hx,hy]
 |Dg n x y=>
  have hx:x.ev tm=x.ev bF:=X.cd fun t ht=>h t (by simp[AO.reads,ht])
  have hy:y.ev tm=y.ev bF:=X.cd fun t ht=>h t (by simp[AO.reads,ht])
  simp only[aO,hx,hy]
 |eqs n ks x y=>
  have hx:x.ev tm=x.ev bF:=X.cd fun t ht=>h t (by simp[AO.reads,ht])
  have hy:y.ev tm=y.ev bF:=X.cd fun t ht=>h t (by simp[AO.reads,ht])
  simp only[aO,hx,hy]
 |He n x y=>
  have hx:x.ev tm=x.ev bF:=X.cd fun t ht=>h t (by simp[AO.reads,ht])
  have hy:y.ev tm=y.ev bF:=X.cd fun t ht=>h t (by simp[AO.reads,ht])
  simp only[aO,hx,hy]
 |un op x=>
  have hx:x.ev tm=x.ev bF:=X.cd fun t ht=>h t (by simp[AO.reads,ht])
  simp only[aO,hx]
 |conv k x=>
  have hx:x.ev tm=x.ev bF:=X.cd fun t ht=>h t (by simp[AO.reads,ht])
  simp only[aO,hx]
 |Em x=>
  have hx:x.ev tm=x.ev bF:=X.cd fun t ht=>h t (by simp[AO.reads,ht])
  simp only[aO,hx]
 |xX x=>
  have hx:x.ev tm=x.ev bF:=X.cd fun t ht=>h t (by simp[AO.reads,ht])
  simp only[aO,hx]
 |aj x n=>
  have hx:x.ev tm=x.ev bF:=X.cd fun t ht=>h t (by simp[AO.reads,ht])
  simp only[aO,hx]
 |uC x n g m=>
  have hx:x.ev tm=x.ev bF:=X.cd fun t ht=>h t (by simp[AO.reads,ht])
  simp only[aO,hx]
 |cr x i n=>
  have hx:x.ev tm=x.ev bF:=X.cd fun t ht=>h t (by simp[AO.reads,ht])
  have hi:i.ev tm=i.ev bF:=X.cd fun t ht=>h t (by simp[AO.reads,ht])
  simp only[aO,hx,hi]
 |oY x i=>
  have hx:x.ev tm=x.ev bF:=X.cd fun t ht=>h t (by simp[AO.reads,ht])
  have hi:i.ev tm=i.ev bF:=X.cd fun t ht=>h t (by simp[AO.reads,ht])
  simp only[aO,hx,hi]
 |ext x i=>
  have hx:x.ev tm=x.ev bF:=X.cd fun t ht=>h t (by simp[AO.reads,ht])
  simp only[aO,hx]
 |len x=>
  have hx:x.ev tm=x.ev bF:=X.cd fun t ht=>h t (by simp[AO.reads,ht])
  simp only[aO,hx]
 |nR x=>
  have hx:x.ev tm=x.ev bF:=X.cd fun t ht=>h t (by simp[AO.reads,ht])
  simp only[aO,hx]
 |app a b x y=>
  have hx:x.ev tm=x.ev bF:=X.cd fun t ht=>h t (by simp[AO.reads,ht])
  have hy:y.ev tm=y.ev bF:=X.cd fun t ht=>h t (by simp[AO.reads,ht])
  simp only[aO,hx,hy]
 |mm b x y=>
  have hx:x.ev tm=x.ev bF:=X.cd fun t ht=>h t (by simp[AO.reads,ht])
  have hy:y.ev tm=y.ev bF:=X.cd fun t ht=>h t (by simp[AO.reads,ht])
  simp only[aO,hx,hy]
 | build z ps=>
  have hp:(ps.map fun p=>(p.1,p.2.1,p.2.2.ev tm))=ps.map fun p=>(p.1,p.2.1,p.2.2.ev bF):=List.map_congr_left fun p hp=>by
   have:p.2.2.ev tm=p.2.2.ev bF:=X.cd fun t ht=>h t (by simp only[AO.reads];exact rB (List.mem_map_of_mem hp) ht)
   rw[this]
  simp only[aO,hp]
 | cf z m n ps=>
  have hp:(ps.map fun p=>(p.1,p.2.ev tm))=ps.map fun p=>(p.1,p.2.ev bF):=List.map_congr_left fun p hp=>by
   have:p.2.ev tm=p.2.ev bF:=X.cd fun t ht=>h t (by simp only[AO.reads];exact rB (List.mem_map_of_mem hp) ht)
   rw[this]
  simp only[aO,hp]
 | vi z m n ps=>
  have hp:(ps.map fun p=>(p.1,p.2.ev tm))=ps.map fun p=>(p.1,p.2.ev bF):=List.map_congr_left fun p hp=>by
   have:p.2.ev tm=p.2.ev bF:=X.cd fun t ht=>h t (by simp only[AO.reads];exact rB (List.mem_map_of_mem hp) ht)
   rw[this]
  simp only[aO,hp]
 |En n x lo hi=>
  have hx:x.ev tm=x.ev bF:=X.cd fun t ht=>h t (by simp[AO.reads,ht])
  have hl:lo.map (·.ev tm)=lo.map (·.ev bF):=wI fun t ht=>h t (by simp[AO.reads,ht])
  have hh:hi.map (·.ev tm)=hi.map (·.ev bF):=wI fun t ht=>h t (by simp[AO.reads,ht])
  simp only[aO,hx,hl,hh]
 |y8 x lo hi=>
  have hx:x.ev tm=x.ev bF:=X.cd fun t ht=>h t (by simp[AO.reads,ht])
  have hl:lo.map (·.ev tm)=lo.map (·.ev bF):=wI fun t ht=>h t (by simp[AO.reads,ht])
  have hh:hi.map (·.ev tm)=hi.map (·.ev bF):=wI fun t ht=>h t (by simp[AO.reads,ht])
  simp only[aO,hx,hl,hh]
 |uQ f xs=>
  have hp:(xs.map fun x=>x.ev tm)=xs.map fun x=>x.ev bF:=List.map_congr_left fun x hx=>X.cd fun t ht=>h t (by simp only[AO.reads];exact rB hx ht)
  simp only[aO,hp]
 |uR=>rfl
 |y9 m k v=>
  have hm:m.ev tm=m.ev bF:=X.cd fun t ht=>h t (by simp[AO.reads,ht])
  have hk:k.ev tm=k.ev bF:=X.cd fun t ht=>h t (by simp[AO.reads,ht])
  have hv:v.ev tm=v.ev bF:=X.cd fun t ht=>h t (by simp[AO.reads,ht])
  simp only[aO,hm,hk,hv]
 |AZ a b z l c=>
  have hl:l.ev tm=l.ev bF:=X.cd fun t ht=>h t (by simp[AO.reads,ht])
  have hk:c.ev tm=c.ev bF:=X.cd fun t ht=>h t (by simp[AO.reads,ht])
  simp only[aO,hl,hk]
 |rf o x y=>
  have hx:x.ev tm=x.ev bF:=X.cd fun t ht=>h t (by simp[AO.reads,ht])
  have hy:y.ev tm=y.ev bF:=X.cd fun t ht=>h t (by simp[AO.reads,ht])
  simp only[aO,hx,hy]
 |wz m k z=>
  have hm:m.ev tm=m.ev bF:=X.cd fun t ht=>h t (by simp[AO.reads,ht])
  have hk:k.ev tm=k.ev bF:=X.cd fun t ht=>h t (by simp[AO.reads,ht])
  simp only[aO,hm,hk]
theorem Mf {x d:D} {agg:Bool} {size:Nat} {s s':St} (h:zb x agg size s=some (d,s')):s'=s:=by
 unfold zb at h
 (repeat' (split at h))<;>first|(cases h;rfl)|cases h
theorem Mg {o:AO} (ho:gN o.kind=false) {tm:Tm} {s s':St} {d:D} (h:aO o tm s=some (d,s')):s'=s:=by
 cases o<;>simp only[AO.kind,gN]at ho<;>first|cases ho|skip
 all_goals
  simp only[aO]at h
  first
   |(cases h;rfl)
   |(repeat' (split at h))<;>first|exact Mf h|(cases h;rfl)|cases h
theorem OV {o:AO} (ho:o.kind = .pure) {tm:Tm} {s s':St} : (aO o tm s).map (·.1)=(aO o tm s').map (·.1):=by
 cases o<;>simp only[AO.kind]at ho<;>first|cases ho|skip
 all_goals
  simp only[aO]
  first
   |rfl
   |(repeat' split)<;>rfl
def kh (ai:AI) (tm:Tm) (s:St):Option D:=
 match ai with
 | .op _ none o=>(aO o tm s).map (·.1)
 | .op _ (some (t,want)) o=>
  match tm.get t with
  | .bool b=>if b=want then(aO o tm s).map (·.1)else some (.tuple [])
  | .tuple _=>some (.tuple [])
  |_=>none
 |_=>none
def sR (P:Program) (ai:AI) (tm:Tm) (s:St) (d:D) (s':St):Prop:=
 match ai with
 | .op _ g o=>guarded g tm (aO o tm s=some (d,s')) (d = .tuple []∧s'=s)
 | .call _ g f xs=>guarded g tm (bL P f (xs.map (·.ev tm)) s fun x y=>x=d∧y=s') (d = .tuple []∧s'=s)
 | .nil .. =>False
 | .jA .. =>False
def k6 (P:Program) (is:List AI) (K:Tm→St→Prop):List (Nat×Nat)→List St→Tm→St→Prop
 | [],_,tm,s=>K tm s
 | (q,b)::r,bQ,tm,s=>
  match is[q]? with
  |none=>False
  |some ai=>
   match gN ai.kind with
   |true=>∃ d s',sR P ai tm s d s'∧k6 P is K r (s::bQ) (tm.put ai.dst d) s'
   |false=>∃ d,kh ai tm s=some d∧(ai.kind = .load→∀ s'∈bQ.take b,kh ai tm s'=some d)∧k6 P is K r bQ (tm.put ai.dst d) s
def Tm.eqv (a b:Tm):Prop:=∀ t,a.get t=b.get t
theorem Tm.lA (tm:Tm) (dst:Option Nat) (d:D) (t:Nat):(tm.put dst d).get t=if dst=some t then d else tm.get t:=by
 cases dst with
 |none=>simp[Tm.put]
 |some u=>
  simp only[Tm.put,Tm.Cl,Option.some.injEq]
  by_cases h:t=u
  ·subst h;simp
  ·rw[if_neg h,if_neg (fun e=>h e.symm)]
theorem Tm.eqv.put {a b:Tm} (h:a.eqv b) (dst:Option Nat) (d:D):(a.put dst d).eqv (b.put dst d):=fun t=>by
 rw[Tm.lA,Tm.lA,h t]
theorem Tm.J5 (tm:Tm) {x y:Option Nat} (h : ∀ t,x=some t→y≠some t) (d e:D):((tm.put x d).put y e).eqv ((tm.put y e).put x d):=fun t=>by
 simp only[Tm.lA]
 by_cases h1:x=some t
 ·simp only[h1,h t h1,if_true,if_false]
 ·simp only[h1,if_false]
theorem Ap {g:Option (Nat×Bool)} {tm bF:Tm} {A A' C:Prop} (h : ∀ t∈vj g,tm.get t=bF.get t) (ha:A→A') (hh:guarded g tm A C):guarded g bF A' C:=by
 cases g with
 |none=>exact ha hh
 | some p=>
  obtain⟨t,want⟩:=p
  unfold guarded at *
  simp only at *
  rw[← h t (by simp[vj])]
  split
  ·rename_i b hb
   rw[hb]at hh
   exact⟨fun e=>ha (hh.1 e),hh.2⟩
  ·rename_i hb
   rw[hb]at hh
   exact hh
  ·rename_i x h1 h2
   split at hh
   ·exact h1 _ ‹_›
   ·exact h2 _ ‹_›
   ·exact hh
theorem Hs {tm bF:Tm} : ∀ {l:List X},(∀ t∈oh l,tm.get t=bF.get t)→l.map (·.ev tm)=l.map (·.ev bF)
 | [],_=>rfl
 |x::r,h=>by
  simp only[List.map_cons]
  rw[X.cd fun t ht=>h t (by simp[oh,ht]),Hs (l:=r) fun t ht=>h t (by simp[oh,ht])]
theorem xp {P:Program} {ai:AI} {tm bF:Tm} {s s':St} {d:D} (h : ∀ t∈ai.reads,tm.get t=bF.get t) (hh:sR P ai tm s d s'):sR P ai bF s d s':=by
 cases ai with
 |op dst g o=>
  simp only[AI.reads,List.mem_append]at h
  exact Ap (fun t ht=>h t (.inl ht)) (fun e=>by rw[← Dp fun t ht=>h t (.inr ht)];exact e) hh
 |call dst g f xs=>
  simp only[AI.reads,List.mem_append]at h
  exact Ap (fun t ht=>h t (.inl ht)) (fun e=>by rw[← Hs fun t ht=>h t (.inr ht)];exact e) hh
 |nil dst g n x=>exact hh
 |jA dst g t xs=>exact hh
theorem q0 {ai:AI} {tm bF:Tm} {s:St} (h : ∀ t∈ai.reads,tm.get t=bF.get t):kh ai tm s=kh ai bF s:=by
 cases ai with
 | op dst g o=>
  simp only[AI.reads,List.mem_append]at h
  have he:=Dp (s:=s) fun t ht=>h t (.inr ht)
  cases g with
  |none=>simp only[kh,he]
  |some p=>
   obtain⟨t,want⟩:=p
   simp only[kh,he,h t (.inl (by simp[vj]))]
 |call dst g f xs=>rfl
 |nil dst g n x=>rfl
 |jA dst g t xs=>rfl
theorem M9 {dst:Option Nat} {g:Option (Nat×Bool)} {o:AO} (h:gN (AI.op dst g o).kind=false):(AI.op dst g o).kind=o.kind:=by
 unfold AI.kind at *
 split at h
 ·cases h
 ·rename_i heq;cases heq;rfl
 ·cases h
theorem Vp {ai:AI} (hk:ai.kind = .pure) {tm:Tm} {s s':St} : kh ai tm s=kh ai tm s':=by
 cases ai with
 |op dst g o=>
  have ho:o.kind = .pure:=by rw[← hk];exact(M9 (by rw[hk];rfl)).symm
  have he:=OV ho (tm:=tm) (s:=s) (s':=s')
  cases g with
  |none=>simp only[kh,he]
  |some p=>simp only[kh,he]
 |call dst g f xs=>rfl
 |nil dst g n x=>rfl
 |jA dst g t xs=>rfl
theorem apart_spec {a q:AI} (h:a.apart q=true):(∀ t,a.dst=some t→t∉q.reads)∧(∀ t,q.dst=some t→t∉a.reads)∧(∀ t,a.dst=some t→q.dst≠some t):=by
 unfold AI.apart at h
 simp only[Bool.and_eq_true]at h
 obtain⟨⟨h1,h2⟩,h3⟩:=h
 refine⟨fun t e=>?_,fun t e=>?_,fun t e e'=>?_⟩
 ·rw[e]at h1;simpa[Ep]using h1
 ·rw[e]at h2;simpa[Ep]using h2
 ·rw[e,e']at h3;simp at h3
theorem sS {tm:Tm} {dst:Option Nat} {d:D} {l:List Nat} (h : ∀ t,dst=some t→t∉l) : ∀ t∈l,tm.get t=(tm.put dst d).get t:=fun t ht=>by
 rw[Tm.lA,if_neg fun e=>h t e ht]
section
variable {P:Program} {is:List AI} {K:Tm→St→Prop}
theorem sT (hK : ∀ tm bF s,Tm.eqv tm bF→K tm s→K bF s) : ∀ (R:List (Nat×Nat)) (bQ:List St) (tm bF:Tm) (s:St),tm.eqv bF→k6 P is K R bQ tm s→k6 P is K R bQ bF s
 | [],_,tm,bF,s,e,h=>hK tm bF s e h
 | (q,b)::R,bQ,tm,bF,s,e,h=>by
  unfold k6 at *
  split at h
  ·exact h.elim
  ·rename_i ai wH
   split at h
   ·rename_i hc
    obtain⟨d,s',h1,h2⟩:=h
    exact⟨d,s',xp (fun t _=>e t) h1,sT hK R _ _ _ _ (e.put _ d) h2⟩
   ·rename_i hc
    obtain⟨d,h1,h2,h3⟩:=h
    refine⟨d, ?_,fun hl s' o5=>?_,sT hK R _ _ _ _ (e.put _ d) h3⟩
    ·rw[← q0 fun t _=>e t];exact h1
    ·rw[← q0 fun t _=>e t];exact h2 hl s' o5
theorem J6 (i:Nat) (l:List Nat):jU is (i::l)=(if gN (jB is i)then 1 else 0)+jU is l:=by
 unfold jU
 rw[List.filter_cons]
 split<;>simp<;>omega
theorem xq (hK : ∀ tm bF s,Tm.eqv tm bF→K tm s→K bF s) {q b:Nat} {ai:AI} (hq:is[q]? = some ai) (hm:gN ai.kind=false) (Y:List (Nat×Nat)) :
 ∀ (X:List (Nat×Nat)) (bQ:List St) (tm:Tm) (s:St),(∀ a∈X,lr is a.1 q=true)→(ai.kind = .load→jU is (X.map (·.1))≤b)→
  k6 P is K (X++(q,b)::Y) bQ tm s→
  ∃ d,kh ai tm s=some d∧(ai.kind = .load→∀ s'∈bQ.take (b - jU is (X.map (·.1))),kh ai tm s'=some d)∧k6 P is K (X++Y) bQ (tm.put ai.dst d) s
 | [],bQ,tm,s,_,_,h=>by
  simp only[List.nil_append,k6,hq,hm]at h
  obtain⟨d,h1,h2,h3⟩:=h
  exact⟨d,h1,fun hl s' o5=>h2 hl s' (by simpa[jU]using o5),h3⟩
 | (a,c)::X,bQ,tm,s,eU,hb,h=>by
  have OW:=eU (a,c) (by simp)
  unfold lr at OW
  split at OW
  ·rename_i ia iq hia uG
   rw[hq]at uG
   cases uG
   obtain⟨p1,p2,p3⟩:=apart_spec OW
   have Hp:jB is a=ia.kind:=by simp[jB,hia]
   have IN : ∀ x∈X,lr is x.1 q=true:=fun x hx=>eU x (List.mem_cons_of_mem _ hx)
   rw[List.map_cons,J6,Hp]at hb ⊢
   simp only[List.cons_append,k6,hia]at h ⊢
   cases hc:gN ia.kind
   ·simp only [hc,Bool.false_eq_true,if_false,Nat.zero_add]at h hb ⊢
    obtain⟨d,h1,h2,h3⟩:=h
    obtain⟨e,g1,g2,g3⟩:=xq hK hq hm Y X bQ _ s IN hb h3
    have cg : ∀ s,kh ai tm s=kh ai (tm.put ia.dst d) s:=fun s=>q0 (sS p1)
    have cg' : ∀ s,kh ia tm s=kh ia (tm.put ai.dst e) s:=fun s=>q0 (sS p2)
    refine⟨e,by rw[cg];exact g1,fun hl s' o5=>by rw[cg];exact g2 hl s' o5,d,by rw[← cg'];exact h1,fun hl s' o5=>by rw[← cg'];exact h2 hl s' o5, ?_⟩
    exact sT hK _ _ _ _ _ (Tm.J5 tm p3 d e) g3
   ·simp only [hc,if_true]at h hb ⊢
    obtain⟨d,s1,h1,h3⟩:=h
    obtain⟨e,g1,g2,g3⟩:=xq hK hq hm Y X (s::bQ) _ s1 IN (fun hl=>by have:=hb hl;omega) h3
    have cg : ∀ s,kh ai tm s=kh ai (tm.put ia.dst d) s:=fun s=>q0 (sS p1)
    have qz:kh ai tm s=some e:=by
     cases hk:ai.kind with
     |pure=>rw[cg,Vp hk (s':=s1)];exact g1
     |load=>
      have:=hb hk
      rw[cg]
      refine g2 hk s ?_
      rw[show b - jU is (X.map (·.1))=(b - (1+jU is (X.map (·.1))))+1 by omega,List.take_succ_cons]
      exact List.mem_cons_self
     |alloc=>rw[hk]at hm;cases hm
     |core=>rw[hk]at hm;cases hm
    refine⟨e,qz,fun hl s' o5=>?_,d,s1,xp (sS p2) h1,sT hK _ _ _ _ _ (Tm.J5 tm p3 d e) g3⟩
    have:=hb hl
    rw[cg]
    refine g2 hl s' ?_
    rw[show b - jU is (X.map (·.1))=(b - (1+jU is (X.map (·.1))))+1 by omega,List.take_succ_cons]
    exact List.mem_cons_of_mem _ o5
  ·cases OW
end
end Go.Abs
namespace Go.Abs
section
variable {P:Program}
theorem Sv {o:Oper} {z:List D} (h:Es P o=some (.alloc z)) : ∃ t,o.op = .alloc t∧zeroOf P t=some z:=by
 obtain⟨dst,op,type,pos,after,guard⟩:=o
 unfold Es at h
 simp only at h
 split at h
 case h_4 t=>
  split at h
  ·obtain⟨z',h1,h2⟩:=map_some h;cases h2
  ·obtain⟨z',h1,h2⟩:=map_some h;cases h2;exact⟨t,rfl,h1⟩
 all_goals
  first
   |(rw[Option.map_eq_some_iff]at h;obtain⟨_,_,h⟩:=h;cases h)
   |skip
 all_goals
  (repeat' (split at h))<;>first|(cases h;done)|(rw[Option.map_eq_some_iff]at h;obtain⟨_,_,h⟩:=h;cases h)
theorem Bq {nt:Nat} {ops:Array Oper} {o:Oper} {ai:AI} (h:cI P nt ops o=some ai) :
 ∃ g,vk ops o.guard=some g∧(∀ t,o.dst=some t→t<nt)∧sL P ops o g=some ai:=by
 have h2:=yk h
 unfold cI at h
 split at h
 ·cases h
 ·rename_i g hg
  split at h
  ·exact⟨g,hg,h2,h⟩
  ·cases h
theorem tz {ops:Array Oper} {o:Oper} {g:Option (Nat×Bool)} {ai:AI} (h:sL P ops o g=some ai):ai.dst=o.dst:=by
 unfold sL at h
 split at h
 ·split at h
  ·obtain⟨xs,_,rfl⟩:=map_some h;rfl
  ·cases h
 ·obtain⟨xs,_,rfl⟩:=map_some h;rfl
 ·split at h
  ·cases h;rfl
  ·split at h
   ·cases h;rfl
   ·cases h;rfl
   ·cases h
theorem tA {nt:Nat} {ops:Array Oper} {o:Oper} {ai:AI} (h:cI P nt ops o=some ai):ai.dst=o.dst:=by
 obtain⟨g,_,_,h⟩:=Bq h
 exact tz h
theorem xr {nt:Nat} {ops:Array Oper} {i:Nat} {o:Oper} {ai:AI} (hi:ops[i]? = some o) (hc:cI P nt ops o=some ai)
 {M:Map} {s:St} {w:World} {tm:Tm} {act:Act} (r:Rel M s w) (kQ:Laid M s w) (ht:l5 M s tm act.tmps) {K':Tm→St→Prop} (h:jb P [ai] K' tm s)
 {K:Act→World→Prop} {Q:Exit→Act→World→Prop}
 (hK : ∀ d v s1 w1 M1,K' (tm.put ai.dst d) s1→Ext M s w M1 s1 w1→Rel M1 s1 w1→RD M1 s1 d v→K (act.put o.dst v) w1):wpOp P ops Q i K act w:=by
 obtain⟨g,hg,_,hb⟩:=Bq hc
 rw[tz hb]at hK
 simp only[wpOp,hi]
 have skip:K' (tm.put o.dst (.tuple [])) s→K (act.put o.dst Go.undef) w:=fun hk=>hK _ _ _ _ _ hk (Ext.refl M s w) r .undef
 unfold sL at hb
 split at hb
 ·rename_i f args mM mL
  split at hb
  ·rename_i zm
   obtain⟨xs,oO,rfl⟩:=map_some hb
   simp only[jb]at h
   rcases kz hg ht h with ⟨hw,hA⟩|⟨hw,hB⟩
   ·simp only [hw,if_true]
    left
    have hex:(execOp act.eval o).run P w = .ok (.enter f (args.map act.eval)) w:=by
     obtain⟨dst,op,type,pos,after,guard⟩:=o
     simp only at mL
     subst mL
     exact xm act.eval dst f args mM type pos after guard rfl zm w
    obtain⟨c1,c2⟩:=wG ht oO
    unfold Oper.wp
    rw[hex,Oper.upon_enter]
    refine(hA M w (args.map act.eval) r kQ (by simp[c1]) (fun i d v e1 e2=>c2 i d v e1 (by simpa using e2))).mono ?_
    rintro en w' ⟨M',d,v,s',rfl,hk,e',r',hv⟩
    exact hK _ _ _ _ _ hk e' r' hv
   ·simp only [hw]
    exact skip hB
  ·cases hb
 ·rename_i t args mM mL
  obtain⟨xs,oO,rfl⟩:=map_some hb
  simp only[jb]at h
  rcases kz hg ht h with ⟨hw,hA⟩|⟨hw,hB⟩
  ·simp only [hw,if_true]
   left
   split at hA
   ·rename_i f nQ nM
    obtain⟨zm,hA⟩:=hA
    have Se:=ht t
    rw[nM]at Se
    obtain⟨vs,tv,hlen,ED⟩:=Se.M4
    have hex:(execOp act.eval o).run P w = .ok (.enter f (args.map act.eval++vs)) w:=by
     obtain⟨dst,op,type,pos,after,guard⟩:=o
     simp only at mL
     subst mL
     exact Bk act.eval dst (.tmp t) f vs args mM type pos after guard tv zm w
    have cc:=Hq oO ht hlen ED
    unfold Oper.wp
    rw[hex,Oper.upon_enter]
    refine(hA M w (args.map act.eval++vs) r kQ cc.1 cc.2).mono ?_
    rintro en w' ⟨M',d,v,s',rfl,hk,e',r',hv⟩
    exact hK _ _ _ _ _ hk e' r' hv
   ·exact hA.elim
  ·simp only [hw]
   exact skip hB
 ·split at hb
  ·rename_i neg x DN
   cases hb
   simp only[jb]at h
   rcases kz hg ht h with ⟨hw,hA⟩|⟨hw,hB⟩
   ·simp only [hw,if_true]
    left
    split at hA
    ·rename_i g' z rows hx
     obtain⟨b,hb,hex⟩:=Al (w:=w) DN ht hx
     unfold Oper.wp
     rw[hex,Oper.upon_value]
     exact hK _ _ _ _ _ (hA b hb) (Ext.refl M s w) r (.bool _)
    ·exact hA.elim
   ·simp only [hw]
    exact skip hB
  ·have fin : ∀ ao,ai = .op o.dst g ao→(∀ d s',aO ao tm s=some (d,s')→df P M s w (execOp act.eval o) d s')→
    (if Region.wanted o (yielded ops act.tmps)=true then o.wp P act w K Q∨(o.asks P act w∧LetsOut Q)else K (act.put o.dst Go.undef) w):=by
    intro ao wH hdo
    subst wH
    simp only[jb]at h
    rcases kz hg ht h with ⟨hw,hA⟩|⟨hw,hB⟩
    ·simp only [hw,if_true]
     left
     split at hA
     ·rename_i d s' qY
      obtain⟨v,w',M',dK,r',hv,e'⟩:=hdo d s' qY
      unfold Oper.wp
      rcases dK with dK|⟨dK,rfl⟩
      ·rw [dK,Oper.upon_value]
       exact hK _ _ _ _ _ hA e' r' hv
      ·rw [dK,Oper.upon_skip]
       exact hK _ _ _ _ _ hA e' r' hv
     ·exact hA.elim
    ·simp only [hw]
     exact skip hB
   split at hb
   ·rename_i z k n ps om
    cases hb
    refine fin _ rfl (fun d s' qY=>?_)
    split at qY
    ·exact zl om r ht qY
    ·exact sP om r ht qY
   ·rename_i ao om
    cases hb
    exact fin _ rfl (fun d s' qY=>sP om r ht qY)
   ·cases hb
structure Na (M:Map) (s:St) (b:Nat):Prop where
 o : ∀ o,o<s.ah.length→M.mu o≠b
 t : ∀ t c z,s.live t→M.be t≠some (b,c,z)
 g : ∀ off,M.G b off=none
theorem Na.mono {M M':Map} {s s':St} {w w':World} {b:Nat} (h:Na M s b) (e:Ext M s w M' s' w') (hb:b<w.heap.size):Na M' s' b:=by
 refine⟨fun o ho=>?_,fun t c z hl he=>?_,fun off=>?_⟩
 ·rcases e.mo ho with ⟨h1,h2⟩ | h1
  ·rw[h2];exact h.o o h1
  ·omega
 ·rcases e.qG t b c z hl he with ⟨h1,c',z',h2⟩ | h1
  ·exact h.t t c' z' h1 h2
  ·omega
 ·by_cases hg:M'.G b off=M.G b off
  ·rw[hg];exact h.g off
  ·rcases e.sj b off hg with h1 | ⟨t,c,z,h1,h2⟩
   ·omega
   ·exact(h.t t c z h1 h2).elim
theorem Rel.idle {M:Map} {s:St} {w:World} (r:Rel M s w) (x:Obj):Rel M s (w.alloc x)∧Ext M s w M s (w.alloc x)∧Na M s w.heap.size:=by
 refine⟨⟨fun b o v e=>?_,fun o ds e=>?_,r.jZ,r.inj,fun t n e=>?_,r.fh,r.fX⟩, ?_,⟨fun o ho=>?_,fun t c z hl e=>?_,fun off=>r.Oa (Nat.le_refl _) off⟩⟩
 ·obtain⟨h3,h4⟩:=r.comm b o v e
  refine⟨?_,h4⟩
  rw[World.cell?_alloc_lt]
  ·exact h3
  ·exact r.A5 e
 ·obtain⟨vs,T,h3,h4,h5,h6⟩:=r.obj o ds e
  exact⟨vs,T,h3.keep (heap_alloc_old w _ _ h3.lt),h4,h5,h6⟩
 ·rcases r.tok t n e with h3 | ⟨b,cap,size,fD,T',h3,h4,h5⟩
  ·exact .inl h3
  ·exact .inr ⟨b,cap,size,fD,T',h3,by rw[heap_alloc_old w _ _ (kv h4)];exact h4,h5⟩
 ·exact⟨Le.refl M s,fun b hb _ _=>heap_alloc_old w _ b hb,fun o h3 h4=>by rcases h3 with h3|h3;omega;exact(h3 rfl).elim,fun t b c z h e=> .inl ⟨h,c,z,e⟩,fun _ _ h=>(h rfl).elim,by simp,rfl,rfl,rfl⟩
 ·have:=r.qw ho;omega
 ·have:=r.sM hl e;omega
theorem Rel.agV {M:Map} {s:St} {w:World} (r:Rel M s w) {B:fa} (e:Ext B.M B.s B.w M s w) {b:Nat} (u:Na M s b) (hb:B.w.heap.size≤b)
 (ds:List D) (vs:Array Value) (T:TypeId) (hh:w.heap[b]? = some (.cells vs T (0,0))) (hl:vs.size=ds.length) (h1 : ∀ v∈vs,v.oneCell'=true)
 (h2 : ∀ (i:Nat) (d:D) (v:Value),ds[i]? = some d→vs[i]? = some v→RD M s d v) :
 Rel (M.ei s.ah.length b) {s with ah:=s.ah++ [ds]} w∧Ext B.M B.s B.w (M.ei s.ah.length b) {s with ah:=s.ah++ [ds]} w∧
 Le M s (M.ei s.ah.length b) {s with ah:=s.ah++ [ds]}:=by
 have le:=sm (M:=M) s b ds
 have mX : ∀ o,o<s.ah.length→(M.ei s.ah.length b).mu o=M.mu o:=fun o ho=>congrArg Prod.fst (tj M b .any ho)
 have dv:(M.ei s.ah.length b).mu s.ah.length=b:=by simp[Map.ei,Map.mu]
 refine⟨⟨r.comm,fun o tn e'=>?_,fun o ho off=>?_,fun o o' ho nL e'=>?_,r.tok,fun t b' c z o hl e' ho=>?_,r.fX⟩, ?_,le⟩
 ·rcases Nat.lt_or_ge o s.ah.length with ho | ho
  ·rw [List.getElem?_append_left ho]at e'
   obtain⟨fD,T',h3,h4,h5,h6⟩:=r.obj o tn e'
   refine⟨fD,T', ?_,h4,⟨h5.1,by rw[le.ty o ho];exact h5.2⟩,fun i d v e1 e2=>(h6 i d v e1 e2).mono le⟩
   rw[tj M b .any ho];exact h3
  ·rw [List.getElem?_append_right ho]at e'
   have:o=s.ah.length:=by
    have:=(List.getElem?_eq_some_iff.1 e').1
    simp at this;omega
   subst this
   simp at e';subst e'
   refine⟨vs,T, ?_,hl,⟨h1,fun T' h=>by simp[Map.ei,Map.ty,Ob.ty?]at h⟩,fun i d v e1 e2=>(h2 i d v e1 e2).mono le⟩
   have hl:(M.ei s.ah.length b).loc s.ah.length=(b, .any):=by simp[Map.ei]
   rw[hl];exact iM.of hh trivial
 ·simp at ho
  rcases Nat.lt_or_ge o s.ah.length with h3|h3
  ·rw[mX o h3];exact r.jZ o h3 off
  ·have:o=s.ah.length:=by omega
   subst this
   rw[dv];exact u.g off
 ·simp at ho nL
  rcases Nat.lt_or_ge o s.ah.length with h3|h3<;>rcases Nat.lt_or_ge o' s.ah.length with h4|h4
  ·rw[mX o h3,mX o' h4]at e';exact r.inj o o' h3 h4 e'
  ·have:o'=s.ah.length:=by omega
   subst this
   rw[mX o h3,dv]at e'
   exact(u.o o h3 e').elim
  ·have:o=s.ah.length:=by omega
   subst this
   rw[mX o' h4,dv]at e'
   exact(u.o o' h4 e'.symm).elim
  ·omega
 ·simp at ho
  rcases Nat.lt_or_ge o s.ah.length with h3|h3
  ·rw[mX o h3];exact r.fh t b' c z o hl e' h3
  ·have:o=s.ah.length:=by omega
   subst this
   rw[dv]
   intro he
   subst he
   exact u.t t c z hl e'
 ·refine⟨e.le.trans le,e.kept,fun o h3 h4=> ?_,e.qG,e.sj,e.size,e.os,e.tape,e.output⟩
  simp at h4
  rcases Nat.lt_or_ge o s.ah.length with h5|h5
  ·rw[mX o h5]at h3 ⊢;exact e.tU o h3 h5
  ·have:o=s.ah.length:=by omega
   subst this
   rw[dv];exact hb
theorem Mh {nt:Nat} {ops:Array Oper} {i:Nat} {o:Oper} {t:Nat} {z:List D} (hi:ops[i]? = some o) (hc:cI P nt ops o=some (.op (some t) none (.alloc z)))
 {w:World} {act:Act} {K:Act→World→Prop} {Q:Exit→Act→World→Prop}
 (hK : ∀ vs T,vs.size=z.length→(∀ v∈vs,v.oneCell'=true)→(∀ (M:Map) (s:St) (i:Nat) (d:D) (v:Value),z[i]? = some d→vs[i]? = some v→RD M s d v)→
  K (act.put (some t) (.pointer (some ⟨w.heap.size,0,none⟩))) (w.alloc (.cells vs T))):wpOp P ops Q i K act w:=by
 obtain⟨g,hg,_,hb⟩:=Bq hc
 have qK:=tz hb
 simp only[AI.dst]at qK
 simp only[wpOp,hi]
 have mL:g=none∧Es P o=some (.alloc z):=by
  unfold sL at hb
  split at hb
  ·split at hb
   ·obtain⟨xs,_,h⟩:=map_some hb;cases h
   ·cases hb
  ·obtain⟨xs,_,h⟩:=map_some hb;cases h
  ·split at hb
   ·cases hb
   ·split at hb
    ·rename_i om
     simp only[Option.some.injEq,AI.op.injEq]at hb
     obtain⟨_,_,h⟩:=hb
     split at h<;>cases h
    ·rename_i ao om
     simp only[Option.some.injEq,AI.op.injEq]at hb
     obtain⟨_,h1,h2⟩:=hb
     subst h2
     exact⟨h1,om⟩
    ·cases hb
 obtain⟨rfl,om⟩:=mL
 obtain⟨T,hT,hz⟩:=Sv om
 have hw:Region.wanted o (yielded ops act.tmps)=true:=by
  have:o.guard=none:=by
   cases Hh:o.guard with
   |none=>rfl
   |some p=>
    obtain⟨j,b⟩:=p
    rw[Hh]at hg
    unfold vk at hg
    simp only at hg
    split at hg<;>cases hg
  simp[Region.wanted,this]
 simp only[hw,if_true]
 left
 unfold zeroOf at hz
 split at hz
 ·rename_i inf ON
  split at hz
  ·rename_i v hv
   split at hz
   ·have dK:(execOp act.eval o).run P w = .ok (.value (.pointer (some ⟨w.heap.size,0,none⟩))) (w.alloc (.cells v.cells T)):=by
     obtain⟨dst,op,type,pos,after,guard⟩:=o
     simp only at hT
     subst hT
     simp[execOp,Instr.alloc,zeroValue,fZ P ON,hv,newVar,newRow]
    have h3:=fun M s=>ly (M:=M) (s:=s) hz
    obtain⟨h1,h2,_⟩:=h3 ⟨fun _ _=>none,fun _=>(0, .any),fun _=>none⟩ ⟨[],[]⟩
    unfold Oper.wp
    rw[dK,Oper.upon_value, ← qK]
    exact hK _ _ (by rw[h1];simp) (fun u hu=>h2 u (by simpa using hu)) (fun M s i d u e1 e2=>(h3 M s).2.2 i d u e1 (by simpa using e2))
   ·cases hz
  ·cases hz
 ·cases hz
end
end Go.Abs
namespace Go.Abs
section
variable {is:List AI} {af pt:List (List Nat)}
theorem Aq {pq:List Nat} {l l':List Nat} (h:l'.Sublist l) (hb:lg is pq l=true):lg is pq l'=true:=by
 induction h with
 |slnil=>rfl
 |cons a h ih=>
  simp only[lg,Bool.and_eq_true]at hb
  exact ih hb.2
 |cons_cons a h ih=>
  simp only[lg,Bool.and_eq_true,Bool.or_eq_true]at hb ⊢
  refine⟨hb.1.imp id fun h1=>?_,ih hb.2⟩
  rw[List.all_eq_true]at h1 ⊢
  exact fun x hx=>h1 x (h.subset hx)
theorem Cr {f:Nat→Bool} {l l':List Nat} (h:l'.Sublist l) (ha:l.all f=true):l'.all f=true:=by
 rw[List.all_eq_true]at ha ⊢
 exact fun x hx=>ha x (h.subset hx)
theorem Mi {l l':List Nat} (h:l'.Sublist l):jU is l'≤jU is l:=(h.filter _).length_le
theorem OX {pre Gj:List Nat} {q b:Nat} (h:Gj.Sublist pre) (hs:oZ is pt pre q b=true):oZ is pt Gj q b=true:=by
 unfold oZ at *
 split at hs
 ·exact Cr h hs
 ·exact Cr h hs
 ·simp only [Bool.and_eq_true]at hs ⊢
  exact⟨Cr h hs.1,Aq h hs.2⟩
 ·simp only [Bool.and_eq_true,decide_eq_true_eq]at hs ⊢
  exact⟨⟨Cr h hs.1.1,Aq h hs.1.2⟩,Nat.le_trans (Mi (h.filter _)) hs.2⟩
theorem J7 : ∀ {R:List (Nat×Nat)} {pre Gj:List Nat},Gj.Sublist pre→uD is af pt pre R=true→uD is af pt Gj R=true
 | [],_,_,_,_=>rfl
 |(q,b)::R,pre,Gj,h,ho=>by
  simp only[uD,Bool.and_eq_true,Bool.not_eq_true']at ho ⊢
  obtain⟨⟨⟨h1,h2⟩,h3⟩,h4⟩:=ho
  refine⟨⟨⟨OX h h1, ?_⟩,h3⟩,J7 (h.cons_cons q) h4⟩
  rw[← Bool.not_eq_true,List.contains_iff_mem]at h2 ⊢
  exact fun hm=>h2 (h.subset hm)
theorem Gk : ∀ {X:List (Nat×Nat)} {e:Nat×Nat} {Y:List (Nat×Nat)} {pre:List Nat},uD is af pt pre (X++e::Y)=true→uD is af pt pre (X++Y)=true
 | [],(q,b),Y,pre,h=>by
  simp only[List.nil_append,uD,Bool.and_eq_true]at h
  exact J7 (List.sublist_cons_self q pre) h.2
 |(a,c)::X,e,Y,pre,h=>by
  simp only[List.cons_append,uD,Bool.and_eq_true]at h ⊢
  obtain⟨⟨⟨h1,h2⟩,h3⟩,h4⟩:=h
  refine⟨⟨⟨h1,h2⟩, ?_⟩,Gk h4⟩
  rw[List.all_eq_true]at h3 ⊢
  intro j hj
  have:=h3 j hj
  simp only[Bool.and_eq_true,Bool.not_eq_true']at this ⊢
  refine⟨this.1, ?_⟩
  have h5:=this.2
  rw[← Bool.not_eq_true,List.contains_iff_mem]at h5 ⊢
  refine fun hm=>h5 ?_
  simp only[List.map_append,List.map_cons,List.mem_append,List.mem_cons]at hm ⊢
  exact hm.imp id .inr
theorem tB : ∀ {X:List (Nat×Nat)} {q b:Nat} {Y:List (Nat×Nat)} {pre:List Nat},uD is af pt pre (X++(q,b)::Y)=true→
 oZ is pt ((X.map (·.1)).reverse++pre) q b=true∧q∉X.map (·.1)∧q∉pre∧(∀ j∈ib af q,j≠q∧j∉Y.map (·.1))∧uD is af pt (q::((X.map (·.1)).reverse++pre)) Y=true
 | [],q,b,Y,pre,h=>by
  simp only[List.nil_append,uD,Bool.and_eq_true,Bool.not_eq_true']at h
  obtain⟨⟨⟨h1,h2⟩,h3⟩,h4⟩:=h
  rw[← Bool.not_eq_true,List.contains_iff_mem]at h2
  refine⟨h1,by simp,h2,fun j hj=>?_,h4⟩
  rw[List.all_eq_true]at h3
  have:=h3 j hj
  simp only[Bool.and_eq_true,bne_iff_ne,Bool.not_eq_true', ← Bool.not_eq_true,List.contains_iff_mem]at this
  exact this
 |(a,c)::X,q,b,Y,pre,h=>by
  simp only[List.cons_append,uD,Bool.and_eq_true]at h
  obtain⟨_,h4⟩:=h
  obtain⟨g1,g2,g3,g4,g5⟩:=tB h4
  simp only[List.map_cons,List.reverse_cons,List.append_assoc,List.singleton_append]
  refine⟨g1, ?_,fun h=>g3 (List.mem_cons_of_mem _ h),g4,g5⟩
  intro hm
  rcases List.mem_cons.1 hm with rfl|hm
  ·exact g3 (by simp)
  ·exact g2 hm
theorem Cs : ∀ {Y:List (Nat×Nat)} {pre:List Nat},uD is af pt pre Y=true→∀ x∈Y,x.1∉pre∧(jB is x.1 = .alloc→∀ a∈pre,lr is a x.1=true)
 | [],_,_,x,hx=>by cases hx
 | (q,b)::Y,pre,h,x,hx=>by
  simp only[uD,Bool.and_eq_true,Bool.not_eq_true']at h
  obtain⟨⟨⟨h1,h2⟩,_⟩,h4⟩:=h
  rw[← Bool.not_eq_true,List.contains_iff_mem]at h2
  rcases List.mem_cons.1 hx with rfl|hx
  ·refine⟨h2,fun hk a ha=> ?_⟩
   unfold oZ at h1
   simp only[hk]at h1
   rw[List.all_eq_true]at h1
   exact h1 a ha
  ·obtain⟨g1,g2⟩:=Cs h4 x hx
   exact⟨fun h=>g1 (List.mem_cons_of_mem _ h),fun hk a ha=>g2 hk a (List.mem_cons_of_mem _ ha)⟩
theorem Dq : ∀ {n:Nat},xY af pt n=true→∀ i,i<n→∀ j∈ib pt i,j∈ib af i∨∃ k∈ib af i,j∈ib pt k
 | 0,_,i,hi=>by omega
 | n+1,h,i,hi=>by
  simp only[xY,Bool.and_eq_true]at h
  rcases Nat.lt_or_ge i n with h1|h1
  ·exact Dq h.2 i h1
  ·have:i=n:=by omega
   subst this
   intro j hj
   have:=h.1
   rw[List.all_eq_true]at this
   have:=this j hj
   simp only[Bool.or_eq_true,List.contains_iff_mem,List.any_eq_true]at this
   exact this
theorem yo {pq:List Nat} : ∀ {l:List Nat},lg is pq l=true→∀ (x:Nat) (l1 l2:List Nat),l=l1++x::l2→jB is x = .alloc→x∈pq→∀ y∈l2,y∈pq
 | [],_,x,l1,l2,h=>by simp at h
 | a::l,hb,x,l1,l2,h=>by
  simp only[lg,Bool.and_eq_true,Bool.or_eq_true,Bool.not_eq_true',Bool.and_eq_false_iff]at hb
  intro hk hx y hy
  cases l1 with
  | nil=>
   simp only[List.nil_append,List.cons.injEq]at h
   obtain⟨rfl,rfl⟩:=h
   rcases hb.1 with h1|h1
   ·rcases h1 with h1 | h1
    ·simp[hk]at h1
    ·rw [← Bool.not_eq_true,List.contains_iff_mem]at h1
     exact(h1 hx).elim
   ·rw [List.all_eq_true]at h1
    have:=h1 y hy
    rwa [List.contains_iff_mem]at this
  |cons b l1=>
   simp only[List.cons_append,List.cons.injEq]at h
   exact yo hb.2 x l1 l2 h.2 hk hx y hy
end
structure Pd where
 q:Nat
 t:Nat
 z:List D
 b:Nat
structure acY (is:List AI) (R:List (Nat×Nat)) (B:fa) (M:Map) (s:St) (act:Act) (w:World) (p:Pd):Prop where
 mem:p.q∈R.map (·.1)
 ai:is[p.q]? = some (.op (some p.t) none (.alloc p.z))
 cells : ∃ (vs:Array Value) (T:TypeId),w.heap[p.b]? = some (.cells vs T (0,0))∧vs.size=p.z.length∧(∀ v∈vs,v.oneCell'=true)∧
  ∀ (M:Map) (s:St) (i:Nat) (d:D) (v:Value),p.z[i]? = some d→vs[i]? = some v→RD M s d v
 unk:Na M s p.b
 base:B.w.heap.size≤p.b
 slot:act.tmps.getD p.t Go.undef = .pointer (some ⟨p.b,0,none⟩)
def zp (P:Program) (is:List AI) (K:Tm→St→Prop) (B:fa) (nt:Nat) (R:List (Nat×Nat)) (eE:List Pd) (act:Act) (w:World):Prop:=
 ∃ (M:Map) (s:St) (tm tC:Tm) (bQ:List St),Ext B.M B.s B.w M s w∧Rel M s w∧l5 M s tC act.tmps∧(∀ t,(∀ p∈eE,p.t≠t)→tC.get t=tm.get t)∧
  act.tmps.size=nt∧act.defers = []∧k6 P is K R bQ tm s∧(∀ p∈eE,acY is R B M s act w p)∧
  (∀ p∈eE,∀ p'∈eE,p.q=p'.q∨p.t=p'.t∨p.b=p'.b→p=p')
structure rC (is:List AI) (af pt:List (List Nat)) (dL:Array Bool) (R:List (Nat×Nat)) (eE:List Pd):Prop where
 ok:uD is af pt [] R=true
 Ht : ∀ i,i<is.length→(dL.getD i false=true↔(i∉R.map (·.1)∨∃ p∈eE,p.q=i))
 cl : ∀ i,i<is.length→dL.getD i false=true→∀ j∈ib pt i,dL.getD j false=true
 size:dL.size=is.length
 lt : ∀ x∈R,x.1<is.length
section
variable {P:Program} {is:List AI} {af pt:List (List Nat)} {K:Tm→St→Prop} {B:fa} {nt:Nat}
theorem acZ {dL:Array Bool} {q b:Nat} {R:List (Nat×Nat)} {eE:List Pd} {act:Act} {w:World} (hs:rC is af pt dL ((q,b)::R) eE) (h:zp P is K B nt ((q,b)::R) eE act w)
 {p:Pd} (hp:p∈eE) (uH:p.q=q) :
 rC is af pt dL R (eE.filter fun p'=>decide (p'.q≠q))∧zp P is K B nt R (eE.filter fun p'=>decide (p'.q≠q)) act w:=by
 have iR : ∀ p',p'∈(eE.filter fun p'=>decide (p'.q≠q))↔p'∈eE∧p'.q≠q:=fun p'=>by simp
 constructor
 ·have pV:=hs.ok
  have DQ:=tB (X:= []) pV
  refine⟨Gk (X:= []) pV,fun i hi=>?_,hs.cl,hs.size,fun x hx=>hs.lt x (List.mem_cons_of_mem _ hx)⟩
  rw[hs.Ht i hi]
  simp only[List.map_cons,List.mem_cons,not_or]
  have hqR:q∉R.map (·.1):=fun hm=>by
   obtain⟨x,hx,rfl⟩:=List.mem_map.1 hm
   exact(Cs DQ.2.2.2.2 x hx).1 (by simp)
  constructor
  ·rintro(⟨h1,h2⟩ | ⟨p',h1,h2⟩)
   ·exact .inl h2
   ·by_cases hq:i=q
    ·subst hq;exact .inl hqR
    ·exact .inr ⟨p',(iR p').2 ⟨h1,by rw[h2];exact hq⟩,h2⟩
  ·rintro(h1 | ⟨p',h1,h2⟩)
   ·by_cases hq:i=q
    ·subst hq;exact .inr ⟨p,hp,uH⟩
    ·exact .inl ⟨hq,h1⟩
   ·exact .inr ⟨p',((iR p').1 h1).1,h2⟩
 ·obtain⟨M,s,tm,tC,bQ,e,r,ht,qz,hn,hd,hg,wJ,sU⟩:=h
  have hk:=wJ p hp
  obtain⟨vs,T,hh,hl,h1,h2⟩:=hk.cells
  have wH:=hk.ai
  rw[uH]at wH
  simp only[k6,wH,AI.kind,gN]at hg
  obtain⟨d,s',jV,hg⟩:=hg
  have qY:aO (.alloc p.z) tm s=some (d,s'):=jV
  simp only[aO,Option.some.injEq,Prod.mk.injEq]at qY
  obtain⟨rfl,rfl⟩:=qY
  obtain⟨r',e',le⟩:=r.agV e hk.unk hk.base p.z vs T hh hl h1 (h2 M s)
  refine⟨_,_,_,tC.put (some p.t) (.ptr s.ah.length 0),_,e',r',fun u=>?_,fun t Nb=>?_,hn,hd,hg,fun p' mU=>?_,fun p1 h1 p2 h2=>sU p1 ((iR p1).1 h1).1 p2 ((iR p2).1 h2).1⟩
  ·rw [Tm.lA]
   split
   ·rename_i heq
    cases heq
    rw[hk.slot]
    have:(M.ei s.ah.length p.b).mu s.ah.length=p.b:=by simp[Map.ei,Map.mu]
    have h5:=RD.ptr (M:=M.ei s.ah.length p.b) (s:= {s with ah:=s.ah++ [p.z]}) s.ah.length 0 (by simp) (by simp[Map.ei,Map.ob,Ob.plain])
    rw[this]at h5
    exact h5
   ·exact(ht u).mono le
  ·simp only [AI.dst]
   rw[Tm.lA,Tm.lA]
   split
   ·rfl
   ·rename_i fl
    refine qz t fun p' mU=>?_
    by_cases hq:p'.q=q
    ·have:=sU p' mU p hp (.inl (hq.trans uH.symm))
     subst this
     exact fun h=>fl (by rw[h])
    ·exact Nb p' ((iR p').2 ⟨mU,hq⟩)
  ·obtain⟨hp1,hp2⟩:=(iR p').1 mU
   have uB:=wJ p' hp1
   refine⟨?_,uB.ai,uB.cells,⟨fun o ho=>?_,uB.unk.t,uB.unk.g⟩,uB.base,uB.slot⟩
   ·have:=uB.mem
    simp only[List.map_cons,List.mem_cons]at this
    exact this.resolve_left hp2
   ·simp at ho
    rcases Nat.lt_or_ge o s.ah.length with h5|h5
    ·rw[show(M.ei s.ah.length p.b).mu o=M.mu o from congrArg Prod.fst (tj M p.b .any h5)];exact uB.unk.o o h5
    ·have:o=s.ah.length:=by omega
     subst this
     have:(M.ei s.ah.length p.b).mu s.ah.length=p.b:=by simp[Map.ei,Map.mu]
     rw[this]
     intro hb
     have:=sU p hp p' hp1 (.inr (.inr hb))
     subst this
     exact hp2 uH
theorem norm {dL:Array Bool} {act:Act} {w:World} : ∀ (R:List (Nat×Nat)) (eE:List Pd),rC is af pt dL R eE→zp P is K B nt R eE act w→
 ∃ R' wK,rC is af pt dL R' wK∧zp P is K B nt R' wK act w∧∀ x l,R'=x::l→∀ p∈wK,p.q≠x.1
 | [],eE,hs,h=>⟨[],eE,hs,h,fun _ _ he=>by cases he⟩
 | (q,b)::R,eE,hs,h=>by
  by_cases hp : ∃ p∈eE,p.q=q
  ·obtain⟨p,hp,uH⟩:=hp
   obtain⟨h1,h2⟩:=acZ hs h hp uH
   exact norm R _ h1 h2
  ·refine⟨(q,b)::R,eE,hs,h,fun x l he p hpm uH=>hp ⟨p,hpm, ?_⟩⟩
   cases he
   exact uH
theorem Yy {ops:Array Oper} {q:Nat} {o:Oper} {ai:AI} (hi:ops[q]? = some o) (hc:cI P nt ops o=some ai) {R R':List (Nat×Nat)} {eE:List Pd} {act:Act} {w:World} {M:Map} {s s1:St} {tm tC:Tm} {d:D} {Yz:List St}
 (e:Ext B.M B.s B.w M s w) (r:Rel M s w) (ht:l5 M s tC act.tmps) (qz : ∀ t,(∀ p∈eE,p.t≠t)→tC.get t=tm.get t) (hn:act.tmps.size=nt) (hd:act.defers = [])
 (wJ : ∀ p∈eE,acY is R B M s act w p) (sU : ∀ p∈eE,∀ p'∈eE,p.q=p'.q∨p.t=p'.t∨p.b=p'.b→p=p')
 (hv:jb P [ai] (fun a b=>a=tC.put ai.dst d∧b=s1) tC s) (hg:k6 P is K R' Yz (tm.put ai.dst d) s1)
 (iR : ∀ p∈eE,p.q∈R'.map (·.1)) (qK : ∀ p∈eE,ai.dst≠some p.t) {Q:Exit→Act→World→Prop} :
 wpOp P ops Q q (zp P is K B nt R' eE) act w:=by
 refine xr hi hc r (B.laid.ext e) ht hv fun d' v s2 w1 M1 hk e1 r1 jC=>?_
 obtain⟨rn,rfl⟩:=hk
 have hde:=tA hc
 have hC : ∀ t,o.dst=some t→t<act.tmps.size:=fun t h=>by rw[hn];exact yk hc t h
 refine⟨M1,s2,tm.put ai.dst d,tC.put ai.dst d,Yz,e.trans e1,r1, ?_,fun t Nb=>?_, ?_, ?_,hg,fun p hp=>?_,sU⟩
 ·rw [← rn,hde]
  exact(ht.mono e1.le).put hC jC
 ·rw[Tm.lA,Tm.lA,qz t Nb]
 ·cases ho:o.dst<;>simp[Act.put,hn]
 ·cases ho:o.dst<;>simp[Act.put,hd]
 ·have hk:=wJ p hp
  obtain⟨vs,T,hh,hl,h1,h2⟩:=hk.cells
  have hb:=kv hh
  refine⟨iR p hp,hk.ai,⟨vs,T,by rw[e1.kept p.b hb hk.unk.o hk.unk.t];exact hh,hl,h1,h2⟩,hk.unk.mono e1 hb,hk.base, ?_⟩
  rw[← hk.slot]
  have:=qK p hp
  rw[hde]at this
  cases ho:o.dst with
  |none=>rfl
  |some t=>
   rw[ho]at this
   have fl:t≠p.t:=fun h=>this (by rw[h])
   simp[Act.put,Array.getElem?_setIfInBounds_ne fl]
theorem OY {ai:AI} (hm:gN ai.kind=false) {tm:Tm} {s:St} {d:D} (h:kh ai tm s=some d):jb P [ai] (fun a b=>a=tm.put ai.dst d∧b=s) tm s:=by
 cases ai with
 | op dst g o=>
  have hko:=M9 hm
  have key : ∀ {d},(aO o tm s).map (·.1)=some d→aO o tm s=some (d,s):=by
   intro d h
   cases he:aO o tm s with
   |none=>rw[he]at h;cases h
   |some p=>
    obtain⟨d',s'⟩:=p
    rw[he]at h
    simp only[Option.map_some,Option.some.injEq]at h
    subst h
    rw[Mg (by rw[← hko];exact hm) he]
  simp only[jb,AI.dst]
  cases g with
  |none=>
   simp only[kh]at h
   simp only[guarded,key h,and_self]
  | some p=>
   obtain⟨t,want⟩:=p
   simp only[kh]at h
   simp only[guarded]
   split at h
   ·rename_i b hb
    simp only[hb]
    split at h
    ·rename_i heq
     refine⟨fun _=>by simp only[key h,and_self],fun fl=>?_⟩
     subst heq
     cases b<;>cases fl
    ·rename_i fl
     cases h
     exact⟨fun heq=>(fl heq).elim,fun _=>by simp⟩
   ·rename_i ds hb
    cases h
    simp only[hb,and_self]
   ·cases h
 |call dst g f xs=>cases hm
 |nil dst g n x=>cases hm
 |jA dst g t xs=>cases hm
theorem Br {g:Option (Nat×Bool)} {tm:Tm} {A A' C C':Prop} (ha:A→A') (hc:C→C') (hh:guarded g tm A C):guarded g tm A' C':=by
 cases g with
 |none=>exact ha hh
 | some p=>
  obtain⟨t,want⟩:=p
  unfold guarded at *
  simp only at *
  split
  ·rename_i b hb;rw[hb]at hh;exact⟨fun e=>ha (hh.1 e),fun e=>hc (hh.2 e)⟩
  ·rename_i hb;rw[hb]at hh;exact hc hh
  ·rename_i x h1 h2
   split at hh
   ·exact h1 _ ‹_›
   ·exact h2 _ ‹_›
   ·exact hh
theorem J8 {ai:AI} {tm:Tm} {s s1:St} {d:D} (h:sR P ai tm s d s1):jb P [ai] (fun a b=>a=tm.put ai.dst d∧b=s1) tm s:=by
 cases ai with
 |op dst g o=>
  refine Br (fun e=>?_) (fun e=>?_) h
  ·rw[e];exact⟨rfl,rfl⟩
  ·obtain⟨rfl,rfl⟩:=e;exact⟨rfl,rfl⟩
 |call dst g f xs=>
  refine Br (fun e=>?_) (fun e=>?_) h
  ·exact e.mono fun x y hxy=>by obtain⟨rfl,rfl⟩:=hxy;exact⟨rfl,rfl⟩
  ·obtain⟨rfl,rfl⟩:=e;exact⟨rfl,rfl⟩
 |nil dst g n x=>exact h.elim
 |jA dst g t xs=>exact h.elim
end
end Go.Abs
namespace Go.Abs
section
variable {P:Program} {is:List AI} {af pt:List (List Nat)} {K:Tm→St→Prop} {B:fa} {nt:Nat}
theorem Ct {ops:Array Oper} : ∀ {ol:List Oper} {is:List AI},rj P nt ops ol=some is→is.length=ol.length∧∀ (i:Nat) (o:Oper),ol[i]? = some o→∃ ai,is[i]? = some ai∧cI P nt ops o=some ai
 | [],is,h=>by cases h;exact⟨rfl,by simp⟩
 | o::ol,is,h=>by
  unfold rj at h
  split at h
  ·rename_i ai Sd h1 h2
   cases h
   obtain⟨g1,g2⟩:=Ct h2
   refine⟨by simp[g1],fun i o' ho=>?_⟩
   cases i with
   |zero=>simp at ho;subst ho;exact⟨ai,rfl,h1⟩
   |succ i=>exact g2 i o' (by simpa using ho)
  ·cases h
theorem sV {dL:Array Bool} {i:Nat} (h:i<dL.size):dL.getD i true=dL.getD i false:=by
 simp[h]
theorem rC.done {dL:Array Bool} {X Y:List (Nat×Nat)} {q b:Nat} {eE:List Pd} (hs:rC is af pt dL (X++(q,b)::Y) eE) (hq:q<is.length)
 (Hu : ∀ j∈ib pt q,dL.getD j false=true):rC is af pt (dL.setIfInBounds q true) (X++Y) eE:=by
 obtain⟨g1,g2,g3,g4,g5⟩:=tB hs.ok
 have hqY:q∉Y.map (·.1):=fun hm=>by
  obtain⟨x,hx,rfl⟩:=List.mem_map.1 hm
  exact(Cs g5 x hx).1 (by simp)
 refine⟨Gk hs.ok,fun i hi=>?_,fun i hi hl j hj=>?_,by simp[hs.size],fun x hx=>hs.lt x (by simp at hx ⊢;exact hx.imp id .inr)⟩
 ·by_cases uG:i=q
  ·subst uG
   have:i<dL.size:=by rw[hs.size];exact hq
   simp only[List.map_append,List.mem_append,g2,hqY,or_self,not_false_eq_true,true_or,iff_true]
   simp[this]
  ·rw [getD_set_ne false (Ne.symm uG),hs.Ht i hi]
   simp[uG]
 ·by_cases uG:i=q
  ·subst uG;exact getD_set_true (Hu j hj)
  ·rw [getD_set_ne false (Ne.symm uG)]at hl
   exact getD_set_true (hs.cl i hi hl j hj)
theorem rC.flag {dL:Array Bool} {R:List (Nat×Nat)} {eE:List Pd} (hs:rC is af pt dL R eE) {p:Pd} (hq:p.q<is.length)
 (Hu : ∀ j∈ib pt p.q,dL.getD j false=true):rC is af pt (dL.setIfInBounds p.q true) R (p::eE):=by
 refine⟨hs.ok,fun i hi=>?_,fun i hi hl j hj=>?_,by simp[hs.size],hs.lt⟩
 ·by_cases uG:i=p.q
  ·subst uG
   have:p.q<dL.size:=by rw[hs.size];exact hq
   simp[this]
  ·rw [getD_set_ne false (Ne.symm uG),hs.Ht i hi]
   have fl:p.q≠i:=fun h=>uG h.symm
   simp[fl]
 ·by_cases uG:i=p.q
  ·subst uG;exact getD_set_true (Hu j hj)
  ·rw [getD_set_ne false (Ne.symm uG)]at hl
   exact getD_set_true (hs.cl i hi hl j hj)
theorem OZ {ai:AI} (h:ai.kind = .alloc) : ∃ t z,ai = .op (some t) none (.alloc z):=by
 cases ai with
 | op dst g o=>
  unfold AI.kind at h
  split at h
  ·rename_i heq;cases heq;exact⟨_,_,rfl⟩
  ·rename_i heq
   cases heq
   exfalso
   revert h
   cases o<;>simp[AO.kind]
  ·cases h
 |call dst g f xs=>cases h
 |nil dst g n x=>cases h
 |jA dst g t xs=>cases h
theorem O0 {ops:Array Oper} (xu:rj P nt ops ops.toList=some is) (O1:xY af pt is.length=true)
 (hK : ∀ tm bF s,Tm.eqv tm bF→K tm s→K bF s) {dL:Array Bool} {R:List (Nat×Nat)} {eE:List Pd} {act:Act} {w:World} (hs:rC is af pt dL R eE) (h:zp P is K B nt R eE act w)
 (agW : ∀ x l,R=x::l→∀ p∈eE,p.q≠x.1) {q:Nat} (hq:q<is.length) (EH:dL.getD q false=false) (jC : ∀ j∈ib af q,j<is.length∧dL.getD j false=true)
 {Q:Exit→Act→World→Prop} {K2:Act→World→Prop} (hK2 : ∀ R' wK a' w',rC is af pt (dL.setIfInBounds q true) R' wK→zp P is K B nt R' wK a' w'→K2 a' w'):wpOp P ops Q q K2 act w:=by
 obtain⟨hlen,hE⟩:=Ct xu
 have vt:q<ops.size:=by rw[hlen]at hq;simpa using hq
 obtain⟨ai,wH,Sx⟩:=hE q ops[q] (by simp[vt])
 have hi:ops[q]? = some ops[q]:=by simp[vt]
 have Hu : ∀ j∈ib pt q,dL.getD j false=true:=fun j hj=>by
  rcases Dq O1 q hq j hj with h1|⟨k,h1,h2⟩
  ·exact(jC j h1).2
  ·exact hs.cl k (jC k h1).1 (jC k h1).2 j h2
 have Sy : ∀ p∈eE,p.q≠q:=fun p hp uH=>by
  have:=(hs.Ht q hq).2 (.inr ⟨p,hp,uH⟩)
  rw[EH]at this;cases this
 have hqR:q∈R.map (·.1):=by
  by_cases hm:q∈R.map (·.1)
  ·exact hm
  ·have:=(hs.Ht q hq).2 (.inl hm)
   rw[EH]at this;cases this
 obtain⟨⟨q',b⟩,hx,hqq⟩:=List.mem_map.1 hqR
 simp only at hqq
 subst hqq
 obtain⟨X,Y,rfl⟩:=List.append_of_mem hx
 obtain⟨g1,g2,g3,g4,g5⟩:=tB hs.ok
 rw[List.append_nil]at g1 g5
 obtain⟨M,s,tm,tC,bQ,e,r,ht,qz,hn,hd,hg,wJ,sU⟩:=h
 have Sz:jB is q'=ai.kind:=by simp[jB,wH]
 -- what must have come up ahead of it, is not here any more, but for what was allocated early
 have YA : ∀ a∈X.map (·.1),a∈ib pt q'→∃ p∈eE,p.q=a:=fun a ha eU=>by
  have h1:=Hu a eU
  obtain⟨x,hxX,rfl⟩:=List.mem_map.1 ha
  rcases(hs.Ht x.1 (hs.lt x (by simp[hxX]))).1 h1 with h2|h2
  ·exact(h2 (by simp;exact .inl ⟨x.2,hxX⟩)).elim
  ·exact h2
 have YB : ∀ x l,X=x::l→x.1∉ib pt q':=fun x l hX hxp=>by
  obtain⟨p,hp,uH⟩:=YA x.1 (by simp[hX]) hxp
  exact agW x (l++(q',b)::Y) (by simp[hX]) p hp uH
 have hpk : ∀ p∈eE,jB is p.q = .alloc:=fun p hp=>by simp[jB,(wJ p hp).ai,AI.kind]
 have DQ : ∀ p∈eE,(p.q∈X.map (·.1)→lr is p.q q'=true)→(∀ t,ai.dst=some t→t≠p.t)∧p.t∉ai.reads:=fun p hp hX=>by
  have hk:=wJ p hp
  have hm:=hk.mem
  simp only[List.map_append,List.map_cons,List.mem_append,List.mem_cons]at hm
  rcases hm with hm|hm|hm
  ·have:=hX hm
   simp only[lr,hk.ai,wH]at this
   obtain⟨p1,p2,p3⟩:=apart_spec this
   exact⟨fun t ht he=>p3 p.t rfl (by rw[ht,he]),p1 p.t rfl⟩
  ·exact(Sy p hp hm).elim
  ·obtain⟨x,hxY,YC⟩:=List.mem_map.1 hm
   have:=(Cs g5 x hxY).2 (by rw[YC];exact hpk p hp) q' (by simp)
   rw[YC]at this
   simp only[lr,hk.ai,wH]at this
   obtain⟨p1,p2,p3⟩:=apart_spec this
   exact⟨fun t ht he=>p3 t ht (by rw[he];rfl),p2 p.t rfl⟩
 have SA:(∀ p∈eE,p.t∉ai.reads)→∀ t∈ai.reads,tm.get t=tC.get t:=fun hp t ht=>(qz t fun p hpm he=>hp p hpm (by rw[he];exact ht)).symm
 have YD : ∀ p∈eE,p.q∈(X++Y).map (·.1):=fun p hp=>by
  have hm:=(wJ p hp).mem
  have:=Sy p hp
  simp only[List.map_append,List.map_cons,List.mem_append,List.mem_cons]at hm ⊢
  rcases hm with hm|hm|hm
  ·exact .inl hm
  ·exact(this hm).elim
  ·exact .inr hm
 by_cases As:ai.kind = .alloc
 ·-- an allocation
  obtain⟨t,z,rfl⟩:=OZ As
  have eU : ∀ a∈X.map (·.1),lr is a q'=true:=fun a ha=>by
   unfold oZ at g1
   rw[Sz,As]at g1
   simp only[List.all_reverse,List.all_eq_true]at g1
   exact g1 a ha
  have Au:=fun p hp=>DQ p hp (eU p.q)
  refine Mh hi Sx fun vs T hl h1 h2=>?_
  obtain⟨r1,e1,u1⟩:=r.idle (.cells vs T)
  have ac4:t<act.tmps.size:=by
   rw[hn]
   exact yk Sx t (by rw[← tA Sx];rfl)
  have:=hs.flag (p:=⟨q',t,z,w.heap.size⟩) hq Hu
  refine hK2 _ _ _ _ this ⟨M,s,tm,tC.put (some t) .junk,bQ,e.trans e1,r1,l5.put ht (dst:=some t) (fun u hu=>by cases hu;exact ac4) (.junk _),fun u hu=>?_,by simp[Act.put,hn],by simp[Act.put,hd],hg,fun p hp=>?_,fun p hp p' mU he=>?_⟩
  ·have h3:=hu ⟨q',t,z,w.heap.size⟩ (by simp)
   rw[Tm.lA,if_neg (by simpa using h3)]
   exact qz u fun p hp=>hu p (List.mem_cons_of_mem _ hp)
  ·rcases List.mem_cons.1 hp with rfl | hp
   ·refine⟨by simp,wH,⟨vs,T,heap_alloc_new w _,hl,h1,h2⟩,u1,e.size, ?_⟩
    simp[Act.put,ac4]
   ·have hk:=wJ p hp
    obtain⟨fD,T',ku,mK,si,uF⟩:=hk.cells
    refine⟨hk.mem,hk.ai,⟨fD,T',by rw[heap_alloc_old w _ _ (kv ku)];exact ku,mK,si,uF⟩,hk.unk,hk.base, ?_⟩
    rw[← hk.slot]
    have fl:t≠p.t:=(Au p hp).1 t rfl
    simp[Act.put,Array.getElem?_setIfInBounds_ne fl]
  ·have dv : ∀ p∈eE,¬ (q'=p.q∨t=p.t∨w.heap.size=p.b):=fun p hp h=>by
    rcases h with h|h|h
    ·exact Sy p hp h.symm
    ·exact(Au p hp).1 t rfl h
    ·obtain⟨fD,T',ku,_⟩:=(wJ p hp).cells
     have:=kv ku
     omega
   rcases List.mem_cons.1 hp with rfl|hp<;>rcases List.mem_cons.1 mU with rfl|mU
   ·rfl
   ·exact(dv p' mU he).elim
   ·exact(dv p hp (he.imp Eq.symm (Or.imp Eq.symm Eq.symm))).elim
   ·exact sU p hp p' mU he
 ·by_cases om:gN ai.kind=true
  ·-- a step that changes something: it stands first
   have hkc:ai.kind = .core:=by
    cases hk:ai.kind<;>simp_all [gN]
   have hX:X = []:=by
    cases X with
    |nil=>rfl
    |cons x l=>
     refine(YB x l rfl ?_).elim
     unfold oZ at g1
     rw[Sz,hkc]at g1
     simp only[List.all_reverse,List.all_eq_true]at g1
     have:=g1 x.1 (by simp)
     rwa [List.contains_iff_mem]at this
   subst hX
   have Au:=fun p hp=>DQ p hp (fun h=>by simp at h)
   simp only[List.nil_append,k6,wH,om]at hg
   obtain⟨d,s1,jV,hg⟩:=hg
   have akw:=xp (SA fun p hp=>(Au p hp).2) jV
   refine wpOp_mono (fun a' w' hr=>hK2 _ _ _ _ (hs.done hq Hu) hr) ?_
   exact Yy hi Sx e r ht qz hn hd wJ sU (J8 akw) hg YD (fun p hp he=>(Au p hp).1 _ he rfl)
  ·-- a step that changes nothing
   have hm:gN ai.kind=false:=by simpa using om
   have nX : ∀ a∈X.map (·.1),a∉ib pt q':=fun a ha eU=>by
    obtain⟨p,hp,uH⟩:=YA a ha eU
    have Hp:jB is a = .alloc:=by rw[← uH];exact hpk p hp
    have kW:lg is (ib pt q') (X.map (·.1)).reverse=true:=by
     unfold oZ at g1
     rw[Sz]at g1
     cases hk:ai.kind with
     |pure=>simp only[hk,Bool.and_eq_true]at g1;exact g1.2
     |load=>simp only[hk,Bool.and_eq_true]at g1;exact g1.1.2
     |alloc=>exact(As hk).elim
     |core=>rw[hk]at hm;cases hm
    cases X with
    |nil=>simp at ha
    | cons x l=>
     have ha2:a∈((x::l).map (·.1)).reverse:=List.mem_reverse.2 ha
     obtain⟨l1,l2,Dr⟩:=List.append_of_mem ha2
     have DS:=yo kW a l1 l2 Dr Hp eU
     refine YB x l rfl ?_
     cases lh:l2.reverse with
     |nil=>
      have h3:l2 = []:=by simpa using lh
      subst h3
      have:=congrArg List.reverse Dr
      simp at this
      rw[this.1];exact eU
     |cons y l3=>
      have:=congrArg List.reverse Dr
      simp only[List.reverse_reverse,List.map_cons,List.reverse_append,List.reverse_cons,List.reverse_nil,List.append_assoc,lh,List.cons_append,List.nil_append,List.cons.injEq]at this
      rw[this.1]
      exact DS y (by rw[← List.mem_reverse,lh];simp)
   have eU : ∀ a∈X,lr is a.1 q'=true:=fun a ha=>by
    have h3 : ∀ x∈(X.map (·.1)).reverse,((ib pt q').contains x ||lr is x q')=true:=by
     unfold oZ at g1
     rw[Sz]at g1
     cases hk:ai.kind with
     |pure=>simp only[hk,Bool.and_eq_true]at g1;exact List.all_eq_true.1 g1.1
     |load=>simp only[hk,Bool.and_eq_true]at g1;exact List.all_eq_true.1 g1.1.1
     |alloc=>exact(As hk).elim
     |core=>rw[hk]at hm;cases hm
    have:=h3 a.1 (List.mem_reverse.2 (List.mem_map_of_mem ha))
    simp only[Bool.or_eq_true,List.contains_iff_mem]at this
    exact this.resolve_left (nX a.1 (List.mem_map_of_mem ha))
   have ac5:ai.kind = .load→jU is (X.map (·.1))≤b:=fun hk=>by
    unfold oZ at g1
    rw[Sz,hk]at g1
    simp only[Bool.and_eq_true,decide_eq_true_eq]at g1
    have h3:=g1.2
    have h4:(X.map (·.1)).reverse.filter (fun a=> !(ib pt q').contains a)=(X.map (·.1)).reverse:=by
     rw[List.filter_eq_self]
     intro a ha
     have:=nX a (List.mem_reverse.1 ha)
     simpa using this
    rw[h4]at h3
    unfold jU at h3 ⊢
    rw[List.filter_reverse,List.length_reverse]at h3
    exact h3
   have Au:=fun p hp=>DQ p hp (fun h=>by
    obtain⟨x,hx,YC⟩:=List.mem_map.1 h
    rw[← YC];exact eU x hx)
   obtain⟨d,h1,_,JQ⟩:=xq hK wH hm Y X bQ tm s eU ac5 hg
   have si:kh ai tC s=some d:=by rw[← q0 (SA fun p hp=>(Au p hp).2)];exact h1
   refine wpOp_mono (fun a' w' hr=>hK2 _ _ _ _ (hs.done hq Hu) hr) ?_
   exact Yy hi Sx e r ht qz hn hd wJ sU (OY hm si) JQ YD (fun p hp he=>(Au p hp).1 _ he rfl)
theorem Ds {o:Oper} {j:Nat} : j∈mV o↔∃ e∈o.after,Region.binds .any e=true∧e.on=j:=by
 simp only[mV,List.mem_map,List.mem_filter,Array.mem_toList_iff]
 constructor
 ·rintro⟨e,⟨h1,h2⟩,h3⟩;exact⟨e,h1,h2,h3⟩
 ·rintro⟨e,h1,h2,h3⟩;exact⟨e,⟨h1,h2⟩,h3⟩
theorem O2 {ops:Array Oper} (xu:rj P nt ops ops.toList=some is) (O1:xY (ops.toList.map mV) pt is.length=true)
 (ac6 : ∀ i,i<is.length→∀ j∈ib (ops.toList.map mV) i,j<is.length) {Q:Exit→Tm→St→Prop} (hK : ∀ tm bF s,Tm.eqv tm bF→K tm s→K bF s)
 (hKQ : ∀ tm s act w,K tm s→Holds B nt tm s act w→p7 B nt Q .normal act w) :
 ∀ (fuel:Nat) (dL:Array Bool) (R:List (Nat×Nat)) (eE:List Pd) (act:Act) (w:World) (U:List Nat),U.length≤fuel→(∀ j,j<is.length→dL.getD j false=false→j∈U)→
  rC is (ops.toList.map mV) pt dL R eE→zp P is K B nt R eE act w→wpAny P .any ops (p7 B nt Q) fuel dL act w:=by
 obtain⟨hlen,_⟩:=Ct xu
 have sO:is.length=ops.size:=by rw[hlen];simp
 have ac7 : ∀ (j:Nat) (o:Oper),ops[j]? = some o→ib (ops.toList.map mV) j=mV o:=fun j o h=>by
  simp[ib,List.getD,h]
 have fin : ∀ {dL:Array Bool} {eE:List Pd} {act:Act} {w:World},zp P is K B nt [] eE act w→p7 B nt Q .normal act w:=by
  intro dL eE act w h
  obtain⟨M,s,tm,tC,bQ,e,r,ht,qz,hn,hd,hg,wJ,sU⟩:=h
  have DN : ∀ p∈eE,False:=fun p hp=>by have:=(wJ p hp).mem;simp at this
  exact hKQ tC s act w (hK tm tC s (fun t=>(qz t fun p hp=>(DN p hp).elim).symm) hg) ⟨M,e,r,ht,hn,hd⟩
 have SB : ∀ {dL:Array Bool} {R:List (Nat×Nat)} {eE:List Pd} {x:Nat×Nat} {l:List (Nat×Nat)},rC is (ops.toList.map mV) pt dL R eE→R=x::l→(∀ p∈eE,p.q≠x.1)→
  x.1∈Region.ready .any ops dL:=by
  intro dL R eE x l hs hR Sy
  subst hR
  have hx:=hs.lt x (by simp)
  rw[mem_ready]
  have EH:dL.getD x.1 false=false:=by
   cases hl:dL.getD x.1 false with
   |false=>rfl
   |true=>
    rcases(hs.Ht x.1 hx).1 hl with h1|⟨p,hp,uH⟩
    ·exact(h1 (by simp)).elim
    ·exact(Sy p hp uH).elim
  have hxo:x.1<ops.size:=by rw[← sO];exact hx
  refine⟨by rw[sV (by rw[hs.size];exact hx)];exact EH,ops[x.1],by simp[hxo],fun e he hb=>?_⟩
  have hm:e.on∈ib (ops.toList.map mV) x.1:=by rw[ac7 x.1 ops[x.1] (by simp[hxo])];exact Ds.2 ⟨e,he,hb,rfl⟩
  obtain⟨_,_,_,g4,_⟩:=tB (X:= []) (q:=x.1) (b:=x.2) hs.ok
  obtain⟨h1,h2⟩:=g4 _ hm
  refine(hs.Ht e.on (ac6 x.1 hx _ hm)).2 (.inl ?_)
  simp only[List.map_cons,List.mem_cons,not_or]
  exact⟨h1,h2⟩
 intro fuel
 induction fuel with
 | zero=>
  intro dL R eE act w U hU EH hs h
  obtain⟨R',wK,o5,h',hn⟩:=norm R eE hs h
  have hUn:U = []:=List.length_eq_zero_iff.1 (by omega)
  have DS : ∀ j,j<is.length→dL.getD j false=true:=fun j hj=>by
   cases hl:dL.getD j false with
   |true=>rfl
   |false=>have:=EH j hj hl;rw[hUn]at this;cases this
  have hR:R' = []:=by
   cases hR:R' with
   |nil=>rfl
   |cons x l=>
    have hx:=o5.lt x (by simp[hR])
    have:=SB o5 hR (hn x l hR)
    rw[mem_ready,sV (by rw[o5.size];exact hx),DS x.1 hx]at this
    cases this.1
  subst hR
  refine⟨?_,fin (dL:=dL) h'⟩
  cases hr:Region.ready .any ops dL with
  |nil=>rfl
  |cons j js=>
   have hj:j∈Region.ready .any ops dL:=by rw[hr];simp
   rw[mem_ready]at hj
   obtain⟨h1,o,ho,_⟩:=hj
   have YE:j<is.length:=by rw[sO];exact(Array.getElem?_eq_some_iff.1 ho).1
   rw[sV (by rw[hs.size];exact YE),DS j YE]at h1
   cases h1
 | succ fuel ih=>
  intro dL R eE act w U hU EH hs h
  obtain⟨R',wK,o5,h',hn⟩:=norm R eE hs h
  refine⟨fun hr=>?_,fun i hi=>?_⟩
  ·cases hR:R' with
   |nil=>subst hR;exact fin (dL:=dL) h'
   |cons x l=>
    have:=SB o5 hR (hn x l hR)
    rw[hr]at this
    cases this
  ·rw [mem_ready]at hi
   obtain⟨h1,o,ho,O3⟩:=hi
   have qZ:i<is.length:=by rw[sO];exact(Array.getElem?_eq_some_iff.1 ho).1
   rw[sV (by rw[hs.size];exact qZ)]at h1
   refine O0 xu O1 hK o5 h' hn qZ h1 (fun j hj=>⟨ac6 i qZ j hj, ?_⟩) fun R2 agX a2 w2 Aj h2=>?_
   ·rw [ac7 i o ho]at hj
    obtain⟨e,he,hb,rfl⟩:=Ds.1 hj
    exact O3 e he hb
   ·refine ih _ R2 agX a2 w2 (U.erase i) ?_ (fun j hj hl=> ?_) Aj h2
    ·have:=List.length_erase_of_mem (EH i qZ h1)
     omega
    ·have hji:j≠i:=fun e=>by
      subst e
      have:j<dL.size:=by rw[hs.size];exact qZ
      simp[this]at hl
     rw[getD_set_ne false (Ne.symm hji)]at hl
     exact(List.mem_erase_of_ne hji).2 (EH j hj hl)
theorem Sem.par {is:List AI} {lR:List (Nat×Nat)} {Q:Exit→Tm→St→Prop} {tm:Tm} {s:St} (h:k6 P is (Q .normal) lR [] tm s):Sem P B nt (.par is lR) Q tm s:=by
 intro c hc act w hh
 obtain⟨id,ops,rfl,hi,hm,pt,hp⟩:=lF hc
 simp only[Ju,Bool.and_eq_true,List.all_eq_true,List.mem_range,List.contains_iff_mem,decide_eq_true_eq]at hp
 obtain⟨⟨⟨⟨h1,h2⟩,h3⟩,h4⟩,h5⟩:=hp
 obtain⟨hlen,_⟩:=Ct hi
 have sO:is.length=ops.size:=by rw[hlen];simp
 refine wp_region_any hm ?_
 obtain⟨M,e,r,ht,hn,hd⟩:=hh
 have key : ∀ (R:List (Nat×Nat)) (bQ:List St) (tm:Tm) (s:St),k6 P is (Q .normal) R bQ tm s→k6 P is (fun tm s=>∃ bF,tm.eqv bF∧Q .normal bF s) R bQ tm s:=by
  intro R
  induction R with
  |nil=>intro bQ tm s h;exact⟨tm,fun _=>rfl,h⟩
  | cons x R ih=>
   obtain⟨q,b⟩:=x
   intro bQ tm s h
   unfold k6 at h ⊢
   split at h
   ·exact h.elim
   ·split at h
    ·obtain⟨d,s',h1,h2⟩:=h;exact⟨d,s',h1,ih _ _ _ h2⟩
    ·obtain⟨d,h1,h2,h3⟩:=h;exact⟨d,h1,h2,ih _ _ _ h3⟩
 have hg:=key _ _ _ _ h
 refine O2 (K:=fun tm s=>∃ bF,tm.eqv bF∧Q .normal bF s) hi h1 h5 (fun tm bF s he ⟨t2,h3,h4⟩=>⟨t2,fun t=>(he t).symm.trans (h3 t),h4⟩)
  (fun tm s act w ⟨t2,h3,h4⟩ ⟨M,e,r,ht,hn,hd⟩=>⟨t2,s,h4,M,e,r,fun t=>by rw[← h3 t];exact ht t,hn,hd⟩) ops.size _ lR [] act _ (List.range is.length) (by simp[sO]) (fun j hj _=>by simpa using hj)
  ⟨h2,fun i hi=>?_,fun i hi hl=>?_,by simp[sO],h4⟩ ⟨M,s,tm,tm,[],⟨e.le,e.kept,e.tU,e.qG,e.sj,e.size,e.os,e.tape,e.output⟩,r.of_heap rfl,ht,fun _ _=>rfl,hn,hd,hg,by simp,by simp⟩
 ·have:i<ops.size:=by rw [← sO];exact hi
  have h6:=h3 i hi
  simp only[List.not_mem_nil,false_and,exists_false,or_false]
  rw[show(Array.replicate ops.size false).getD i false=false by simp[this]]
  simp[h6]
 ·have:i<ops.size:=by rw [← sO];exact hi
  rw[show(Array.replicate ops.size false).getD i false=false by simp[this]]at hl
  cases hl
end
end Go.Abs
namespace Go.Abs
theorem Z8 (k:IntKind) (n:Int):D.row (.int k n)=some [.int k n]:=rfl
theorem Vq (b:Bool):D.row (.bool b)=some [.bool b]:=rfl
theorem Z9 (l:List UInt8):D.row (.str l)=some [.str l]:=rfl
theorem Vr:D.row .ew=some [.ew]:=rfl
theorem aac (o f:Nat):D.row (.ptr o f)=some [.ptr o f]:=rfl
theorem Vs (r:List D) (f:Nat):D.row (.dO r f)=some [.dO r f]:=rfl
theorem SC (g:Tag) (z:Nat) (r:List (List D)):D.row (.slice g z r)=some [.slice g z r]:=rfl
theorem aad (cs:List D):D.row (.agg cs)=some cs:=rfl
theorem aae (v:Value):D.row (.val v)=some [.val v]:=rfl
theorem SD (T:TypeId) (o:Nat):D.row (.fu T o)=some [.fu T o]:=rfl
theorem aaf (f:Nat) (cs:List D):D.row (.gn f cs)=some [.gn f cs]:=rfl
theorem Vt (o:Nat):D.row (.fW o)=some [.fW o]:=rfl
theorem Vu (w:Bool):Tag.cut .full w=if w then .full else .shared:=rfl
theorem O4 (w:Bool):Tag.cut .shared w = .shared:=rfl
theorem Vv (t:Nat) (y:Bool) (w:Bool):Tag.cut (.tok t y) w = .tok t y:=rfl
section
variable {P:Program}
def KC (P:Program) (r:List AI) (K:Tm→St→Prop) (tm:Tm) (dst:Option Nat) (d:D) (s:St):Prop:=jb P r K (tm.put dst d) s
def GI (P:Program) (g:D) (want:Bool) (i:AI) (r:List AI) (K:Tm→St→Prop) (tm:Tm) (s:St):Prop:=
 match g with
 | .bool b=>(b=want→jb P (i::r) K tm s)∧(b=(!want)→jb P r K (tm.put i.dst (.tuple [])) s)
 | .tuple _=>jb P r K (tm.put i.dst (.tuple [])) s
 |_=>False
def NI (P:Program) (dst:Option Nat) (neg:Bool) (x:D) (r:List AI) (K:Tm→St→Prop) (tm:Tm) (s:St):Prop:=
 match x with
 | .slice _ _ rows=>∀ b:Bool,(rows≠ []→b=false)→jb P r K (tm.put dst (.bool (if neg then !b else b))) s
 |_=>False
def uV (d:D) (A C:Prop):Prop:=
 match d with
 | .bool b=>(b=true→A)∧(b=false→C)
 |_=>False
theorem Sem.agY {B:fa} {nt:Nat} {Q:Exit→Tm→St→Prop} {tm:Tm} {s:St} {x:X} {a b:AC} (h:uV (x.ev tm) (Sem P B nt a Q tm s) (Sem P B nt b Q tm s)):Sem P B nt (.cond x a b) Q tm s:=by
 unfold uV at h
 split at h
 ·rename_i t ht
  exact Sem.cond ht h.1 h.2
 ·exact h.elim
def gQ (P:Program) (K:Tm→St→Prop):List (AI×Nat)→List St→Tm→St→Prop
 | [],_,tm,s=>K tm s
 |(ai,b)::r,bQ,tm,s=>
  match gN ai.kind with
  |true=>∃ d s',sR P ai tm s d s'∧gQ P K r (s::bQ) (tm.put ai.dst d) s'
  |false=>∃ d,kh ai tm s=some d∧(ai.kind = .load→∀ s'∈bQ.take b,kh ai tm s'=some d)∧gQ P K r bQ (tm.put ai.dst d) s
def nh (is:List AI):List (Nat×Nat)→Option (List (AI×Nat))
 | []=>some []
 |(q,b)::r=>match is[q]?,nh is r with
  |some ai,some l=>some ((ai,b)::l)
  |_,_=>none
theorem Gl {is:List AI} {K:Tm→St→Prop} : ∀ {lR:List (Nat×Nat)} {items:List (AI×Nat)} {bQ:List St} {tm:Tm} {s:St},nh is lR=some items→gQ P K items bQ tm s→k6 P is K lR bQ tm s
 | [],items,bQ,tm,s,h,g=>by cases h;exact g
 | (q,b)::r,items,bQ,tm,s,h,g=>by
  simp only[nh]at h
  split at h
  ·rename_i ai l h1 h2
   cases h
   simp only[gQ]at g
   simp only[k6,h1]
   split at g
   ·rename_i hk
    obtain⟨d,s',g1,g2⟩:=g
    try simp only[hk]
    exact⟨d,s',g1,Gl h2 g2⟩
   ·rename_i hk
    obtain⟨d,g1,g2,g3⟩:=g
    try simp only[hk]
    exact⟨d,g1,g2,Gl h2 g3⟩
  ·cases h
theorem Sem.aky {B:fa} {nt:Nat} {Q:Exit→Tm→St→Prop} {tm:Tm} {s:St} {is:List AI} {lR:List (Nat×Nat)} {items:List (AI×Nat)} (hi:nh is lR=some items) (h:gQ P (Q .normal) items [] tm s):Sem P B nt (.par is lR) Q tm s:=
 Sem.par (Gl hi h)
def AI.free:AI→AI
 | .op d _ o=> .op d none o
 | .call d _ f xs=> .call d none f xs
 | .nil d _ n x=> .nil d none n x
 | .jA d _ t xs=> .jA d none t xs
def GL (P:Program) (g:D) (want:Bool) (i:AI) (b:Nat) (r:List (AI×Nat)) (K:Tm→St→Prop) (bQ:List St) (tm:Tm) (s:St):Prop:=
 match g with
 | .bool v=>(v=want→gQ P K ((i,b)::r) bQ tm s)∧(v=(!want)→gQ P K r (if gN i.kind then s::bQ else bQ) (tm.put i.dst (.tuple [])) s)
 | .tuple _=>gQ P K r (if gN i.kind then s::bQ else bQ) (tm.put i.dst (.tuple [])) s
 |_=>False
def CL (one:Bool) (P:Program) (f:Nat) (args:List D) (s:St) (K:D→St→Prop):Prop:=
 match one with
 |true=>∃ d s',az P f args s d s'∧K d s'
 |false=>bL P f args s K
def KL (P:Program) (K:Tm→St→Prop) (r:List (AI×Nat)) (bQ:List St) (tm:Tm) (dst:Option Nat) (d:D) (s:St):Prop:=gQ P K r bQ (tm.put dst d) s
def oo (i:AI) (tm:Tm) (d:D):List St→Prop
 | []=>True
 |s::r=>kh i tm s=some d∧oo i tm d r
theorem EI {i:AI} {tm:Tm} {d:D} : ∀ {l:List St},oo i tm d l→∀ s∈l,kh i tm s=some d
 | [],_,s,h=>by cases h
 |a::l,h,s,hs=>by
  rcases List.mem_cons.1 hs with rfl|hs
  ·exact h.1
  ·exact EI h.2 s hs
def PL (P:Program) (o:AO) (dst:Option Nat) (b:Nat) (r:List (AI×Nat)) (K:Tm→St→Prop) (bQ:List St) (tm:Tm) (s:St):Prop:=
 match aO o tm s with
 |some (d,_)=>oo (.op dst none o) tm d (bQ.take b)∧gQ P K r bQ (tm.put dst d) s
 |none=>False
def ML (P:Program) (o:AO) (dst:Option Nat) (r:List (AI×Nat)) (K:Tm→St→Prop) (bQ:List St) (tm:Tm) (s:St):Prop:=
 match aO o tm s with
 |some (d,s')=>gQ P K r (s::bQ) (tm.put dst d) s'
 |none=>False
def AO.core:AO→Bool
 | .alloc _=>true
 | .box _=>true
 | .vi .. =>true
 | .AW _=>true
 | .store .. =>true
 | .app .. =>true
 | .td .. =>true
 | .AX .. =>true
 | .AY .. =>true
 | .apps .. =>true
 | .uR=>true
 | .y9 .. =>true
 | .AZ .. =>true
 |_=>false
theorem tD (dst:Option Nat) (g:Option (Nat×Bool)) (o:AO):gN (AI.op dst g o).kind=o.core:=by
 cases dst<;>cases g<;>cases o<;>rfl
def OL (P:Program) (o:AO) (dst:Option Nat) (b:Nat) (r:List (AI×Nat)) (K:Tm→St→Prop) (bQ:List St) (tm:Tm) (s:St):Prop:=
 match o.core with
 |true=>ML P o dst r K bQ tm s
 |false=>PL P o dst b r K bQ tm s
theorem J9 {K:Tm→St→Prop} {dst:Option Nat} {o:AO} {b:Nat} {r:List (AI×Nat)} {bQ:List St} {tm:Tm} {s:St} (h:OL P o dst b r K bQ tm s) :
 gQ P K ((.op dst none o,b)::r) bQ tm s:=by
 unfold OL at h
 simp only[gQ,tD]
 cases hc:o.core with
 | true=>
  simp only[hc,ML]at h
  simp only[]
  split at h
  ·rename_i d s' he
   exact⟨d,s',by simpa[sR,guarded]using he,h⟩
  ·exact h.elim
 | false=>
  simp only[hc,PL]at h
  simp only[]
  split at h
  ·rename_i d s' he
   exact⟨d,by simp[kh,he],fun _=>EI h.1,h.2⟩
  ·exact h.elim
theorem O5 {K:Tm→St→Prop} {dst:Option Nat} {f:Nat} {xs:List X} {b:Nat} {r:List (AI×Nat)} {bQ:List St} {tm:Tm} {s:St} (h:CL true P f (xs.map (·.ev tm)) s (KL P K r (s::bQ) tm dst)) :
 gQ P K ((.call dst none f xs,b)::r) bQ tm s:=by
 obtain⟨d,s',h1,h2⟩:=h
 exact⟨d,s',h1,h2⟩
theorem ac8 {K:Tm→St→Prop} {i:AI} {t:Nat} {w:Bool} {b:Nat} {r:List (AI×Nat)} {bQ:List St} {tm:Tm} {s:St} {j:AI} (hf:(∃ d o,i = .op d none o∧j = .op d (some (t,w)) o)∨(∃ d f xs,i = .call d none f xs∧j = .call d (some (t,w)) f xs))
 (hg:tm.get t = .bool w) (h:gQ P K ((i,b)::r) bQ tm s):gQ P K ((j,b)::r) bQ tm s:=by
 rcases hf with ⟨d,o,rfl,rfl⟩|⟨d,f,xs,rfl,rfl⟩
 ·simp only [gQ,tD]at h ⊢
  cases hc:o.core<;>simp only[hc]at h ⊢
  ·obtain⟨x,h1,h2,h3⟩:=h
   refine⟨x,by simpa[kh,hg]using h1,fun hk s' o5=>?_,h3⟩
   have uB:(AI.op d none o).kind = .load:=by
    cases d<;>cases o<;>first|exact hk|(cases hc;done)|(cases hk;done)
   simpa[kh,hg]using h2 uB s' o5
  ·obtain⟨x,s',h1,h2⟩:=h
   exact⟨x,s',by simpa[sR,guarded,hg]using h1,h2⟩
 ·obtain⟨x,s',h1,h2⟩:=h
  exact⟨x,s',by simpa[sR,guarded,hg]using h1,h2⟩
theorem SE {K:Tm→St→Prop} {i:AI} {t:Nat} {w:Bool} {b:Nat} {r:List (AI×Nat)} {bQ:List St} {tm:Tm} {s:St} {j:AI} (hf:(∃ d o,i = .op d none o∧j = .op d (some (t,w)) o)∨(∃ d f xs,i = .call d none f xs∧j = .call d (some (t,w)) f xs))
 (hg:tm.get t = .bool (!w)∨∃ l,tm.get t = .tuple l) (h:gQ P K r (if gN i.kind then s::bQ else bQ) (tm.put i.dst (.tuple [])) s):gQ P K ((j,b)::r) bQ tm s:=by
 rcases hf with ⟨d,o,rfl,rfl⟩|⟨d,f,xs,rfl,rfl⟩
 ·simp only [gQ,tD]at h ⊢
  cases hc:o.core<;>simp only[hc]at h ⊢
  ·refine⟨.tuple [], ?_,fun hk s' o5=> ?_,h⟩
   ·rcases hg with hg|⟨l,hg⟩<;>simp[kh,hg]
   ·rcases hg with hg|⟨l,hg⟩<;>simp[kh,hg]
  ·refine⟨.tuple [],s, ?_,h⟩
   rcases hg with hg|⟨l,hg⟩<;>simp[sR,guarded,hg]
 ·refine⟨.tuple [],s, ?_,h⟩
  rcases hg with hg|⟨l,hg⟩<;>simp[sR,guarded,hg]
theorem Nc {K:Tm→St→Prop} {i j:AI} {t:Nat} {w:Bool} {b:Nat} {r:List (AI×Nat)} {bQ:List St} {tm:Tm} {s:St} (hf:(∃ d o,i = .op d none o∧j = .op d (some (t,w)) o)∨(∃ d f xs,i = .call d none f xs∧j = .call d (some (t,w)) f xs))
 (h:GL P (tm.get t) w i b r K bQ tm s):gQ P K ((j,b)::r) bQ tm s:=by
 unfold GL at h
 split at h
 ·rename_i v hv
  by_cases e:v=w
  ·exact ac8 hf (by rw[hv,e]) (h.1 e)
  ·exact SE hf (.inl (by rw[hv];cases v<;>cases w<;>simp_all)) (h.2 (by cases v<;>cases w<;>simp_all))
 ·rename_i l hl
  exact SE hf (.inr ⟨l,hl⟩) h
 ·exact h.elim
theorem Hv {K:Tm→St→Prop} {dst:Option Nat} {o:AO} {t:Nat} {w:Bool} {b:Nat} {r:List (AI×Nat)} {bQ:List St} {tm:Tm} {s:St} (h:GL P (tm.get t) w (.op dst none o) b r K bQ tm s) :
 gQ P K ((.op dst (some (t,w)) o,b)::r) bQ tm s:=Nc (.inl ⟨dst,o,rfl,rfl⟩) h
theorem Mj {K:Tm→St→Prop} {dst:Option Nat} {f:Nat} {xs:List X} {t:Nat} {w:Bool} {b:Nat} {r:List (AI×Nat)} {bQ:List St} {tm:Tm} {s:St} (h:GL P (tm.get t) w (.call dst none f xs) b r K bQ tm s) :
 gQ P K ((.call dst (some (t,w)) f xs,b)::r) bQ tm s:=Nc (.inr ⟨dst,f,xs,rfl,rfl⟩) h
theorem CL.use {one:Bool} {f:Nat} {args:List D} {s:St} {d:D} {s':St} {K:D→St→Prop} (h:az P f args s d s') (hk:K d s'):CL one P f args s K:=
 match one with
 |true=>⟨d,s',h,hk⟩
 |false=>h.use hk
theorem CU {one:Bool} {f:Nat} {args:List D} {s:St} {d:D} {s':St} {K:D→St→Prop} (h:az P f args s d s') (hk:K d s'):CL one P f args s K:=CL.use h hk
theorem CR {f:Nat} {args:List D} {s:St} {Q K:D→St→Prop} (h:bL P f args s Q) (hk : ∀ d s',Q d s'→K d s'):CL false P f args s K:=bL.mono h hk
end
end Go.Abs
namespace Go.Abs
theorem nd {α:Type} {a b:α} (h:a=b):a=b:=h
def GJ (g:D) (w:Bool) (A C:Prop):Prop:=
 match g with
 | .bool b=>(b=w→A)∧(b=(!w)→C)
 | .tuple _=>C
 |_=>False
class Two where
 a:Prop
 c:Prop
def CB (d:D) [b:Two] : Prop:=uV d b.a b.c
def GB (d:D) (w:Bool) [b:Two] : Prop:=GJ d w b.a b.c
def ni (g:Option (Nat×Bool)) (tm:Tm) (A C:Prop):Prop:=
 match g with
 |none=>A
 |some (t,w)=>GJ (tm.get t) w A C
def kH (P:Program):List AI→(Tm→St→Prop)→Tm→St→Prop
 | [],K,tm,s=>K tm s
 | .op dst g o::r,K,tm,s=>ni g tm (match aO o tm s with|some (d,s')=>kH P r K (tm.put dst d) s'|none=>False) (kH P r K (tm.put dst (.tuple [])) s)
 | .call dst g f xs::r,K,tm,s=>ni g tm (CL false P f (xs.map (·.ev tm)) s fun d s'=>kH P r K (tm.put dst d) s') (kH P r K (tm.put dst (.tuple [])) s)
 | .nil dst g neg x::r,K,tm,s=>
  ni g tm (match x.ev tm with
   | .slice _ _ rows=>∀ b:Bool,(rows≠ []→b=false)→kH P r K (tm.put dst (.bool (if neg then !b else b))) s
   |_=>False) (kH P r K (tm.put dst (.tuple [])) s)
 | .jA dst g t xs::r,K,tm,s=>
  ni g tm (match tm.get t with
   | .gn f nQ=>enters P f=true∧CL false P f (xs.map (·.ev tm)++nQ) s fun d s'=>kH P r K (tm.put dst d) s'
   |_=>False) (kH P r K (tm.put dst (.tuple [])) s)
theorem sW {g:Option (Nat×Bool)} {tm:Tm} {A C A' C':Prop} (h:ni g tm A C) (ha:A→A') (hc:C→C'):guarded g tm A' C':=by
 unfold ni at h
 unfold guarded
 cases g with
 |none=>exact ha h
 | some p=>
  obtain⟨t,w⟩:=p
  simp only[GJ]at h ⊢
  split at h
  ·rename_i hb;try simp only [hb]
   exact⟨fun e=>ha (h.1 e),fun e=>hc (h.2 e)⟩
  ·rename_i hb;try simp only [hb]
   exact hc h
  ·exact h.elim
theorem oz {P:Program} {K:Tm→St→Prop} : ∀ {is:List AI} {tm:Tm} {s:St},kH P is K tm s→jb P is K tm s
 | [],tm,s,h=>h
 | .op dst g o::r,tm,s,h=>by
  refine sW h (fun h=>?_) oz
  split at h
  ·rename_i he;try simp only [he]
   exact oz h
  ·exact h.elim
 | .call dst g f xs::r,tm,s,h=>sW h (fun h=>bL.mono h fun _ _ h=>oz h) oz
 | .nil dst g neg x::r,tm,s,h=>by
  refine sW h (fun h=>?_) oz
  split at h
  ·rename_i he;try simp only [he]
   exact fun b hb=>oz (h b hb)
  ·exact h.elim
 | .jA dst g t xs::r,tm,s,h=>by
  refine sW h (fun h=>?_) oz
  split at h
  ·rename_i he;try simp only [he]
   exact⟨h.1,bL.mono h.2 fun _ _ h=>oz h⟩
  ·exact h.elim
def gx (P:Program) (K:Tm→St→Prop):List (AI×Nat)→List St→Tm→St→Prop
 | [],_,tm,s=>K tm s
 |(.op dst g o,b)::r,bQ,tm,s=>
  match o.core with
  |true=>ni g tm (match aO o tm s with|some (d,s')=>gx P K r (s::bQ) (tm.put dst d) s'|none=>False) (gx P K r (s::bQ) (tm.put dst (.tuple [])) s)
  |false=>ni g tm (match aO o tm s with|some (d,_)=>oo (.op dst none o) tm d (bQ.take b)∧gx P K r bQ (tm.put dst d) s|none=>False) (gx P K r bQ (tm.put dst (.tuple [])) s)
 |(.call dst g f xs,_)::r,bQ,tm,s=>ni g tm (CL true P f (xs.map (·.ev tm)) s fun d s'=>gx P K r (s::bQ) (tm.put dst d) s') (gx P K r (s::bQ) (tm.put dst (.tuple [])) s)
 |(.nil ..,_)::_,_,_,_=>False
 |(.jA ..,_)::_,_,_,_=>False
theorem Bt {P:Program} {t:Nat} {w:Bool} {tm:Tm} {i:AI} {b:Nat} {r:List (AI×Nat)} {K:Tm→St→Prop} {bQ:List St} {s:St} {A C:Prop} (h:ni (some (t,w)) tm A C) (ha:A→gQ P K ((i,b)::r) bQ tm s)
 (hc:C→gQ P K r (if gN i.kind then s::bQ else bQ) (tm.put i.dst (.tuple [])) s):GL P (tm.get t) w i b r K bQ tm s:=by
 simp only[ni,GJ]at h
 unfold GL
 split at h
 ·rename_i hb;try simp only [hb]
  exact⟨fun e=>ha (h.1 e),fun e=>hc (h.2 e)⟩
 ·rename_i hb;try simp only [hb]
  exact hc h
 ·exact h.elim
theorem mC {P:Program} {K:Tm→St→Prop} : ∀ {l:List (AI×Nat)} {bQ:List St} {tm:Tm} {s:St},gx P K l bQ tm s→gQ P K l bQ tm s
 | [],bQ,tm,s,h=>h
 | (.op dst g o,b)::r,bQ,tm,s,h=>by
  simp only[gx]at h
  cases hc:o.core with
  | true=>
   simp only[hc]at h
   have ha:(match aO o tm s with|some (d,s')=>gx P K r (s::bQ) (tm.put dst d) s'|none=>False)→gQ P K ((.op dst none o,b)::r) bQ tm s:=by
    intro h
    refine J9 ?_
    simp only[OL,hc,ML]
    split at h
    ·rename_i he;try simp only [he]
     exact mC h
    ·exact h.elim
   cases g with
   |none=>exact ha h
   |some p=>
    obtain⟨t,w⟩:=p
    refine Hv (Bt h ha fun h=>?_)
    simp only[tD,hc,if_true]
    exact mC h
  | false=>
   simp only[hc]at h
   have ha:(match aO o tm s with|some (d,_)=>oo (.op dst none o) tm d (bQ.take b)∧gx P K r bQ (tm.put dst d) s|none=>False)→gQ P K ((.op dst none o,b)::r) bQ tm s:=by
    intro h
    refine J9 ?_
    simp only[OL,hc,PL]
    split at h
    ·rename_i he;try simp only [he]
     exact⟨h.1,mC h.2⟩
    ·exact h.elim
   cases g with
   |none=>exact ha h
   |some p=>
    obtain⟨t,w⟩:=p
    refine Hv (Bt h ha fun h=>?_)
    simp only[tD,hc]
    exact mC h
 | (.call dst g f xs,b)::r,bQ,tm,s,h=>by
  simp only[gx]at h
  have ha:(CL true P f (xs.map (·.ev tm)) s fun d s'=>gx P K r (s::bQ) (tm.put dst d) s')→gQ P K ((.call dst none f xs,b)::r) bQ tm s:=
   fun⟨d,s',h1,h2⟩=>O5 ⟨d,s',h1,mC h2⟩
  cases g with
  |none=>exact ha h
  |some p=>
   obtain⟨t,w⟩:=p
   exact Mj (Bt h ha fun h=>mC h)
 |(.nil ..,_)::_,bQ,tm,s,h=>h.elim
 |(.jA ..,_)::_,bQ,tm,s,h=>h.elim
section
variable {P:Program} {B:fa} {nt:Nat}
def gF (P:Program) (B:fa) (nt:Nat):AC→(Exit→Tm→St→Prop)→Tm→St→Prop
 | .skip,Q,tm,s=>Q .normal tm s
 | .run is,Q,tm,s=>kH P is (Q .normal) tm s
 | .par is lR,Q,tm,s=>match nh is lR with|some l=>gx P (Q .normal) l [] tm s|none=>False
 | .seq a b,Q,tm,s=>gF P B nt a (kO (gF P B nt b Q) Q) tm s
 | .cond x a b,Q,tm,s=>uV (x.ev tm) (gF P B nt a Q tm s) (gF P B nt b Q tm s)
 | .block id a,Q,tm,s=>gF P B nt a (iH id Q) tm s
 | .loop a,Q,tm,s=>bg P B nt a Q tm s
 | .exit id,Q,tm,s=>Q (.exit id) tm s
 | .scope a,Q,tm,s=>je P B nt a a Q tm s
 | .label _,Q,tm,s=>Q .normal tm s
 | .goto l,Q,tm,s=>Q (.goto l) tm s
 | .ret,Q,tm,s=>Q .ret tm s
theorem gG : ∀ {ac:AC} {Q:Exit→Tm→St→Prop} {tm:Tm} {s:St},gF P B nt ac Q tm s→Sem P B nt ac Q tm s:=by
 intro ac
 induction ac with
 |skip=>exact fun h=>Sem.skip h
 |run is=>exact fun h=>Sem.run (oz h)
 |par is lR=>
  intro Q tm s h
  simp only[gF]at h
  split at h
  ·exact Sem.aky ‹_› (mC h)
  ·exact h.elim
 |seq a b Sg Si=>
  intro Q tm s h
  refine Sem.seq ((Sg h).mono fun e tm s hq=>?_)
  cases e with
  |normal=>exact Si hq
  |_=>exact hq
 |cond x a b Sg Si=>
  intro Q tm s h
  refine Sem.agY ?_
  simp only[gF]at h
  unfold uV at h ⊢
  split at h
  ·exact⟨fun e=>Sg (h.1 e),fun e=>Si (h.2 e)⟩
  ·exact h.elim
 |block id a ih=>exact fun h=>Sem.block (ih h)
 |loop a ih=>exact fun h=>Sem.loop h
 |exit id=>exact fun h=>Sem.exit h
 |scope a ih=>exact fun h=>Sem.scope h
 |label l=>exact fun h=>Sem.label h
 |goto l=>exact fun h=>Sem.goto h
 |ret=>exact fun h=>Sem.ret h
section
variable (Q:Exit→Tm→St→Prop) (N:Tm→St→Prop) (tm:Tm) (s:St) (a b:AC) (is:List AI) (x:X)
theorem Vw:gF P B nt .skip Q tm s=Q .normal tm s:=nd rfl
theorem aah:gF P B nt (.run is) Q tm s=kH P is (Q .normal) tm s:=nd rfl
theorem aai (lR:List (Nat×Nat)):gF P B nt (.par is lR) Q tm s=match nh is lR with|some l=>gx P (Q .normal) l [] tm s|none=>False:=nd rfl
theorem aaj:gF P B nt (.seq a b) Q tm s=gF P B nt a (kO (gF P B nt b Q) Q) tm s:=nd rfl
theorem Vx:gF P B nt (.cond x a b) Q tm s = @CB (x.ev tm) ⟨gF P B nt a Q tm s,gF P B nt b Q tm s⟩:=nd rfl
theorem SF (id:Nat):gF P B nt (.block id a) Q tm s=gF P B nt a (iH id Q) tm s:=nd rfl
theorem Vy:gF P B nt (.loop a) Q tm s=bg P B nt a Q tm s:=nd rfl
theorem SG:gF P B nt (.scope a) Q tm s=je P B nt a a Q tm s:=nd rfl
theorem Vz (id:Nat):gF P B nt (.exit id) Q tm s=Q (.exit id) tm s:=nd rfl
theorem SH (id:Nat):gF P B nt (.label id) Q tm s=Q .normal tm s:=nd rfl
theorem VA (id:Nat):gF P B nt (.goto id) Q tm s=Q (.goto id) tm s:=nd rfl
theorem aak:gF P B nt .ret Q tm s=Q .ret tm s:=nd rfl
theorem aal:kO N Q .normal tm s=N tm s:=nd rfl
theorem aam:kO N Q .ret tm s=Q .ret tm s:=nd rfl
theorem aan (id:Nat):kO N Q (.exit id) tm s=Q (.exit id) tm s:=nd rfl
theorem aao (id:Nat):kO N Q (.goto id) tm s=Q (.goto id) tm s:=nd rfl
theorem VB (id:Nat):iH id Q .normal tm s=Q .normal tm s:=nd rfl
theorem VC (id:Nat):iH id Q .ret tm s=Q .ret tm s:=nd rfl
theorem VD (id l:Nat):iH id Q (.goto l) tm s=Q (.goto l) tm s:=nd rfl
theorem VE (id i:Nat):iH id Q (.exit i) tm s=if i=id then Q .normal tm s else Q (.exit i) tm s:=nd rfl
end
theorem bg.kB {a:AC} {Q:Exit→Tm→St→Prop} {tm:Tm} {s:St} (h:gF P B nt a (kO (bg P B nt a Q) Q) tm s):bg P B nt a Q tm s:=bg.once (gG h)
theorem je.kB {a r:AC} {Q:Exit→Tm→St→Prop} {tm:Tm} {s:St} (h:gF P B nt r (kd P B nt a Q) tm s):je P B nt a r Q tm s:=je.once (gG h)
def uI (tm:Tm) (n m:Nat):Tm→Prop
 | []=>True
 |(k,d)::r=>Wk ((tm.get k).fg n m) d∧uI tm n m r
theorem uI.get {tm:Tm} {n m:Nat} : ∀ {bF:Tm},uI tm n m bF→∀ t,Wk ((tm.get t).fg n m) (bF.get t)
 | [],_,t=>Wk.junk _
 |(k,d)::r,h,t=>by
  simp only[Tm.get]
  split
  ·rename_i hk;subst hk;exact h.1
  ·exact uI.get h.2 t
theorem Holds.re {Q:Exit→Tm→St→Prop} {tm bF:Tm} {s:St} {fR:List (List D)} {act:Act} {w:World} (n m:Nat) (hn:B.s.ah.length≤n) (hm:B.s.aw.length≤m) (ht:uI tm n m bF) (ho:gB (s.cut n m).ah fR)
 (h:Holds B nt tm s act w):Holds B nt bF ⟨fR,(s.cut n m).aw⟩ act w:=by
 obtain⟨M,e,r,hr,h1,h2⟩:=h
 obtain⟨r',le⟩:=(r.cut n m).mA ho
 have e':=e.cut hn hm
 refine⟨M,e'.trans ⟨le,fun _ _ _ _=>rfl,fun o h1 h2=>?_,fun t b c z hl e=> .inl ⟨hl,c,z,e⟩,fun _ _ h=>(h rfl).elim,Nat.le_refl _,rfl,rfl,rfl⟩,r',fun k=>((ht.get k) _ _ _ ((hr k).fg n m)).mono le,h1,h2⟩
 rw[← ho.len]at h2
 exact h1.elim (fun h1=>absurd h2 (Nat.not_lt.2 h1)) fun h1=>(h1 rfl).elim
theorem bg.re {a:AC} {Q:Exit→Tm→St→Prop} {tm:Tm} {s:St} (bF:Tm) (fR:List (List D)) (n m:Nat) (hn:B.s.ah.length≤n) (hm:B.s.aw.length≤m) (ht:uI tm n m bF) (ho:gB (s.cut n m).ah fR)
 (h:bg P B nt a Q bF ⟨fR,(s.cut n m).aw⟩):bg P B nt a Q tm s:=
 fun c hc act w hh=>h c hc act w (hh.re (Q:=Q) n m hn hm ht ho)
theorem je.re {a r:AC} {Q:Exit→Tm→St→Prop} {tm:Tm} {s:St} (bF:Tm) (fR:List (List D)) (n m:Nat) (hn:B.s.ah.length≤n) (hm:B.s.aw.length≤m) (ht:uI tm n m bF) (ho:gB (s.cut n m).ah fR)
 (h:je P B nt a r Q bF ⟨fR,(s.cut n m).aw⟩):je P B nt a r Q tm s:=
 fun c rest hc hr act w hh=>h c rest hc hr act w (hh.re (Q:=Q) n m hn hm ht ho)
theorem bg.ind {ι:Type} {a:AC} {Q:Exit→Tm→St→Prop} (I:ι→Prop) (μ:ι→Nat) (TM:ι→Tm) (ST:ι→St)
 (step : ∀ i,I i→(∀ j,I j→μ j<μ i→bg P B nt a Q (TM j) (ST j))→gF P B nt a (kO (bg P B nt a Q) Q) (TM i) (ST i)) : ∀ i,I i→bg P B nt a Q (TM i) (ST i):=by
 have key : ∀ n i,μ i<n→I i→bg P B nt a Q (TM i) (ST i):=by
  intro n
  induction n with
  |zero=>intro i h;exact absurd h (Nat.not_lt_zero _)
  |succ n ih=>exact fun i h hi=>bg.kB (step i hi fun j hj hC=>ih j (by omega) hj)
 exact fun i hi=>key (μ i+1) i (Nat.lt_succ_self _) hi
theorem drop_cons {α:Type} {l rest:List α} {k:Nat} {x:α} (h:l.drop k=x::rest):l[k]? = some x∧l.drop (k+1)=rest∧decide ((k:Int)<(l.length:Int))=true∧k<l.length:=by
 have h1:l[k]? = some x:=by
  have:(l.drop k)[0]? = some x:=by rw[h];rfl
  simpa using this
 have h2:=(List.getElem?_eq_some_iff.1 h1).1
 refine⟨h1, ?_,by simpa using h2,h2⟩
 have:l.drop (k+1)=(l.drop k).drop 1:=by rw[List.drop_drop]
 rw[this,h];rfl
theorem drop_nil {α:Type} {l:List α} {k:Nat} (h:l.drop k = []):decide ((k:Int)<(l.length:Int))=false:=by
 have:=List.drop_eq_nil_iff.1 h
 simp;omega
theorem bg.p8 {a:AC} {Q:Exit→Tm→St→Prop} {tm:Tm} {s:St} (t z':Nat) {z:Nat} (hw:tm.get t = .slice .full z [])
 (h:bg P B nt a Q (tm.set t (.slice (.tok s.aw.length) z' [])) {s with aw:=s.aw++ [some 0]}):bg P B nt a Q tm s:=by
 intro c hc act w ⟨M,e,r,ht,h1,h2⟩
 obtain⟨r',le⟩:=r.blank
 refine h c hc act w ⟨_,Bp e le,r',fun k=>?_,h1,h2⟩
 rw[Tm.Cl]
 split
 ·rename_i hk;subst hk;have:=ht k;rw[hw]at this;exact this.own
 ·exact(ht k).mono le
theorem bg.qM {a:AC} {Q:Exit→Tm→St→Prop} {tm:Tm} {s:St} (o i z':Nat) {z:Nat} {cs:List D} (hc:s.ah[o]? = some cs) (hi:cs[i]? = some (.slice .full z []))
 (h:bg P B nt a Q tm ⟨s.ah.set o (cs.set i (.slice (.tok s.aw.length) z' [])),s.aw++ [some 0]⟩):bg P B nt a Q tm s:=by
 intro c hcc act w hh
 obtain⟨M,e,r,ht,h1,h2⟩:=hh
 obtain⟨r',le⟩:=r.blank
 have le':Le M s (M.e7 s.aw.length none) ⟨s.ah.set o (cs.set i (.slice (.tok s.aw.length) z' [])),s.aw++ [some 0]⟩:=⟨le.G,by simp,le.loc,le.t,le.tk⟩
 have le2:Le (M.e7 s.aw.length none) {s with aw:=s.aw++ [some 0]} (M.e7 s.aw.length none) ⟨s.ah.set o (cs.set i (.slice (.tok s.aw.length) z' [])),s.aw++ [some 0]⟩:=
  ⟨fun _ _ _ h=>h,by simp,fun _ _=> .refl _,Nat.le_refl _,fun t n' _ e=>⟨n',e,Nat.le_refl _,fun _=>rfl⟩⟩
 have r2:Rel (M.e7 s.aw.length none) ⟨s.ah.set o (cs.set i (.slice (.tok s.aw.length) z' [])),s.aw++ [some 0]⟩ w:=by
  refine⟨r'.comm,fun o' ds e=>?_,fun o ho=>r'.jZ o (by simpa using ho),fun o o' ho nL=>r'.inj o o' (by simpa using ho) (by simpa using nL),r'.tok,
   fun t b c z o hv e ho=>r'.fh t b c z o hv e (by simpa using ho),r'.fX⟩
  simp only[List.getElem?_set]at e
  split at e
  ·rename_i ho
   subst ho
   split at e
   ·cases e
    obtain⟨vs,T,g1,g2,g3,g4⟩:=r.obj o cs hc
    refine⟨vs,T,g1,by simpa using g2,g3,fun j d v e1 e2=>?_⟩
    rw[List.getElem?_set]at e1
    split at e1
    ·rename_i hj
     subst hj
     split at e1
     ·cases e1
      exact((g4 i _ v hi e2).own (z':=z')).mono le2
     ·cases e1
    ·exact(g4 j d v e1 e2).mono le'
   ·cases e
  ·obtain⟨vs,T,g1,g2,g3,g4⟩:=r'.obj o' ds e
   exact⟨vs,T,g1,g2,g3,fun i d v e1 e2=>(g4 i d v e1 e2).mono le2⟩
 have ee:Ext B.M B.s B.w (M.e7 s.aw.length none) ⟨s.ah.set o (cs.set i (.slice (.tok s.aw.length) z' [])),s.aw++ [some 0]⟩ w:=by
  refine(Bp e le).trans ⟨le2,fun _ _ _ _=>rfl,fun o h1 h2=>?_,fun t b c z hl e=> .inl ⟨hl,c,z,e⟩,fun _ _ h=>(h rfl).elim,Nat.le_refl _,rfl,rfl,rfl⟩
  simp at h2
  exact h1.elim (fun h1=>absurd h2 (Nat.not_lt.2 h1)) fun h1=>(h1 rfl).elim
 exact h c hcc act w ⟨_,ee,r2,fun k=>(ht k).mono le',h1,h2⟩
theorem cv {ac r:AC} {l:Nat} {Q:Exit→Tm→St→Prop} {tm:Tm} {s:St} (hf:sQ ac l=some r) (h:gF P B nt r (kd P B nt ac Q) tm s):kd P B nt ac Q (.goto l) tm s:=⟨r,hf,je.kB h⟩
theorem zr {ac r:AC} {l:Nat} {Q:Exit→Tm→St→Prop} {tm:Tm} {s:St} (hf:sQ ac l=some r) (h:je P B nt ac r Q tm s):kd P B nt ac Q (.goto l) tm s:=⟨r,hf,h⟩
theorem Sem.iS {a b:AC} {Q:Exit→Tm→St→Prop} {tm:Tm} {s:St} (h:gF P B nt a (kO (Sem P B nt b Q) Q) tm s):Sem P B nt (.seq a b) Q tm s:=Sem.seq (gG h)
theorem Sem.re {a:AC} {Q:Exit→Tm→St→Prop} {tm:Tm} {s:St} (bF:Tm) (fR:List (List D)) (n m:Nat) (hn:B.s.ah.length≤n) (hm:B.s.aw.length≤m) (ht:uI tm n m bF) (ho:gB (s.cut n m).ah fR)
 (h:Sem P B nt a Q bF ⟨fR,(s.cut n m).aw⟩):Sem P B nt a Q tm s:=
 fun c hc act w hh=>h c hc act w (hh.re (Q:=Q) n m hn hm ht ho)
def Has (P:Program) (f nt:Nat) (res:List (Nat×Option (Bool×Nat))) (body:AC):Prop:=∃ fn,P.funcs[f]? = some fn∧cF P fn=some ⟨nt,res,body⟩
theorem az.go {f:FuncId} {res:List (Nat×Option (Bool×Nat))} {body:AC} {args:List D} {s:St} {d:D} {s':St} (h0:Has P f nt res body) (hl:Nat.ble args.length nt=true)
 (h : ∀ (B:fa) (Q:Exit→Tm→St→Prop),B.s=s→iC s.ah.length s.aw.length res d s'=Q→gF P B nt body Q (mS 0 args) s):az P f args s d s':=by
 obtain⟨fn,hf,hc⟩:=h0
 exact az.intro ⟨fn,hf,hc⟩ (Nat.le_of_ble_eq_true hl) fun B hB=>gG (h B _ hB rfl)
theorem az.ag1 {f:FuncId} {args row jy:List D} {rows lL:List (List D)} {z z' k k':Nat} (h:az P f (.ptr 0 0:: .slice (.tok 0) z rows::args) ⟨[row],[some k]⟩ (.slice (.tok 0) z' lL) ⟨[jy],[some k']⟩)
 (ha:D.bI 0 0 args=true) (hr:D.bI 0 0 row=true) (JE:D.bI 0 0 jy=true) (hw:D.gY 0 0 rows=true) (SI:D.gY 0 0 lL=true)
 {s:St} {o t:Nat} (ho:s.ah[o]? = some row) (ht:s.aw[t]? = some (some k)):az P f (.ptr o 0:: .slice (.tok t) z rows::args) s (.slice (.tok t) z' lL) ⟨s.ah.set o jy,s.aw.set t (some k')⟩:=by
 refine bL.frame [o] [t] h (by simp) (by simp) (by simpa using (List.getElem?_eq_some_iff.1 ho).1) (by simpa using (List.getElem?_eq_some_iff.1 ht).1) rfl (fun i o' ds e1 e2=>?_) rfl (fun i t' e1=>?_)
  (by simp[D.eW,D.de,Tag.de,fb _ _ _ ha,ik _ _ _ hw])
  (by simp[D.bI,D.ok,Tag.ok,gH (Nat.zero_le 1) (Nat.zero_le 1) _ ha,lG (Nat.zero_le 1) (Nat.zero_le 1) _ hw]) ?_
 ·cases i with
  |zero=>simp at e1 e2;subst e1;subst e2;exact⟨by rw[fb _ _ _ hr];exact ho,gH (Nat.zero_le 1) (Nat.zero_le 1) _ hr⟩
  |succ i=>simp at e1
 ·cases i with
  |zero=>simp at e1;subst e1;simp[ht]
  |succ i=>simp at e1
 ·rintro _ _ ⟨rfl,rfl⟩
  refine⟨by simp[D.back,D.de,Tag.de,ko,ik _ _ _ SI], ?_⟩
  simp[St.back,kG,fb _ _ _ JE]
theorem az.akB {f:FuncId} {pre post:List D} {rows lL:List (List D)} {z z' k k':Nat} (h:az P f (pre++ .slice (.tok 0) z rows::post) ⟨[],[some k]⟩ (.slice (.tok 0) z' lL) ⟨[],[some k']⟩)
 (hp:D.bI 0 0 pre=true) (ha:D.bI 0 0 post=true) (hw:D.gY 0 0 rows=true) (SI:D.gY 0 0 lL=true)
 {s:St} {t:Nat} (ht:s.aw[t]? = some (some k)):az P f (pre++ .slice (.tok t) z rows::post) s (.slice (.tok t) z' lL) ⟨s.ah,s.aw.set t (some k')⟩:=by
 refine bL.frame [] [t] h (by simp) (by simp) (by simp) (by simpa using (List.getElem?_eq_some_iff.1 ht).1) rfl (fun i o' ds e1 e2=>by simp at e1) rfl (fun i t' e1=>?_)
  ?_ ?_ ?_
 ·cases i with
  |zero=>simp at e1;subst e1;simp[ht]
  |succ i=>simp at e1
 ·have h1:=fb [] [t] _ hp
  have h2:=fb [] [t] _ ha
  rw[fQ]at h1 h2
  simp[fQ,D.de,Tag.de,h1,h2,ik _ _ _ hw]
 ·have h1:=gH (n':=0) (m':=1) (Nat.le_refl 0) (Nat.zero_le 1) _ hp
  have h2:=gH (n':=0) (m':=1) (Nat.le_refl 0) (Nat.zero_le 1) _ ha
  rw[yl]at h1 h2 ⊢
  simp only[List.length_nil,List.length_cons,List.all_append,h1,Bool.true_and,List.all_cons,h2,Bool.and_true,D.ok,Tag.ok,lG (Nat.zero_le 0) (Nat.zero_le 1) _ hw]
  rfl
 ·rintro _ _ ⟨rfl,rfl⟩
  refine⟨by simp[D.back,D.de,Tag.de,ko,ik _ _ _ SI], ?_⟩
  simp[St.back,kG]
theorem akC (A C:Prop) : @CB (.bool true) ⟨A,C⟩=A:=by simp[CB,uV]
theorem akD (A C:Prop) : @CB (.bool false) ⟨A,C⟩=C:=by simp[CB,uV]
theorem adb (b:Bool) (A C:Prop) : @CB (.bool (!b)) ⟨A,C⟩ = @CB (.bool b) ⟨C,A⟩:=by
 cases b<;>simp[CB,uV]
theorem Ka {b:Bool} {A C:Prop} (h1:b=true→A) (h2:b=false→C) : @CB (.bool b) ⟨A,C⟩:=⟨h1,h2⟩
theorem ade {b:Bool} {A C:Prop} (h:b=true) (h1:b=true→A) : @CB (.bool b) ⟨A,C⟩:=Ka h1 (fun h'=>by rw[h]at h';cases h')
theorem adf {b:Bool} {A C:Prop} (h:b=false) (h1:b=false→C) : @CB (.bool b) ⟨A,C⟩:=Ka (fun h'=>by rw[h]at h';cases h') h1
theorem ag2 {n m:Nat} {res:List (Nat×Option (Bool×Nat))} {d:D} {s':St} {tm:Tm} {s:St} {Q:Exit→Tm→St→Prop} (hQ:iC n m res d s'=Q)
 (h : ∃ l,aR res tm s=some l∧Wk ((aS l).fg n m) d∧gB (s.cut n m).ah s'.ah∧(s.cut n m).aw=s'.aw):Q .ret tm s:=hQ ▸ h
theorem ag3 {n m:Nat} {res:List (Nat×Option (Bool×Nat))} {d:D} {s':St} {tm:Tm} {s:St} {Q:Exit→Tm→St→Prop} (hQ:iC n m res d s'=Q)
 (h : ∃ l,aR res tm s=some l∧Wk ((aS l).fg n m) d∧gB (s.cut n m).ah s'.ah∧(s.cut n m).aw=s'.aw):Q .normal tm s:=hQ ▸ h
end
attribute [go_sem] Vw aah aai aaj Vx SF Vy SG Vz SH VA aak aal aam aan aao VB VC VD VE
theorem SJ : ∀ (tm:Tm) (s:St) (x:X),aO (AO.mv x) tm s=some (X.ev tm x,s):=
 fun tm s x=>nd (aO.eq_1 tm s x)
theorem SK : ∀ (tm:Tm) (s:St) (c a b:X),
 aO (AO.pick c a b) tm s =
  match X.ev tm c with
  |D.bool t=>some (if t=true then X.ev tm a else X.ev tm b,s)
  |x=>none:=
 fun tm s c a b=>nd (aO.eq_2 tm s c a b)
theorem SL : ∀ (tm:Tm) (s:St) (zero:List D),
 aO (AO.alloc zero) tm s=some (D.ptr s.ah.length 0,{ah:=s.ah++ [zero],aw:=s.aw}):=
 fun tm s zero=>nd (aO.eq_3 tm s zero)
theorem SM : ∀ (tm:Tm) (s:St) (x:X),
 aO (AO.box x) tm s =
  match (X.ev tm x).row with
  |some r=>some (D.ptr s.ah.length 0,{ah:=s.ah++ [r],aw:=s.aw})
  |none=>none:=
 fun tm s x=>nd (aO.eq_4 tm s x)
theorem SN : ∀ (tm:Tm) (s:St) (zero:List D) (parts:List (Nat×Nat×X)),
 aO (AO.build zero parts) tm s =
  match rh zero (List.map (fun(p:Nat×Nat×X)=>(p.fst,p.snd.fst,X.ev tm p.snd.snd)) parts)with
  |some cs=>some (D.agg cs,s)
  |none=>none:=
 fun tm s zero parts=>nd (aO.eq_5 tm s zero parts)
theorem SO : ∀ (tm:Tm) (s:St) (zero:List D) (size n:Nat) (parts:List (Nat×X)),
 aO (AO.cf zero size n parts) tm s =
  match km size (fY zero n) (List.map (fun(p:Nat×X)=>(p.fst,X.ev tm p.snd)) parts)with
  |some rows=>some (D.slice Tag.full size rows,s)
  |none=>none:=
 fun tm s zero size n parts=>nd (aO.eq_6 tm s zero size n parts)
theorem SP : ∀ (tm:Tm) (s:St) (zero:List D) (size n:Nat) (parts:List (Nat×X)),
 aO (AO.vi zero size n parts) tm s =
  match km size (fY zero n) (List.map (fun(p:Nat×X)=>(p.fst,X.ev tm p.snd)) parts)with
  |some rows=>
   some (D.slice (Tag.tok s.aw.length) size rows,{ah:=s.ah,aw:=s.aw++ [some rows.length]})
  |none=>none:=
 fun tm s zero size n parts=>nd (aO.eq_7 tm s zero size n parts)
theorem SQ : ∀ (tm:Tm) (s:St) (x:X),
 aO (AO.AW x) tm s =
  match X.ev tm x with
  | D.slice (Tag.tok t _) z rows=>
   if rows≠ []∧s.aw[t]? = some (some rows.length)then
    some (D.slice Tag.shared z rows,{ah:=s.ah,aw:=s.aw.set t none})
   else none
  |x=>none:=
 fun tm s x=>nd (aO.eq_8 tm s x)
theorem SR : ∀ (tm:Tm) (s:St) (x:X) (agg:Bool) (size:Nat),
 aO (AO.load x agg size) tm s =
  match X.ev tm x with
  | D.ptr o off=>
   match s.ah[o]? with
   |some cs=>
    match part cs off agg size with
    |some d=>some (d,s)
    |none=>none
   |none=>none
  |D.dO row off=>
   match part row off agg size with
   |some d=>some (d,s)
   |none=>none
  |x=>zb x agg size s:=
 fun tm s x agg size=>nd (aO.eq_9 tm s x agg size)
theorem O6 : ∀ (tm:Tm) (s:St) (p x:X) (size:Nat),
 aO (AO.store p x size) tm s =
  match X.ev tm p,(X.ev tm x).row with
  | D.ptr o off,some r=>
   match s.ah[o]? with
   | some cs=>
    if r.length=size∧off+size≤cs.length then
     some (D.tuple [],{ah:=s.ah.set o (iG cs off r),aw:=s.aw})
    else none
   |none=>none
  |x,fy=>A2 x fy size s:=
 fun tm s p x size=>nd (aO.eq_10 tm s p x size)
theorem O7 : ∀ (tm:Tm) (s:St) (x:X),
 aO (AO.br x) tm s =
  match X.ev tm x with
  |D.ptr o off=>some (D.ptr o off,s)
  |D.dO row off=>some (D.dO row off,s)
  |x=>match N6 x with|some d=>some (d,s)|none=>none:=
 fun tm s x=>nd (aO.eq_11 tm s x)
theorem O8 : ∀ (tm:Tm) (s:St) (op:BinOp) (x y:X),
 aO (AO.bin op x y) tm s =
  match xi op (X.ev tm x) (X.ev tm y)with
  |some d=>some (d,s)
  |none=>none:=
 fun tm s op x y=>nd (aO.eq_12 tm s op x y)
theorem O9 : ∀ (tm:Tm) (s:St) (neg:Bool) (x y:X),
 aO (AO.Dg neg x y) tm s =
  match X.ev tm x,X.ev tm y with
  |D.bool a,D.bool b=>some (D.bool (if neg=true then !a==b else a==b),s)
  |x,fy=>none:=
 fun tm s neg x y=>nd (aO.eq_13 tm s neg x y)
theorem Pa : ∀ (tm:Tm) (s:St) (neg:Bool) (ks:List Nat) (x y:X),
 aO (AO.eqs neg ks x y) tm s =
  match X.ev tm x,X.ev tm y with
  |D.agg a,D.agg b=>
   match lu ks a b with
   |some e=>some (D.bool (if neg=true then !e else e),s)
   |none=>none
  |x,fy=>none:=
 fun tm s neg ks x y=>nd (aO.eq_14 tm s neg ks x y)
theorem Pb : ∀ (tm:Tm) (s:St) (neg:Bool) (x y:X),
 aO (AO.He neg x y) tm s =
  match X.ev tm x,X.ev tm y with
  |D.ew,D.ew=>some (D.bool !neg,s)
  |D.ptr o off,D.ew=>some (D.bool neg,s)
  |D.dO row off,D.ew=>some (D.bool neg,s)
  |x,fy=>none:=
 fun tm s neg x y=>nd (aO.eq_15 tm s neg x y)
theorem Pe : ∀ (tm:Tm) (s:St) (op:UnOp) (x:X),
 aO (AO.un op x) tm s =
  match Jw op (X.ev tm x)with
  |some d=>some (d,s)
  |none=>none:=
 fun tm s op x=>nd (aO.eq_16 tm s op x)
theorem Pf : ∀ (tm:Tm) (s:St) (k:IntKind) (x:X),
 aO (AO.conv k x) tm s =
  match X.ev tm x with
  |D.int k_1 n=>some (D.int k (k.wrap n),s)
  |x=>none:=
 fun tm s k x=>nd (aO.eq_17 tm s k x)
theorem Ph : ∀ (tm:Tm) (s:St) (x:X),
 aO (AO.Em x) tm s =
  match X.ev tm x with
  |D.slice g size rows=>
   match oy rows with
   |some b=>some (D.str b,s)
   |none=>none
  |x=>none:=
 fun tm s x=>nd (aO.eq_18 tm s x)
theorem Pj : ∀ (tm:Tm) (s:St) (x:X),
 aO (AO.xX x) tm s =
  match X.ev tm x with
  |D.str l=>some (D.slice Tag.shared 1 (List.map (fun(c:UInt8)=> [D.int IntKind.u8 ↑c.toNat]) l),s)
  |x=>none:=
 fun tm s x=>nd (aO.eq_19 tm s x)
theorem Pk : ∀ (tm:Tm) (s:St) (size:Nat) (x:X) (lo hi:Option X),
 aO (AO.En size x lo hi) tm s =
  match X.ev tm x with
  | D.slice g z rows=>
   match tf (Option.map (fun(x:X)=>X.ev tm x) lo),
    ti (Option.map (fun(x:X)=>X.ev tm x) hi) rows.length with
   | some l,some h=>
    if(rows = []∨z=size)∧0≤l∧l≤h∧h≤ ↑rows.length then
     some
      (D.slice (if l=0 then g.cut (decide (h = ↑rows.length))else Tag.shared) z
       (List.drop l.toNat (List.take h.toNat rows)),
       s)
    else none
   |x,fy=>none
  |x=>match xk x (Option.map (fun(x:X)=>X.ev tm x) lo) (Option.map (fun(x:X)=>X.ev tm x) hi)with|some d=>some (d,s)|none=>none:=
 fun tm s size x lo hi=>nd (aO.eq_20 tm s size x lo hi)
theorem Pl : ∀ (tm:Tm) (s:St) (x:X) (lo hi:Option X),
 aO (AO.y8 x lo hi) tm s =
  match X.ev tm x with
  | D.str t=>
   match tf (Option.map (fun(x:X)=>X.ev tm x) lo),ti (Option.map (fun(x:X)=>X.ev tm x) hi) t.length with
   |some l,some h=>
    if 0≤l∧l≤h∧h≤ ↑t.length then some (D.str (List.drop l.toNat (List.take h.toNat t)),s)else none
   |x,fy=>none
  |x=>none:=
 fun tm s x lo hi=>nd (aO.eq_21 tm s x lo hi)
theorem Pn : ∀ (tm:Tm) (s:St) (x:X) (off:Nat),
 aO (AO.aj x off) tm s =
  match X.ev tm x with
  |D.ptr o k=>some (D.ptr o (k+off),s)
  |D.dO row k=>some (D.dO row (k+off),s)
  |x=>match Er x off with|some d=>some (d,s)|none=>none:=
 fun tm s x off=>nd (aO.eq_22 tm s x off)
theorem Po : ∀ (tm:Tm) (s:St) (x:X) (off:Nat) (agg:Bool) (size:Nat),
 aO (AO.uC x off agg size) tm s =
  match X.ev tm x with
  |D.agg cs=>
   match part cs off agg size with
   |some d=>some (d,s)
   |none=>none
  |x=>none:=
 fun tm s x off agg size=>nd (aO.eq_23 tm s x off agg size)
theorem Pp : ∀ (tm:Tm) (s:St) (x i:X) (size:Nat),
 aO (AO.cr x i size) tm s =
  match X.ev tm x,X.ev tm i with
  | D.slice g z rows,D.int k n=>
   if 0≤n∧z=size then
    match rows[n.toNat]? with
    |some row=>some (D.dO row 0,s)
    |none=>none
   else none
  |x,fy=>match xZ x fy size with|some d=>some (d,s)|none=>none:=
 fun tm s x i size=>nd (aO.eq_24 tm s x i size)
theorem Pq : ∀ (tm:Tm) (s:St) (x i:X),
 aO (AO.oY x i) tm s =
  match X.ev tm x,X.ev tm i with
  | D.str t,D.int k n=>
   if 0≤n then
    match t[n.toNat]? with
    |some c=>some (D.int IntKind.u8 ↑c.toNat,s)
    |none=>none
   else none
  |x,fy=>none:=
 fun tm s x i=>nd (aO.eq_25 tm s x i)
theorem Pr : ∀ (tm:Tm) (s:St) (x:X) (i:Nat),
 aO (AO.ext x i) tm s =
  match X.ev tm x with
  |D.tuple ds=>
   match ds[i]? with
   |some d=>some (d,s)
   |none=>none
  |x=>none:=
 fun tm s x i=>nd (aO.eq_26 tm s x i)
theorem Ps : ∀ (tm:Tm) (s:St) (x:X),
 aO (AO.nR x) tm s =
  match X.ev tm x with
  |D.str t=>some (D.int IntKind.i64 ↑t.length,s)
  |x=>none:=
 fun tm s x=>nd (aO.eq_27 tm s x)
theorem Pt : ∀ (tm:Tm) (s:St) (x:X),
 aO (AO.len x) tm s =
  match X.ev tm x with
  |D.slice g size rows=>some (D.int IntKind.i64 ↑rows.length,s)
  |x=>match F7 x with|some d=>some (d,s)|none=>none:=
 fun tm s x=>nd (aO.eq_28 tm s x)
theorem Pu : ∀ (tm:Tm) (s:St) (size bytes:Nat) (x y:X),
 aO (AO.app size bytes x y) tm s =
  match X.ev tm x with
  |D.slice g z rows=>gw size bytes (D.slice g z rows) (X.ev tm y) s
  |d=>A3 size bytes d (X.ev tm y) s:=
 fun tm s size bytes x y=>nd (aO.eq_29 tm s size bytes x y)
theorem Pv : ∀ (tm:Tm) (s:St) (isMax:Bool) (x y:X),
 aO (AO.mm isMax x y) tm s =
  match X.ev tm x,X.ev tm y with
  |D.int k a,D.int k' b=>
   if k=k' then some (D.int k (if isMax=true then if b > a then b else a else if b<a then b else a),s)
   else none
  |x,fy=>none:=
 fun tm s isMax x y=>nd (aO.eq_30 tm s isMax x y)
theorem Pw (tm:Tm) (s:St) (r:List D) (T:TypeId):aO (AO.td (.ew::r) T) tm s=some (.ptr s.ah.length 0,{ah:=s.ah++ [.fu T s.ah.length::r],aw:=s.aw}):=nd rfl
theorem Px (tm:Tm) (s:St) (x:X) (T:TypeId):aO (AO.AX x T) tm s =
 match (x.ev tm).row with
 |some (.ew::r)=>some (.ptr s.ah.length 0,{ah:=s.ah++ [.fu T s.ah.length::r],aw:=s.aw})
 |_=>none:=nd rfl
theorem Py (tm:Tm) (s:St) (x y:X):aO (AO.apps x y) tm s =
 match y.ev tm with
 | .str l=>A1 (x.ev tm) (.slice .shared 1 (l.map fun c=> [.int .u8 c.toNat])) s
 |_=>none:=nd rfl
theorem Pz (tm:Tm) (s:St) (x y:X):aO (AO.AY x y) tm s=A1 (x.ev tm) (y.ev tm) s:=nd rfl
theorem PA (tm:Tm) (s:St) (f:Nat) (xs:List X):aO (AO.uQ f xs) tm s=some (.gn f (xs.map fun x=>x.ev tm),s):=nd rfl
theorem PB (tm:Tm) (s:St):aO AO.uR tm s=some (.fW s.ah.length,{ah:=s.ah++ [[]],aw:=s.aw}):=nd rfl
theorem PC (tm:Tm) (s:St) (m k v:X):aO (AO.y9 m k v) tm s =
 match m.ev tm,k.ev tm,v.ev tm with
 | .fW o, .str key, .slice g z rows=>
  match s.ah[o]? with
  |some cs=>match xj key (.slice g z rows) cs with|some pT=>some (.tuple [],{ah:=s.ah.set o pT,aw:=s.aw})|none=>none
  |none=>none
 |_,_,_=>none:=nd rfl
theorem PD (tm:Tm) (s:St) (m k:X) (zero:D):aO (AO.wz m k zero) tm s =
 match m.ev tm,k.ev tm with
 | .fW o, .str key=>
  match s.ah[o]? with
  |some cs=>match za key zero cs with|some d=>some (d,s)|none=>none
  |none=>none
 |_,_=>none:=nd rfl
theorem PE (tm:Tm) (s:St) (o:FO) (x y:X):aO (AO.rf o x y) tm s=match qH o (x.ev tm) (y.ev tm)with|some d=>some (d,s)|none=>none:=nd rfl
theorem PF (tm:Tm) (s:St) (size bytes:Nat) (zero:List D) (l c:X):aO (AO.AZ size bytes zero l c) tm s =
 match l.ev tm,c.ev tm with
 | .int .i64 n, .int .i64 m=>if n=m∧0≤n∧n*((bytes:Int)+1)≤bA then some (.eJ size s.ah.length 0 n.toNat,{s with ah:=s.ah++ [.int .i64 ((0:Nat):Int)::(fY zero n.toNat).flatten]})else none
 |_,_=>none:=nd rfl
theorem Kb (o:FO) (x y:X):(AO.rf o x y).core=false:=nd rfl
theorem Kc (size bytes:Nat) (zero:List D) (l c:X):(AO.AZ size bytes zero l c).core=true:=nd rfl
theorem Kd (f:Nat) (xs:List X):(AO.uQ f xs).core=false:=nd rfl
theorem Ke:AO.uR.core=true:=nd rfl
theorem Kf (m k v:X):(AO.y9 m k v).core=true:=nd rfl
theorem Kg (m k:X) (zero:D):(AO.wz m k zero).core=false:=nd rfl
theorem SS (n m f:Nat) (cs:List D):D.fg n m (.gn f cs) = .gn f (D.gA n m cs):=nd (by simp only[D.fg])
theorem SU (n m:Nat) (o:Nat):D.fg n m (.fW o)=if o<n then .fW o else .junk:=nd (by simp only[D.fg])
theorem PG (d:Option Nat) (g:Option (Nat×Bool)) (t:Nat) (xs:List X):(AI.jA d g t xs).dst=d:=nd rfl
theorem Kh (x y:X):(AO.AY x y).core=true:=nd rfl
theorem Ki (z:List D) (T:TypeId):(AO.td z T).core=true:=nd rfl
theorem Kj (x:X) (T:TypeId):(AO.AX x T).core=true:=nd rfl
theorem Kk (x y:X):(AO.apps x y).core=true:=nd rfl
theorem SV (n m:Nat) (v:Value):D.fg n m (.val v) = .val v:=nd (by simp only[D.fg])
theorem SW (n m:Nat) (T:TypeId) (o:Nat):D.fg n m (.fu T o)=if o<n then .fu T o else .junk:=nd (by simp only[D.fg])
theorem VF : ∀ (tm:Tm) (t:Nat),X.ev tm (X.s t)=tm.get t:=
 fun tm t=>nd (X.ev.eq_1 tm t)
theorem VG : ∀ (tm:Tm) (d:D),X.ev tm (X.k d)=d:=
 fun tm d=>nd (X.ev.eq_2 tm d)
theorem PH : ∀ (tm:Tm) (d:D) (t:Nat),tm.put (some t) d=tm.set t d:=
 fun tm d t=>nd (Tm.put.eq_1 tm d t)
theorem PI : ∀ (tm:Tm) (d:D),tm.put none d=tm:=
 fun tm d=>nd (Tm.put.eq_2 tm d)
theorem PJ : ∀ (x:Nat) (fy:D),Tm.set [] x fy = [(x,fy)]:=
 fun x fy=>nd (Tm.set.eq_1 x fy)
theorem PK : ∀ (x:Nat) (fy:D) (k:Nat) (e:D) (r:List (Nat×D)),
 Tm.set ((k,e)::r) x fy=if k=x then(k,fy)::r else(k,e)::Tm.set r x fy:=
 fun x fy k e r=>nd (Tm.set.eq_2 x fy k e r)
theorem PN : ∀ (x:Nat),Tm.get [] x=D.junk:=
 fun x=>nd (Tm.get.eq_1 x)
theorem PO : ∀ (x k:Nat) (d:D) (r:List (Nat×D)),Tm.get ((k,d)::r) x=if k=x then d else Tm.get r x:=
 fun x k d r=>nd (Tm.get.eq_2 x k d r)
theorem SX : ∀ (x:Nat),mS x [] = []:=
 fun x=>nd (mS.eq_1 x)
theorem SY : ∀ (x:Nat) (d:D) (r:List D),mS x (d::r)=(x,d)::mS (x+1) r:=
 fun x d r=>nd (mS.eq_2 x d r)
theorem PQ : ∀ (d:Option Nat) (g:Option (Nat×Bool)) (o:AO),(AI.op d g o).dst=d:=
 fun d g o=>nd (AI.dst.eq_1 d g o)
theorem PR : ∀ (d:Option Nat) (g:Option (Nat×Bool)) (f:Nat) (xs:List X),(AI.call d g f xs).dst=d:=
 fun d g f xs=>nd (AI.dst.eq_2 d g f xs)
theorem PS : ∀ (d:Option Nat) (g:Option (Nat×Bool)) (neg:Bool) (fy:X),(AI.nil d g neg fy).dst=d:=
 fun d g neg fy=>nd (AI.dst.eq_3 d g neg fy)
theorem VH : ∀ (cs:List D) (off size:Nat),
 part cs off true size=if off+size≤cs.length then some (D.agg (List.take size (List.drop off cs)))else none:=
 fun cs off size=>nd (part.eq_1 cs off size)
theorem VI : ∀ (cs:List D) (off size:Nat),part cs off false size=cs[off]? :=
 fun cs off size=>nd (part.eq_2 cs off size)
theorem PT : ∀ (cs:List D) (off:Nat) (r:List D),
 iG cs off r=List.take off cs++r++List.drop (off+r.length) cs:=
 fun cs off r=>nd (iG.eq_1 cs off r)
theorem SZ : ∀ (cells:List D),rh cells [] = some cells:=
 fun cells=>nd (rh.eq_1 cells)
theorem S1 : ∀ (cells:List D) (off size:Nat) (d:D) (rest:List (Nat×Nat×D)),
 rh cells ((off,size,d)::rest) =
  match d.row with
  |none=>none
  |some r=>if r.length=size∧off+size≤cells.length then rh (iG cells off r) rest else none:=
 fun cells off size d rest=>nd (rh.eq_2 cells off size d rest)
theorem Kl : ∀ (size:Nat) (rows:List (List D)),km size rows [] = some rows:=
 fun size rows=>nd (km.eq_1 size rows)
theorem Km : ∀ (size:Nat) (rows:List (List D)) (i:Nat) (d:D) (rest:List (Nat×D)),
 km size rows ((i,d)::rest) =
  match d.row with
  |none=>none
  |some r=>if r.length=size∧i<rows.length then km size (rows.set i r) rest else none:=
 fun size rows i d rest=>nd (km.eq_2 size rows i d rest)
theorem Kn : ∀ (zero:List D),fY zero 0 = []:=
 fun zero=>nd (fY.eq_1 zero)
theorem Ko : ∀ (zero:List D) (i:Nat),fY zero i.succ=zero::fY zero i:=
 fun zero i=>nd (fY.eq_2 zero i)
theorem VJ : ∀ (op:BinOp) (k:IntKind) (a:Int) (k':IntKind) (b:Int),
 xi op (D.int k a) (D.int k' b)=if k=k' then gp op k a b else none:=
 fun op k a k' b=>nd (xi.eq_1 op k a k' b)
theorem VK : ∀ (op:BinOp) (a b:List UInt8),xi op (D.str a) (D.str b)=oi op a b:=
 fun op a b=>nd (xi.eq_2 op a b)
theorem PU : ∀ (k:IntKind) (a b:Int),gp BinOp.add k a b=some (D.int k (k.wrap (a+b))):=
 fun k a b=>nd (gp.eq_1 k a b)
theorem PV : ∀ (k:IntKind) (a b:Int),gp BinOp.sub k a b=some (D.int k (k.wrap (a - b))):=
 fun k a b=>nd (gp.eq_2 k a b)
theorem PW : ∀ (k:IntKind) (a b:Int),gp BinOp.mul k a b=some (D.int k (k.wrap (a*b))):=
 fun k a b=>nd (gp.eq_3 k a b)
theorem PX : ∀ (k:IntKind) (a b:Int),
 gp BinOp.quo k a b=if b=0 then none else some (D.int k (k.wrap (a.tdiv b))):=
 fun k a b=>nd (gp.eq_4 k a b)
theorem PY : ∀ (k:IntKind) (a b:Int),gp BinOp.rem k a b=if b=0 then none else some (D.int k (a.tmod b)):=
 fun k a b=>nd (gp.eq_5 k a b)
theorem PZ : ∀ (k:IntKind) (a b:Int),gp BinOp.eql k a b=some (D.bool (a==b)):=
 fun k a b=>nd (gp.eq_6 k a b)
theorem P0 : ∀ (k:IntKind) (a b:Int),gp BinOp.neq k a b=some (D.bool (a != b)):=
 fun k a b=>nd (gp.eq_7 k a b)
theorem P5 : ∀ (k:IntKind) (a b:Int),gp BinOp.lss k a b=some (D.bool (decide (a<b))):=
 fun k a b=>nd (gp.eq_8 k a b)
theorem P6 : ∀ (k:IntKind) (a b:Int),gp BinOp.leq k a b=some (D.bool (decide (a≤b))):=
 fun k a b=>nd (gp.eq_9 k a b)
theorem Mk : ∀ (k:IntKind) (a b:Int),gp BinOp.gtr k a b=some (D.bool (decide (a > b))):=
 fun k a b=>nd (gp.eq_10 k a b)
theorem Ml : ∀ (k:IntKind) (a b:Int),gp BinOp.geq k a b=some (D.bool (decide (a≥b))):=
 fun k a b=>nd (gp.eq_11 k a b)
theorem P7 : ∀ (a b:List UInt8),
 oi BinOp.add a b=if a.length+b.length≤bA then some (D.str (a++b))else none:=
 fun a b=>nd (oi.eq_1 a b)
theorem P8 : ∀ (a b:List UInt8),oi BinOp.eql a b=some (D.bool (a==b)):=
 fun a b=>nd (oi.eq_2 a b)
theorem P9 : ∀ (a b:List UInt8),oi BinOp.neq a b=some (D.bool !a==b):=
 fun a b=>nd (oi.eq_3 a b)
theorem Qa : ∀ (a b:List UInt8),oi BinOp.lss a b=some (D.bool (bytesLess a b)):=
 fun a b=>nd (oi.eq_4 a b)
theorem aap : ∀ (k:IntKind) (n:Int),Jw UnOp.neg (D.int k n)=some (D.int k (k.wrap (0 - n))):=
 fun k n=>nd (Jw.eq_1 k n)
theorem aaq : ∀ (b:Bool),Jw UnOp.not (D.bool b)=some (D.bool !b):=
 fun b=>nd (Jw.eq_2 b)
theorem Qb : ∀ (k:IntKind) (a:Int) (k':IntKind) (b:Int),
 mW 0 (D.int k a) (D.int k' b)=if k=k' then some (a==b)else none:=
 fun k a k' b=>nd (mW.eq_1 k a k' b)
theorem Qc : ∀ (a b:Bool),mW 1 (D.bool a) (D.bool b)=some (a==b):=
 fun a b=>nd (mW.eq_2 a b)
theorem Qd : ∀ (a b:List UInt8),mW 2 (D.str a) (D.str b)=some (a==b):=
 fun a b=>nd (mW.eq_3 a b)
theorem Mm:lu [] [] [] = some true:=
 nd (lu.eq_1)
theorem Mn : ∀ (k:Nat) (ks:List Nat) (YF:D) (xs:List D) (y:D) (ys:List D),
 lu (k::ks) (YF::xs) (y::ys) =
  match mW k YF y with
  |none=>none
  |some true=>lu ks xs ys
  |some false=>some false:=
 fun k ks YF xs y ys=>nd (lu.eq_2 k ks YF xs y ys)
theorem aar:tf none=some 0:=
 nd (tf.eq_1)
theorem aas : ∀ (k:IntKind) (n:Int),tf (some (D.int k n))=some n:=
 fun k n=>nd (tf.eq_2 k n)
theorem aat : ∀ (len:Nat),ti none len=some ↑len:=
 fun len=>nd (ti.eq_1 len)
theorem aau : ∀ (len:Nat) (k:IntKind) (n:Int),ti (some (D.int k n)) len=some n:=
 fun len k n=>nd (ti.eq_2 len k n)
theorem Mp : ∀ (zero:List D),(AO.alloc zero).core=true:=
 fun zero=>nd (AO.core.eq_1 zero)
theorem Mq : ∀ (fy:X),(AO.box fy).core=true:=
 fun fy=>nd (AO.core.eq_2 fy)
theorem Mr : ∀ (zero:List D) (size n:Nat) (parts:List (Nat×X)),(AO.vi zero size n parts).core=true:=
 fun zero size n parts=>nd (AO.core.eq_3 zero size n parts)
theorem Ms : ∀ (fy:X),(AO.AW fy).core=true:=
 fun fy=>nd (AO.core.eq_4 fy)
theorem Mt : ∀ (p fy:X) (size:Nat),(AO.store p fy size).core=true:=
 fun p fy size=>nd (AO.core.eq_5 p fy size)
theorem Mu : ∀ (size bytes:Nat) (fy y:X),(AO.app size bytes fy y).core=true:=
 fun size bytes fy y=>nd (AO.core.eq_6 size bytes fy y)
theorem Mv : ∀ (val:Nat) (zero:List D),(AI.op (some val) none (AO.alloc zero)).kind=AK.alloc:=
 fun val zero=>nd (AI.kind.eq_1 val zero)
theorem Mw : ∀ (zero:List D),(AO.alloc zero).kind=AK.core:=
 fun zero=>nd (AO.kind.eq_1 zero)
theorem Mx : ∀ (fy:X),(AO.box fy).kind=AK.core:=
 fun fy=>nd (AO.kind.eq_2 fy)
theorem My : ∀ (zero:List D) (size n:Nat) (parts:List (Nat×X)),(AO.vi zero size n parts).kind=AK.core:=
 fun zero size n parts=>nd (AO.kind.eq_3 zero size n parts)
theorem Mz : ∀ (fy:X),(AO.AW fy).kind=AK.core:=
 fun fy=>nd (AO.kind.eq_4 fy)
theorem MA : ∀ (p fy:X) (size:Nat),(AO.store p fy size).kind=AK.core:=
 fun p fy size=>nd (AO.kind.eq_5 p fy size)
theorem MB : ∀ (size bytes:Nat) (fy y:X),(AO.app size bytes fy y).kind=AK.core:=
 fun size bytes fy y=>nd (AO.kind.eq_6 size bytes fy y)
theorem MC : ∀ (fy:X) (agg:Bool) (size:Nat),(AO.load fy agg size).kind=AK.load:=
 fun _ _ _=>nd rfl
theorem Qe:gN AK.core=true:=
 nd (gN.eq_1)
theorem Qf:gN AK.alloc=true:=
 nd (gN.eq_2)
theorem Qg : ∀ (i:AI) (tm:Tm) (d:D),oo i tm d [] = True:=
 fun i tm d=>nd (oo.eq_1 i tm d)
theorem Qh : ∀ (i:AI) (tm:Tm) (d:D) (s:St) (r:List St),
 oo i tm d (s::r)=(kh i tm s=some d∧oo i tm d r):=
 fun i tm d s r=>nd (oo.eq_2 i tm d s r)
theorem aav : ∀ (tm:Tm) (s:St) (dst:Option Nat) (o:AO),
 kh (AI.op dst none o) tm s=Option.map (fun(x:D×St)=>x.fst) (aO o tm s):=
 fun tm s dst o=>nd (kh.eq_1 tm s dst o)
theorem aaw : ∀ (tm:Tm) (s:St) (dst:Option Nat) (t:Nat) (want:Bool) (o:AO),
 kh (AI.op dst (some (t,want)) o) tm s =
  match tm.get t with
  |D.bool b=>if b=want then Option.map (fun(x:D×St)=>x.fst) (aO o tm s)else some (D.tuple [])
  |D.tuple vs=>some (D.tuple [])
  |x=>none:=
 fun tm s dst t want o=>nd (kh.eq_2 tm s dst t want o)
theorem MD : ∀ (is:List AI),nh is [] = some []:=
 fun is=>nd (nh.eq_1 is)
theorem ME : ∀ (is:List AI) (q b:Nat) (r:List (Nat×Nat)),
 nh is ((q,b)::r) =
  match is[q]?,nh is r with
  |some ai,some l=>some ((ai,b)::l)
  |x,fy=>none:=
 fun is q b r=>nd (nh.eq_2 is q b r)
theorem aax : ∀ (tm:Tm) (n m:Nat),uI tm n m [] = True:=
 fun tm n m=>nd (uI.eq_1 tm n m)
theorem aay : ∀ (tm:Tm) (n m k:Nat) (d:D) (r:List (Nat×D)),
 uI tm n m ((k,d)::r)=(Wk (D.fg n m (tm.get k)) d∧uI tm n m r):=
 fun tm n m k d r=>nd (uI.eq_2 tm n m k d r)
theorem VL : ∀ (n m o off:Nat),D.fg n m (D.ptr o off)=if o<n then D.ptr o off else D.junk:=
 fun n m o off=>nd (D.fg.eq_1 n m o off)
theorem VM : ∀ (n m:Nat) (row:List D) (off:Nat),D.fg n m (D.dO row off)=D.dO (D.gA n m row) off:=
 fun n m row off=>nd (D.fg.eq_2 n m row off)
theorem VN : ∀ (n m:Nat) (g:Tag) (z:Nat) (rows:List (List D)),
 D.fg n m (D.slice g z rows)=D.slice (Tag.fg m g) z (D.kP n m rows):=
 fun n m g z rows=>nd (D.fg.eq_3 n m g z rows)
theorem VO : ∀ (n m:Nat) (cs:List D),D.fg n m (D.agg cs)=D.agg (D.gA n m cs):=
 fun n m cs=>nd (D.fg.eq_4 n m cs)
theorem VP : ∀ (n m:Nat) (ds:List D),D.fg n m (D.tuple ds)=D.tuple (D.gA n m ds):=
 fun n m ds=>nd (D.fg.eq_5 n m ds)
theorem VQ : ∀ (n m:Nat),D.fg n m D.junk=D.junk:=
 fun n m=>nd (D.fg.eq_6 n m)
theorem VR : ∀ (n m:Nat) (k:IntKind) (fy:Int),D.fg n m (D.int k fy)=D.int k fy:=
 fun n m k fy=>nd (D.fg.eq_7 n m k fy)
theorem VS : ∀ (n m:Nat) (b:Bool),D.fg n m (D.bool b)=D.bool b:=
 fun n m b=>nd (D.fg.eq_8 n m b)
theorem VT : ∀ (n m:Nat) (l:List UInt8),D.fg n m (D.str l)=D.str l:=
 fun n m l=>nd (D.fg.eq_9 n m l)
theorem S2 : ∀ (n m:Nat),D.fg n m D.ew=D.ew:=
 fun n m=>nd (D.fg.eq_10 n m)
theorem S3 : ∀ (n m:Nat),D.gA n m [] = []:=
 fun n m=>nd (D.gA.eq_1 n m)
theorem S4 : ∀ (n m:Nat) (d:D) (r:List D),D.gA n m (d::r)=D.fg n m d::D.gA n m r:=
 fun n m d r=>nd (D.gA.eq_2 n m d r)
theorem S5 : ∀ (n m:Nat),D.kP n m [] = []:=
 fun n m=>nd (D.kP.eq_1 n m)
theorem S6 : ∀ (n m:Nat) (d:List D) (r:List (List D)),D.kP n m (d::r)=D.gA n m d::D.kP n m r:=
 fun n m d r=>nd (D.kP.eq_2 n m d r)
theorem Qi : ∀ (m t:Nat) (y:Bool),Tag.fg m (Tag.tok t y)=if t<m then Tag.tok t y else Tag.shared:=
 fun _ _ _=>nd rfl
theorem Qj : ∀ (s:St) (n m:Nat),
 s.cut n m = {ah:=List.map (D.gA n m) (List.take n s.ah),aw:=List.take m s.aw}:=
 fun s n m=>nd (St.cut.eq_1 s n m)
theorem VU : ∀ (d:D),aS [d] = d:=
 fun d=>nd (aS.eq_1 d)
theorem VV (size bytes t:Nat) (rows:List (List D)) (g:Tag) (r:List D) (s:St):gw size bytes (.slice (.tok t) size rows) (.slice g size [r]) s =
 if(rows.length+1)*(bytes+1)≤bA∧s.aw[t]? = some (some rows.length)then some (.slice (.tok t) size (rows++ [r]),⟨s.ah,s.aw.set t (some (rows.length+1))⟩)else none:=by
 simp only[gw,List.length_singleton]
 by_cases h1:(rows.length+1)*(bytes+1)≤bA<;>by_cases h2:s.aw[t]? = some (some rows.length)<;>simp[h1,h2]
theorem pf {size bytes t:Nat} {rows new:List (List D)} {g:Tag} {s:St} (h1:(rows.length+new.length)*(bytes+1)≤bA) (h2:s.aw[t]? = some (some rows.length)) :
 gw size bytes (.slice (.tok t) size rows) (.slice g size new) s=some (.slice (.tok t) size (rows++new),⟨s.ah,s.aw.set t (some (rows.length+new.length))⟩):=by
 cases new with
 | nil=>
  have:s.aw.set t (some rows.length)=s.aw:=by
   apply List.ext_getElem?
   intro i
   rw[List.getElem?_set]
   split
   ·rename_i hi;subst hi;rw[h2,if_pos (List.getElem?_eq_some_iff.1 h2).1]
   ·rfl
  simp only[List.length_nil,Nat.add_zero]at h1
  simp[gw,h1,this]
 |cons x l=>
  simp only[gw,h1,h2]
  simp
theorem S7 (size bytes z:Nat) (g:Tag) (r:List D) (s:St):gw size bytes (.slice .full z []) (.slice g size [r]) s =
 if bytes+1≤bA then some (.slice (.tok s.aw.length) size [r],⟨s.ah,s.aw++ [some 1]⟩)else none:=by
 simp[gw]
theorem aaz {P:Program} {B:fa} {nt:Nat} (ac:AC) (Q:Exit→Tm→St→Prop) (tm:Tm) (s:St):kd P B nt ac Q .normal tm s=Q .normal tm s:=nd rfl
theorem aaA {P:Program} {B:fa} {nt:Nat} (ac:AC) (Q:Exit→Tm→St→Prop) (tm:Tm) (s:St):kd P B nt ac Q .ret tm s=Q .ret tm s:=nd rfl
theorem aaB {P:Program} {B:fa} {nt:Nat} (ac:AC) (Q:Exit→Tm→St→Prop) (tm:Tm) (s:St) (i:Nat):kd P B nt ac Q (.exit i) tm s=Q (.exit i) tm s:=nd rfl
theorem aaC (m:Nat):Tag.fg m .full = .full:=nd rfl
theorem S8 (m:Nat):Tag.fg m .shared = .shared:=nd rfl
theorem ag4 {P:Program} (K:Tm→St→Prop) (tm:Tm) (s:St):kH P [] K tm s=K tm s:=nd rfl
theorem s_op {P:Program} (dst:Option Nat) (o:AO) (r:List AI) (K:Tm→St→Prop) (tm:Tm) (s:St) :
 kH P (.op dst none o::r) K tm s=(match aO o tm s with|some (d,s')=>kH P r K (tm.put dst d) s'|none=>False):=nd rfl
def KJ (P:Program) (r:List AI) (K:Tm→St→Prop) (tm:Tm) (dst:Option Nat) (d:D) (s:St):Prop:=kH P r K (tm.put dst d) s
theorem akF {P:Program} (r:List AI) (K:Tm→St→Prop) (tm:Tm) (dst:Option Nat) (d:D) (s:St):KJ P r K tm dst d s=kH P r K (tm.put dst d) s:=nd rfl
theorem s_call {P:Program} (dst:Option Nat) (f:Nat) (xs:List X) (r:List AI) (K:Tm→St→Prop) (tm:Tm) (s:St) :
 kH P (.call dst none f xs::r) K tm s=CL false P f (xs.map (·.ev tm)) s (KJ P r K tm dst):=nd rfl
def NJ (P:Program) (dst:Option Nat) (neg:Bool) (x:D) (r:List AI) (K:Tm→St→Prop) (tm:Tm) (s:St):Prop:=
 match x with
 | .slice _ _ rows=>∀ b:Bool,(rows≠ []→b=false)→kH P r K (tm.put dst (.bool (if neg then !b else b))) s
 |_=>False
theorem adg {P:Program} (dst:Option Nat) (neg:Bool) (x:X) (r:List AI) (K:Tm→St→Prop) (tm:Tm) (s:St) :
 kH P (.nil dst none neg x::r) K tm s=NJ P dst neg (x.ev tm) r K tm s:=nd rfl
theorem aaD {P:Program} (dst:Option Nat) (neg:Bool) (g:Tag) (z:Nat) (d:List D) (l:List (List D)) (r:List AI) (K:Tm→St→Prop) (tm:Tm) (s:St) :
 NJ P dst neg (.slice g z (d::l)) r K tm s=kH P r K (tm.put dst (.bool neg)) s:=by
 simp only[NJ,ne_eq,reduceCtorEq,not_false_eq_true,true_imp_iff,eq_iff_iff]
 refine⟨fun h=>by have:=h false rfl;cases neg<;>exact this,fun h b hb=>?_⟩
 subst hb;cases neg<;>exact h
theorem DT {P:Program} {dst:Option Nat} {neg:Bool} {g:Tag} {z:Nat} {l:List (List D)} {r:List AI} {K:Tm→St→Prop} {tm:Tm} {s:St}
 (h1:l = []→kH P r K (tm.put dst (.bool (!neg))) s) (h2:kH P r K (tm.put dst (.bool neg)) s):NJ P dst neg (.slice g z l) r K tm s:=by
 intro b hb
 cases b with
 |false=>cases neg<;>exact h2
 |true=>
  have:l = []:=Decidable.byContradiction fun h=>by cases hb h
  cases neg<;>exact h1 this
theorem ag6 {P:Program} (dst:Option Nat) (t:Nat) (w:Bool) (o:AO) (r:List AI) (K:Tm→St→Prop) (tm:Tm) (s:St) :
 kH P (.op dst (some (t,w)) o::r) K tm s = @GB (tm.get t) w ⟨(kH P (.op dst none o::r) K tm s),(kH P r K (tm.put dst (.tuple [])) s)⟩:=nd rfl
def CV (P:Program) (x:D) (ag7:List D) (s:St) (K:D→St→Prop):Prop:=
 match x with
 | .gn f nQ=>enters P f=true∧CL false P f (ag7++nQ) s K
 |_=>False
theorem aaE {P:Program} (dst:Option Nat) (t:Nat) (xs:List X) (r:List AI) (K:Tm→St→Prop) (tm:Tm) (s:St) :
 kH P (.jA dst none t xs::r) K tm s=CV P (tm.get t) (xs.map (·.ev tm)) s (KJ P r K tm dst):=nd rfl
theorem CV.use {P:Program} {f:Nat} {nQ ag7:List D} {s s':St} {d:D} {K:D→St→Prop} (he:enters P f=true) (h:az P f (ag7++nQ) s d s') (k:K d s'):CV P (.gn f nQ) ag7 s K:=⟨he,CU h k⟩
theorem VW {P:Program} (dst:Option Nat) (t:Nat) (w:Bool) (u:Nat) (xs:List X) (r:List AI) (K:Tm→St→Prop) (tm:Tm) (s:St) :
 kH P (.jA dst (some (t,w)) u xs::r) K tm s = @GB (tm.get t) w ⟨(kH P (.jA dst none u xs::r) K tm s),(kH P r K (tm.put dst (.tuple [])) s)⟩:=nd rfl
theorem aaF {P:Program} (dst:Option Nat) (t:Nat) (w:Bool) (f:Nat) (xs:List X) (r:List AI) (K:Tm→St→Prop) (tm:Tm) (s:St) :
 kH P (.call dst (some (t,w)) f xs::r) K tm s = @GB (tm.get t) w ⟨(kH P (.call dst none f xs::r) K tm s),(kH P r K (tm.put dst (.tuple [])) s)⟩:=nd rfl
theorem adi {P:Program} (dst:Option Nat) (t:Nat) (w:Bool) (neg:Bool) (x:X) (r:List AI) (K:Tm→St→Prop) (tm:Tm) (s:St) :
 kH P (.nil dst (some (t,w)) neg x::r) K tm s = @GB (tm.get t) w ⟨(kH P (.nil dst none neg x::r) K tm s),(kH P r K (tm.put dst (.tuple [])) s)⟩:=nd rfl
theorem akG (b:Bool) (A C:Prop) : @GB (.bool b) true ⟨A,C⟩ = @CB (.bool b) ⟨A,C⟩:=nd rfl
theorem akH (b:Bool) (A C:Prop) : @GB (.bool b) false ⟨A,C⟩ = @CB (.bool b) ⟨C,A⟩:=by
 cases b<;>simp[GB,CB,GJ,uV]
theorem akI (l:List D) (w:Bool) (A C:Prop) : @GB (.tuple l) w ⟨A,C⟩=C:=nd rfl
theorem ag8 {P:Program} {K:Tm→St→Prop} (bQ:List St) (tm:Tm) (s:St):gx P K [] bQ tm s=K tm s:=nd rfl
def OJ (P:Program) (o:AO) (dst:Option Nat) (b:Nat) (r:List (AI×Nat)) (K:Tm→St→Prop) (bQ:List St) (tm:Tm) (s:St):Bool→Prop
 |true=>match aO o tm s with|some (d,s')=>gx P K r (s::bQ) (tm.put dst d) s'|none=>False
 |false=>match aO o tm s with|some (d,_)=>oo (.op dst none o) tm d (bQ.take b)∧gx P K r bQ (tm.put dst d) s|none=>False
theorem akK {P:Program} {K:Tm→St→Prop} (dst:Option Nat) (o:AO) (b:Nat) (r:List (AI×Nat)) (bQ:List St) (tm:Tm) (s:St) :
 gx P K ((.op dst none o,b)::r) bQ tm s=OJ P o dst b r K bQ tm s o.core:=by
 simp only[gx,ni]
 cases o.core<;>rfl
theorem akL {P:Program} (o:AO) (dst:Option Nat) (b:Nat) (r:List (AI×Nat)) (K:Tm→St→Prop) (bQ:List St) (tm:Tm) (s:St) :
 OJ P o dst b r K bQ tm s true=match aO o tm s with|some (d,s')=>gx P K r (s::bQ) (tm.put dst d) s'|none=>False:=nd rfl
theorem akM {P:Program} (o:AO) (dst:Option Nat) (b:Nat) (r:List (AI×Nat)) (K:Tm→St→Prop) (bQ:List St) (tm:Tm) (s:St) :
 OJ P o dst b r K bQ tm s false=match aO o tm s with|some (d,_)=>oo (.op dst none o) tm d (bQ.take b)∧gx P K r bQ (tm.put dst d) s|none=>False:=nd rfl
theorem ag9 {P:Program} {K:Tm→St→Prop} (dst:Option Nat) (t:Nat) (w:Bool) (o:AO) (b:Nat) (r:List (AI×Nat)) (bQ:List St) (tm:Tm) (s:St) :
 gx P K ((.op dst (some (t,w)) o,b)::r) bQ tm s = @GB (tm.get t) w ⟨(gx P K ((.op dst none o,b)::r) bQ tm s),(gx P K r (if o.core then s::bQ else bQ) (tm.put dst (.tuple [])) s)⟩:=by
 simp only[GB,gx,ni]
 cases o.core<;>rfl
def KG (P:Program) (K:Tm→St→Prop) (r:List (AI×Nat)) (bQ:List St) (tm:Tm) (dst:Option Nat) (d:D) (s:St):Prop:=gx P K r bQ (tm.put dst d) s
theorem akN {P:Program} (K:Tm→St→Prop) (r:List (AI×Nat)) (bQ:List St) (tm:Tm) (dst:Option Nat) (d:D) (s:St):KG P K r bQ tm dst d s=gx P K r bQ (tm.put dst d) s:=nd rfl
theorem g_call {P:Program} {K:Tm→St→Prop} (dst:Option Nat) (f:Nat) (xs:List X) (b:Nat) (r:List (AI×Nat)) (bQ:List St) (tm:Tm) (s:St) :
 gx P K ((.call dst none f xs,b)::r) bQ tm s=CL true P f (xs.map (·.ev tm)) s (KG P K r (s::bQ) tm dst):=nd rfl
theorem aaG {P:Program} {K:Tm→St→Prop} (dst:Option Nat) (t:Nat) (w:Bool) (f:Nat) (xs:List X) (b:Nat) (r:List (AI×Nat)) (bQ:List St) (tm:Tm) (s:St) :
 gx P K ((.call dst (some (t,w)) f xs,b)::r) bQ tm s = @GB (tm.get t) w ⟨(gx P K ((.call dst none f xs,b)::r) bQ tm s),(gx P K r (s::bQ) (tm.put dst (.tuple [])) s)⟩:=nd rfl
class Ok (p:Prop):Prop where
 out:p
instance:Ok True:=⟨trivial⟩
instance {p q:Prop} [Ok p] [Ok q] : Ok (p∧q):=⟨⟨Ok.out,Ok.out⟩⟩
instance {α:Type} (a:α):Ok (a=a):=⟨rfl⟩
instance (d:D):Ok (Wk d .junk):=⟨Wk.junk d⟩
instance {l l':List D} [Ok (jz l l')] : Ok (Wk (.tuple l) (.tuple l')):=⟨Wk.tuple Ok.out⟩
instance {l l':List D} [Ok (jz l l')] : Ok (Wk (.agg l) (.agg l')):=⟨Wk.agg Ok.out⟩
instance {g:Tag} {z:Nat} {l l':List (List D)} [Ok (gB l l')] : Ok (Wk (.slice g z l) (.slice g z l')):=⟨Wk.rows Ok.out⟩
instance {g:Tag} {z:Nat} {l l':List (List D)} [Ok (gB l l')] : Ok (Wk (.slice g z l) (.slice .shared z l')):=⟨Wk.slice Ok.out⟩
instance (z z':Nat):Ok (Wk (.slice .full z []) (.slice .full z' [])):=⟨Wk.akv z z'⟩
instance (g:Tag) (z z':Nat):Ok (Wk (.slice g z []) (.slice .shared z' [])):=⟨Wk.nil g z z'⟩
instance (d:D):Ok (Wk d d):=⟨Wk.refl d⟩
instance:Ok (jz [] []):=⟨.nil⟩
instance {d d':D} {l l':List D} [Ok (Wk d d')] [Ok (jz l l')] : Ok (jz (d::l) (d'::l')):=⟨.cons Ok.out Ok.out⟩
instance (l:List D):Ok (jz l l):=⟨jz.refl l⟩
instance:Ok (gB [] []):=⟨.nil⟩
instance {d d':List D} {l l':List (List D)} [Ok (jz d d')] [Ok (gB l l')] : Ok (gB (d::l) (d'::l')):=⟨.cons Ok.out Ok.out⟩
instance {a a' b b':List (List D)} [Ok (gB a a')] [Ok (gB b b')] : Ok (gB (a++b) (a'++b')):=⟨gB.append Ok.out Ok.out⟩
instance (l:List (List D)):Ok (gB l l):=⟨gB.refl l⟩
theorem bs:(∀ b,(true ||b)=true)∧(∀ b,(false ||b)=b)∧(∀ b,(b ||true)=true)∧(∀ b,(b ||false)=b)∧(∀ b,(true && b)=b)∧(∀ b,(false && b)=false)∧(∀ b,(b && true)=b)∧(∀ b,(b && false)=false)∧
 (!true)=false∧(!false)=true∧(∀ b,(!!b)=b)∧((false=true)=False)∧(∀ (α β:Type) (a:α) (f:α→Option β),(some a).bind f=f a)∧
 (∀ (α β γ:Type) (x:Option α) (f:α→Option β) (g:β→Option γ),(x.bind f).bind g=x.bind fun y=>(f y).bind g):=
 ⟨Bool.true_or,Bool.false_or,Bool.or_true,Bool.or_false,Bool.true_and,Bool.false_and,Bool.and_true,Bool.and_false,rfl,rfl,Bool.not_not,by simp,fun _ _ _ _=>rfl,fun _ _ _ x f g=>Option.bind_assoc x f g⟩
attribute [go_sem] adb akC akD ag4 s_op akF s_call adg aaD ag6 aaF adi akG akH akI ag8 akK akL akM ag9 akN g_call aaG AO.core AI.kind AO.kind gN
attribute [go_sem] PE PF Kb Kc aaE VW PA PB PC PD Kd Ke Kf Kg SS SU PG aaf Vt
attribute [go_sem] Pz Kh Pw Px Py Ki Kj Kk SV SW aae SD Z8 Vq Z9 Vr aac Vs SC aad Vu O4 Vv
attribute [go_sem] SJ SK SL SM SN SO SP SQ SR O6 O7 O8 O9 Pa Pb Pe Pf Ph Pj Pk Pl Pn Po Pp Pq Pr Ps Pt Pu Pv VF VG PH PI PJ PK PN PO SX SY PQ PR PS VH VI PT SZ S1 Kl Km Kn Ko VJ VK PU PV PW PX PY PZ P0 P5 P6 Mk Ml P7 P8 P9 Qa aap aaq Qb Qc Qd Mm Mn aar aas aat aau Mp Mq Mr Ms Mt Mu Mv Mw Mx My Mz MA MB MC Qe Qf Qg Qh aav aaw MD ME aax aay VL VM VN VO VP VQ VR VS VT S2 S3 S4 S5 S6 Qi Qj VU VV S7 aaC S8 aaz aaA aaB
attribute [go_sem] List.map_cons List.map_nil List.getElem?_cons_zero List.getElem?_cons_succ List.length_cons List.length_nil List.set_cons_zero List.set_cons_succ List.take_succ_cons List.take_zero List.take_nil List.drop_succ_cons List.drop_zero List.drop_nil List.cons_append List.nil_append List.append_nil Nat.zero_add Nat.add_zero Option.map_some Option.map_none
attribute [go_sem] Bool.not_false Bool.not_true List.length_map List.getElem?_map Int.toNat_natCast Int.natCast_nonneg Int.toNat_zero and_self and_true true_and
attribute [go_sem_proc ↓] reduceIte
attribute [go_sem_proc] Int.reduceLE reduceCtorEq Nat.reduceEqDiff Nat.reduceLeDiff Nat.reduceAdd Nat.reduceMul Nat.reduceSub Nat.reduceLT
theorem aX {b:Bool} {A C:Prop} (h1:b=true→A) (h:b=true:=by assumption) : @CB (.bool b) ⟨A,C⟩:=ade h h1
theorem aY {b:Bool} {A C:Prop} (h1:b=false→C) (h:b=false:=by assumption) : @CB (.bool b) ⟨A,C⟩:=adf h h1
theorem aZ {b:Bool} {A C:Prop} (h1:b=true→A) (h2:b=false→C) : @CB (.bool b) ⟨A,C⟩:=⟨h1,h2⟩
theorem eP {a b:Prop} (x:a) (y:b):a∧b:=⟨x,y⟩
theorem bo {α:Type _} (a b:α):(some a=some b)=(a=b):=Option.some.injEq a b
theorem bp {α:Sort _} {p:α→Prop} {a:α} : (∃ x,a=x∧p x)↔p a:=exists_eq_left'
theorem mN {n m:Nat} (h:Nat.ble n m=true):n≤m:=Nat.le_of_ble_eq_true h
theorem aB {n m:Nat} {res:List (Nat×Option (Bool×Nat))} {d:D} {s':St} {e:Exit} {tm:Tm} {s:St} {Q:Exit→Tm→St→Prop} (hQ:iC n m res d s'=Q) (h : ∃ l,aR res tm s=some l∧Wk ((aS l).fg n m) d∧gB (s.cut n m).ah s'.ah∧(s.cut n m).aw=s'.aw) (he:e = .ret∨e = .normal:=by first|exact .inl rfl|exact .inr rfl):Q e tm s:=by cases he with|inl x=>cases x;exact ag2 hQ h|inr x=>cases x;exact ag3 hQ h
theorem bS {p:Prop} (h:p:=by repeat' (first|exact Ok.out|with_reducible refine eP ?_ ?_|(simp;done))):p:=h
theorem cu {p:Prop} (h:p:=by repeat' (first|exact Ok.out|with_reducible refine eP ?_ ?_)):p:=h
theorem eA {p:Prop} (h:p:=by(try cases h);simp only[aR,aS,bo,bp,go_sem,hC,hE,hM,hY];repeat' (first|exact Ok.out|with_reducible refine eP ?_ ?_|(simp;done))):p:=h
theorem bj {p:Prop} (h:p:=by simp only[aR,aS,bo,bp,go_sem,hC,hE,hM,hY];repeat' (first|exact Ok.out|with_reducible refine eP ?_ ?_|(simp;done))):p:=h
theorem lX_ {p:Prop} (h:p:=by simp only[go_sem,hC,hE,hM,hY];repeat' (first|exact Ok.out|with_reducible refine eP ?_ ?_)):p:=h
theorem dS {P:Program} {B:fa} {nt:Nat} {a:AC} {Q:Exit→Tm→St→Prop} {tm bF:Tm} {s:St} {fR:List (List D)} (n m:Nat) (h:bg P B nt a Q bF ⟨fR,(s.cut n m).aw⟩) (hn:B.s.ah.length≤n:=by rw[hB];exact mN rfl) (hm:B.s.aw.length≤m:=by rw[hB];exact mN rfl) (ht:uI tm n m bF:=by exact lX_) (ho:gB (s.cut n m).ah fR:=by exact lX_):bg P B nt a Q tm s:=bg.re bF fR n m hn hm ht ho h
theorem eV {P:Program} {B:fa} {nt:Nat} {a:AC} {Q:Exit→Tm→St→Prop} {tm bF:Tm} {s:St} {fR:List (List D)} (n m:Nat) (ht:uI tm n m bF) (ho:gB (s.cut n m).ah fR) (h:bg P B nt a Q bF ⟨fR,(s.cut n m).aw⟩) (hn:B.s.ah.length≤n:=by rw[hB];exact mN rfl) (hm:B.s.aw.length≤m:=by rw[hB];exact mN rfl):bg P B nt a Q tm s:=bg.re bF fR n m hn hm ht ho h
theorem bE:0<1∧0<1∧0<1∧0<1:=⟨Nat.zero_lt_one,Nat.zero_lt_one,Nat.zero_lt_one,Nat.zero_lt_one⟩
end Go.Abs
namespace Go.Abs
mutual
theorem Qk (n m:Nat) : ∀ d,D.ok 0 0 d=true→D.fg n m d=d
 | .junk,_=>by simp[D.fg]
 | .int k n,_=>by simp[D.fg]
 | .bool b,_=>by simp[D.fg]
 | .str l,_=>by simp[D.fg]
 | .ew,_=>by simp[D.fg]
 | .val v,_=>by simp[D.fg]
 | .eH z,_=>by simp[D.fg]
 | .fu T o,h=>by simp[D.ok]at h
 | .fW o,h=>by simp[D.ok]at h
 | .gn f cs,h=>by
  simp only[D.ok]at h
  simp only[D.fg,il n m cs h]
 | .ptr o f,h=>by simp[D.ok]at h
 | .dO r f,h=>by
  simp only[D.ok]at h
  simp only[D.fg,il n m r h]
 | .slice g z rows,h=>by
  simp only[D.ok,Bool.and_eq_true]at h
  simp only[D.fg,Kp n m rows h.2]
  cases g with
  |tok t y=>simp[Tag.ok]at h
  |full=>rfl
  |shared=>rfl
 | .agg cs,h=>by
  simp only[D.ok]at h
  simp only[D.fg,il n m cs h]
 | .tuple cs,h=>by
  simp only[D.ok]at h
  simp only[D.fg,il n m cs h]
theorem il (n m:Nat) : ∀ l,D.bI 0 0 l=true→D.gA n m l=l
 | [],_=>by simp[D.gA]
 |d::r,h=>by
  simp only[D.bI,Bool.and_eq_true]at h
  simp only[D.gA,Qk n m d h.1,il n m r h.2]
theorem Kp (n m:Nat) : ∀ l,D.gY 0 0 l=true→D.kP n m l=l
 | [],_=>by simp[D.kP]
 |d::r,h=>by
  simp only[D.gY,Bool.and_eq_true]at h
  simp only[D.kP,il n m d h.1,Kp n m r h.2]
end
theorem gZ {α:Type} {f:α→List D} (h : ∀ x,D.bI 0 0 (f x)=true) (l:List α):D.gY 0 0 (l.map f)=true:=by
 simp[EE,h]
theorem lV {α:Type} {f:α→List D} (h : ∀ x,D.bI 0 0 (f x)=true) (n m:Nat) (l:List α):D.kP n m (l.map f)=l.map f:=Kp n m _ (gZ h l)
theorem Nd (n m:Nat) : ∀ a b,D.kP n m (a++b)=D.kP n m a++D.kP n m b
 | [],b=>by simp[D.kP]
 |x::a,b=>by simp[D.kP,Nd n m a b]
abbrev aF:=List UInt8
structure ga where
 kind:Int
 text:aF
 n:Int
 pos:Int
deriving DecidableEq
structure Ex where
 op:Int
 n:Int
 name:aF
 kids:List Ex
structure Ar where
 ref:Bool
 name:aF
 x:Ex
structure Sm where
 id:Int
 kind:Int
 labels:List aF
 name:aF
 proc:aF
 x:Ex
 has:Bool
 args:List Ar
 bm:List Sm
 bd:List Sm
structure Pm where
 name:aF
 ref:Bool
structure Pc where
 name:aF
 params:List Pm
 vars:List aF
 body:List Sm
 fin:List aF
structure Pg where
 globals:List aF
 procs:List Pc
def qi:Ex:=⟨0,0,[],[]⟩
def ar0:Ar:=⟨false,[],qi⟩
def Hw:Sm:=⟨0,0,[],[],[],qi,false,[],[],[]⟩
def YG:Pg:=⟨[],[]⟩
def encStr (s:aF):List D:= [.str s]
def eQ (t:ga):List D:= [.int .i64 t.kind, .str t.text, .int .i64 t.n, .int .i64 t.pos]
def sl (z:Nat) (rows:List (List D)):D:= .slice .shared z rows
mutual
def bJ:Ex→List D
 |⟨op,n,name,kids⟩=> [.int .i64 op, .int .i64 n, .str name, .slice .shared 4 (vz kids)]
def vz:List Ex→List (List D)
 | []=> []
 |x::l=>bJ x::vz l
end
theorem Hx : ∀ l,vz l=l.map bJ
 | []=>by simp[vz]
 |x::l=>by simp[vz,Hx l]
theorem jD (x:Ex):bJ x = [.int .i64 x.op, .int .i64 x.n, .str x.name, .slice .shared 4 (x.kids.map bJ)]:=by
 cases x;simp[bJ,Hx]
def eG (a:Ar):List D:= [.bool a.ref, .str a.name, .int .i64 a.x.op, .int .i64 a.x.n, .str a.x.name, .slice .shared 4 (a.x.kids.map bJ)]
mutual
def bb:Sm→List D
 |⟨id,kind,labels,name,proc,x,has,args,bm,bd⟩=> [.int .i64 id, .int .i64 kind, .slice .shared 1 (labels.map encStr), .str name, .str proc,
  .int .i64 x.op, .int .i64 x.n, .str x.name, .slice .shared 4 (x.kids.map bJ), .bool has, .slice .shared 6 (args.map eG), .slice .shared 13 (tE bm), .slice .shared 13 (tE bd)]
def tE:List Sm→List (List D)
 | []=> []
 |x::l=>bb x::tE l
end
theorem Hy : ∀ l,tE l=l.map bb
 | []=>by simp[tE]
 |x::l=>by simp[tE,Hy l]
theorem dT (s:Sm):bb s = [.int .i64 s.id, .int .i64 s.kind, .slice .shared 1 (s.labels.map encStr), .str s.name, .str s.proc,
 .int .i64 s.x.op, .int .i64 s.x.n, .str s.x.name, .slice .shared 4 (s.x.kids.map bJ), .bool s.has, .slice .shared 6 (s.args.map eG), .slice .shared 13 (s.bm.map bb), .slice .shared 13 (s.bd.map bb)]:=by
 cases s;simp[bb,Hy]
def gR (p:Pm):List D:= [.str p.name, .bool p.ref]
def cJ (p:Pc):List D:= [.str p.name, .slice .shared 2 (p.params.map gR), .slice .shared 1 (p.vars.map encStr), .slice .shared 13 (p.body.map bb), .slice .shared 1 (p.fin.map encStr)]
def cO (p:Pg):List D:= [.slice .shared 1 (p.globals.map encStr), .slice .shared 5 (p.procs.map cJ)]
theorem adj (x:ga):(eQ x).length=4:=nd rfl
theorem aaH (x:ga):List.take 4 (eQ x)=eQ x:=nd rfl
theorem aaI (x:ga):List.drop 4 (eQ x) = []:=nd rfl
theorem S9 (x:ga):(eQ x)[0]? = some (.int .i64 x.kind):=nd rfl
theorem Ta (x:ga):(eQ x)[1]? = some (.str x.text):=nd rfl
theorem Tb (x:ga):(eQ x)[2]? = some (.int .i64 x.n):=nd rfl
theorem Tc (x:ga):(eQ x)[3]? = some (.int .i64 x.pos):=nd rfl
theorem aha (EJ:Int) (YH:aF) (n_:Int) (adl:Int):eQ ⟨EJ,YH,n_,adl⟩ = [.int .i64 EJ, .str YH, .int .i64 n_, .int .i64 adl]:=by simp only[eQ]
theorem ahb (x:Ex):(bJ x).length=4:=by simp only[jD];rfl
theorem adn (x:Ex):List.take 4 (bJ x)=bJ x:=by simp only[jD];rfl
theorem ado (x:Ex):List.drop 4 (bJ x) = []:=by simp only[jD];rfl
theorem VX (x:Ex):(bJ x)[0]? = some (.int .i64 x.op):=by simp only[jD];rfl
theorem VY (x:Ex):(bJ x)[1]? = some (.int .i64 x.n):=by simp only[jD];rfl
theorem VZ (x:Ex):(bJ x)[2]? = some (.str x.name):=by simp only[jD];rfl
theorem V0 (x:Ex):(bJ x)[3]? = some (.slice .shared 4 (x.kids.map bJ)):=by simp only[jD];rfl
theorem akO (op_:Int) (n_:Int) (oP:aF) (YI:List Ex):bJ ⟨op_,n_,oP,YI⟩ = [.int .i64 op_, .int .i64 n_, .str oP, .slice .shared 4 (YI.map bJ)]:=by simp only[jD]
theorem ahc (x:Ar):(eG x).length=6:=nd rfl
theorem adp (x:Ar):List.take 6 (eG x)=eG x:=nd rfl
theorem adq (x:Ar):List.drop 6 (eG x) = []:=nd rfl
theorem V1 (x:Ar):(eG x)[0]? = some (.bool x.ref):=nd rfl
theorem V2 (x:Ar):(eG x)[1]? = some (.str x.name):=nd rfl
theorem V3 (x:Ar):(eG x)[2]? = some (.int .i64 x.x.op):=nd rfl
theorem V4 (x:Ar):(eG x)[3]? = some (.int .i64 x.x.n):=nd rfl
theorem V5 (x:Ar):(eG x)[4]? = some (.str x.x.name):=nd rfl
theorem V6 (x:Ar):(eG x)[5]? = some (.slice .shared 4 (x.x.kids.map bJ)):=nd rfl
theorem V7 (x:Ar):List.take 4 (List.drop 2 (eG x))=bJ x.x:=by simp only[eG,jD];rfl
theorem akP (Kq:Bool) (oP:aF) (x_:Ex):eG ⟨Kq,oP,x_⟩ = [.bool Kq, .str oP, .int .i64 x_.op, .int .i64 x_.n, .str x_.name, .slice .shared 4 (x_.kids.map bJ)]:=by simp only[eG]
theorem ahd (x:Sm):(bb x).length=13:=by simp only[dT];rfl
theorem adr (x:Sm):List.take 13 (bb x)=bb x:=by simp only[dT];rfl
theorem ads (x:Sm):List.drop 13 (bb x) = []:=by simp only[dT];rfl
theorem V8 (x:Sm):(bb x)[0]? = some (.int .i64 x.id):=by simp only[dT];rfl
theorem V9 (x:Sm):(bb x)[1]? = some (.int .i64 x.kind):=by simp only[dT];rfl
theorem Wa (x:Sm):(bb x)[2]? = some (.slice .shared 1 (x.labels.map encStr)):=by simp only[dT];rfl
theorem Wb (x:Sm):(bb x)[3]? = some (.str x.name):=by simp only[dT];rfl
theorem Wc (x:Sm):(bb x)[4]? = some (.str x.proc):=by simp only[dT];rfl
theorem Wd (x:Sm):(bb x)[5]? = some (.int .i64 x.x.op):=by simp only[dT];rfl
theorem Wf (x:Sm):(bb x)[6]? = some (.int .i64 x.x.n):=by simp only[dT];rfl
theorem Wg (x:Sm):(bb x)[7]? = some (.str x.x.name):=by simp only[dT];rfl
theorem Wh (x:Sm):(bb x)[8]? = some (.slice .shared 4 (x.x.kids.map bJ)):=by simp only[dT];rfl
theorem Wi (x:Sm):(bb x)[9]? = some (.bool x.has):=by simp only[dT];rfl
theorem Td (x:Sm):(bb x)[10]? = some (.slice .shared 6 (x.args.map eG)):=by simp only[dT];rfl
theorem Te (x:Sm):(bb x)[11]? = some (.slice .shared 13 (x.bm.map bb)):=by simp only[dT];rfl
theorem Tf (x:Sm):(bb x)[12]? = some (.slice .shared 13 (x.bd.map bb)):=by simp only[dT];rfl
theorem Wj (x:Sm):List.take 4 (List.drop 5 (bb x))=bJ x.x:=by simp only[dT,jD];rfl
theorem akQ (id_:Int) (EJ:Int) (Nf:List aF) (oP:aF) (YJ:aF) (x_:Ex) (adt:Bool) (YK:List Ar) (adu:List Sm) (adv:List Sm):bb ⟨id_,EJ,Nf,oP,YJ,x_,adt,YK,adu,adv⟩ = [.int .i64 id_, .int .i64 EJ, .slice .shared 1 (Nf.map encStr), .str oP, .str YJ, .int .i64 x_.op, .int .i64 x_.n, .str x_.name, .slice .shared 4 (x_.kids.map bJ), .bool adt, .slice .shared 6 (YK.map eG), .slice .shared 13 (adu.map bb), .slice .shared 13 (adv.map bb)]:=by simp only[dT]
theorem ahe (x:Pm):(gR x).length=2:=nd rfl
theorem adw (x:Pm):List.take 2 (gR x)=gR x:=nd rfl
theorem adx (x:Pm):List.drop 2 (gR x) = []:=nd rfl
theorem Wl (x:Pm):(gR x)[0]? = some (.str x.name):=nd rfl
theorem Wm (x:Pm):(gR x)[1]? = some (.bool x.ref):=nd rfl
theorem akR (oP:aF) (Kq:Bool):gR ⟨oP,Kq⟩ = [.str oP, .bool Kq]:=by simp only[gR]
theorem ahf (x:Pc):(cJ x).length=5:=nd rfl
theorem ady (x:Pc):List.take 5 (cJ x)=cJ x:=nd rfl
theorem adz (x:Pc):List.drop 5 (cJ x) = []:=nd rfl
theorem Wn (x:Pc):(cJ x)[0]? = some (.str x.name):=nd rfl
theorem Wo (x:Pc):(cJ x)[1]? = some (.slice .shared 2 (x.params.map gR)):=nd rfl
theorem Wp (x:Pc):(cJ x)[2]? = some (.slice .shared 1 (x.vars.map encStr)):=nd rfl
theorem Wq (x:Pc):(cJ x)[3]? = some (.slice .shared 13 (x.body.map bb)):=nd rfl
theorem Wr (x:Pc):(cJ x)[4]? = some (.slice .shared 1 (x.fin.map encStr)):=nd rfl
theorem akS (oP:aF) (Ng:List Pm) (YL:List aF) (YM:List Sm) (adA:List aF):cJ ⟨oP,Ng,YL,YM,adA⟩ = [.str oP, .slice .shared 2 (Ng.map gR), .slice .shared 1 (YL.map encStr), .slice .shared 13 (YM.map bb), .slice .shared 1 (adA.map encStr)]:=by simp only[cJ]
theorem ahg (x:Pg):(cO x).length=2:=nd rfl
theorem adB (x:Pg):List.take 2 (cO x)=cO x:=nd rfl
theorem adC (x:Pg):List.drop 2 (cO x) = []:=nd rfl
theorem Ws (x:Pg):(cO x)[0]? = some (.slice .shared 1 (x.globals.map encStr)):=nd rfl
theorem Wt (x:Pg):(cO x)[1]? = some (.slice .shared 5 (x.procs.map cJ)):=nd rfl
theorem akT (Kr:List aF) (Tg:List Pc):cO ⟨Kr,Tg⟩ = [.slice .shared 1 (Kr.map encStr), .slice .shared 5 (Tg.map cJ)]:=by simp only[cO]
attribute [go_sem] adj aaH aaI S9 Ta Tb Tc aha ahb adn ado VX VY VZ V0 akO ahc adp adq V1 V2 V3 V4 V5 V6 V7 akP ahd adr ads V8 V9 Wa Wb Wc Wd Wf Wg Wh Wi Td Te Tf Wj akQ ahe adw adx Wl Wm akR ahf ady adz Wn Wo Wp Wq Wr akS ahg adB adC Ws Wt akT
theorem EK (s:aF):D.bI 0 0 (encStr s)=true:=rfl
theorem IS (t:ga):D.bI 0 0 (eQ t)=true:=rfl
mutual
theorem gW : ∀ x,D.bI 0 0 (bJ x)=true
 |⟨op,n,name,kids⟩=>by simp[bJ,D.bI,D.ok,Tag.ok,YN kids]
theorem YN : ∀ l,D.gY 0 0 (vz l)=true
 | []=>rfl
 |x::l=>by simp[vz,D.gY,gW x,YN l]
end
theorem Ks (a:Ar):D.bI 0 0 (eG a)=true:=by simp[eG,D.bI,D.ok,Tag.ok,gZ gW]
mutual
theorem nj : ∀ x,D.bI 0 0 (bb x)=true
 |⟨id,kind,labels,name,proc,x,has,args,bm,bd⟩=>by simp[bb,D.bI,D.ok,Tag.ok,Ql bm,Ql bd,gZ EK,gZ gW,gZ Ks]
theorem Ql : ∀ l,D.gY 0 0 (tE l)=true
 | []=>rfl
 |x::l=>by simp[tE,D.gY,nj x,Ql l]
end
theorem Qm (p:Pm):D.bI 0 0 (gR p)=true:=rfl
theorem xw (p:Pc):D.bI 0 0 (cJ p)=true:=by simp[cJ,D.bI,D.ok,Tag.ok,gZ Qm,gZ EK,gZ nj]
theorem j8 (p:Pg):D.bI 0 0 (cO p)=true:=by simp[cO,D.bI,D.ok,Tag.ok,gZ EK,gZ xw]
theorem adD (n m:Nat) (x:ga):D.gA n m (eQ x)=eQ x:=il n m _ (IS x)
theorem ahh (n m:Nat) (x:Ex):D.gA n m (bJ x)=bJ x:=il n m _ (gW x)
theorem ahi (n m:Nat) (x:Ar):D.gA n m (eG x)=eG x:=il n m _ (Ks x)
theorem ahj (n m:Nat) (x:Sm):D.gA n m (bb x)=bb x:=il n m _ (nj x)
theorem ahk (n m:Nat) (x:Pm):D.gA n m (gR x)=gR x:=il n m _ (Qm x)
theorem ahl (n m:Nat) (x:Pc):D.gA n m (cJ x)=cJ x:=il n m _ (xw x)
theorem ahm (n m:Nat) (x:Pg):D.gA n m (cO x)=cO x:=il n m _ (j8 x)
attribute [go_sem] adD ahh ahi ahj ahk ahl ahm
theorem eF (l:List aF):D.gY 0 0 (l.map encStr)=true:=gZ EK l
theorem Kt (l:List ga):D.gY 0 0 (l.map eQ)=true:=gZ IS l
theorem YO (l:List Ex):D.gY 0 0 (l.map bJ)=true:=gZ gW l
theorem IT (l:List Ar):D.gY 0 0 (l.map eG)=true:=gZ Ks l
theorem oQ (l:List Sm):D.gY 0 0 (l.map bb)=true:=gZ nj l
theorem Qn (l:List Pm):D.gY 0 0 (l.map gR)=true:=gZ Qm l
theorem wL (l:List Pc):D.gY 0 0 (l.map cJ)=true:=gZ xw l
theorem Ti (n m:Nat) (l:List aF):D.kP n m (l.map encStr)=l.map encStr:=lV EK n m l
theorem nn (n m:Nat) (l:List ga):D.kP n m (l.map eQ)=l.map eQ:=lV IS n m l
theorem ahn (n m:Nat) (l:List Ex):D.kP n m (l.map bJ)=l.map bJ:=lV gW n m l
theorem aho (n m:Nat) (l:List Ar):D.kP n m (l.map eG)=l.map eG:=lV Ks n m l
theorem ahp (n m:Nat) (l:List Sm):D.kP n m (l.map bb)=l.map bb:=lV nj n m l
theorem ahq (n m:Nat) (l:List Pm):D.kP n m (l.map gR)=l.map gR:=lV Qm n m l
theorem YP (n m:Nat) (l:List Pc):D.kP n m (l.map cJ)=l.map cJ:=lV xw n m l
theorem adE (x:Ex) (r:List D):bJ x++r = .int .i64 x.op:: .int .i64 x.n:: .str x.name:: .slice .shared 4 (x.kids.map bJ)::r:=by rw[jD];rfl
theorem aaJ (d:D) (x:Ex):d::bJ x = [d, .int .i64 x.op, .int .i64 x.n, .str x.name, .slice .shared 4 (x.kids.map bJ)]:=by rw[jD]
attribute [go_sem] adE aaJ
theorem ahr:((0:Nat):Int)=0:=nd rfl
theorem ahs:((1:Nat):Int)=1:=nd rfl
theorem aht:((2:Nat):Int)=2:=nd rfl
attribute [go_sem] ahr ahs aht Nd List.length_append List.map_append encStr qi ar0 Hw YG Ti nn ahn aho ahp ahq YP
theorem mx (a b:Nat):(if(b:Int) > (a:Int)then(b:Int)else(a:Int))=((max a b:Nat):Int):=by split<;>omega
theorem er {x:Int} (h1 : -9223372036854775808≤x) (h2:x<9223372036854775808):IntKind.wrap .i64 x=x:=by
 rw[IntKind.wrap_i64];omega
@[go_sem] theorem aL {n:Nat} (h:n<4611686018427387904):IntKind.wrap .i64 ((n:Int)+1)=((n+1:Nat):Int):=by
 rw[er]<;>omega
def inc (n:Nat):Option Nat:=if n<4611686018427387904 then some (n+1)else none
theorem Wu {n k:Nat} (h:inc n=some k):IntKind.wrap .i64 ((n:Int)+1)=((n+1:Nat):Int)∧k=n+1:=by
 unfold inc at h
 split at h
 ·rename_i hn;cases h;exact⟨aL hn,rfl⟩
 ·cases h
def Wv (n:Int):Option Int:=if -4611686018427387904<n∧n<4611686018427387904 then some (n+1)else none
theorem Tj {n k:Int} (h:Wv n=some k):IntKind.wrap .i64 (n+1)=n+1∧k=n+1:=by
 unfold Wv at h
 split at h
 ·rename_i hn;cases h;exact⟨er (by omega) (by omega),rfl⟩
 ·cases h
@[go_sem] theorem aju {n:Nat} (h:n+1<4611686018427387904):IntKind.wrap .i64 ((n:Int)+1)=((n+1:Nat):Int):=by
 rw[er]<;>omega
@[go_sem] theorem ajv {n:Nat} (h:n<4611686018427387904):IntKind.wrap .i64 ((n:Int)+2)=((n+2:Nat):Int):=by
 rw[er]<;>omega
def Qo {α:Type} (l:List α) (i:Nat):Option α:=if i<4611686018427387904 then l[i]? else none
theorem Bu {α:Type} {l:List α} {i:Nat} {x:α} (h:Qo l i=some x):i<4611686018427387904∧l[i]? = some x:=by
 unfold Qo at h
 split at h
 ·exact⟨‹_›,h⟩
 ·cases h
def push {α:Type} (k:Nat) (l:List α) (x:α):Option (List α):=if(l.length+1)*k≤bA then some (l++ [x])else none
theorem pg {α:Type} {k:Nat} {l l':List α} {x:α} (h:push k l x=some l'):(l.length+1)*k≤bA∧l'=l++ [x]:=by
 unfold push at h
 split at h
 ·cases h;exact⟨‹_›,rfl⟩
 ·cases h
end Go.Abs
namespace Go.Abs
mutual
def Ex.size:Ex→Nat
 |⟨_,_,_,kids⟩=>1+Ex.bt kids
def Ex.bt:List Ex→Nat
 | []=>0
 |x::l=>1+x.size+Ex.bt l
end
mutual
def Ex.depth:Ex→Nat
 |⟨_,_,_,kids⟩=>Ex.gS kids+1
def Ex.gS:List Ex→Nat
 | []=>0
 |x::l=>max x.depth (Ex.gS l)
end
def Ku (x:Ex):Option Int:=if x.size<4611686018427387904 then some (x.depth:Int)else none
theorem Ex.dg {x:Ex} : ∀ {l:List Ex},x∈l→x.size<Ex.bt l
 |y::l,h=>by
  simp only[Ex.bt]
  rcases List.mem_cons.1 h with rfl|h
  ·omega
  ·have:=Ex.dg h;omega
theorem Ex.eo : ∀ (l:List Ex),l.length≤Ex.bt l
 | []=>Nat.le_refl _
 |x::l=>by simp only[Ex.bt,List.length_cons];have:=Ex.eo l;omega
theorem Ex.Qp : ∀ (n:Nat) (x:Ex),x.size≤n→x.depth≤x.size:=by
 intro n
 induction n with
 |zero=>intro x h;cases x;simp only[Ex.size]at h;omega
 | succ n ih=>
  rintro⟨op,m,name,kids⟩ h
  simp only[Ex.size,Ex.depth]at h ⊢
  have : ∀ l:List Ex,Ex.bt l≤n→Ex.gS l≤Ex.bt l:=by
   intro l
   induction l with
   |nil=>intro _;simp[Ex.gS]
   |cons x l Tk=>
    intro h
    simp only[Ex.bt,Ex.gS]at h ⊢
    have:=ih x (by omega)
    have:=Tk (by omega)
    omega
  have:=this kids (by omega)
  omega
def rE (t:ga):Int×Int:=
 if t.kind != 4 then(0,0)
 else if t.text == [124,124]then(17,1)
 else if t.text == [38,38]then(16,2)
 else if t.text == [61,61]then(14,3)
 else if t.text == [33,61]then(15,3)
 else if t.text == [60]then(10,4)
 else if t.text == [60,61]then(11,4)
 else if t.text == [62]then(12,4)
 else if t.text == [62,61]then(13,4)
 else if t.text == [43]then(8,5)
 else if t.text == [45]then(9,5)
 else if t.text == [42]then(5,6)
 else if t.text == [47]then(6,6)
 else if t.text == [37]then(7,6)
 else(0,0)
structure Rd where
 l:List ga
 i:Nat
 code:Int
 Kv:Int
 n:Nat
abbrev Rd.good (r:Rd):Bool:=r.code==0
def Rd.p9 (r:Rd):Option ga:=(Qo r.l r.i).bind fun t=>if decide (0≤t.kind) && decide (t.kind≤4)then some t else none
theorem Kw {r:Rd} {t:ga} (h:r.p9=some t):r.i<4611686018427387904∧r.l[r.i]? = some t∧0≤t.kind∧t.kind≤4:=by
 unfold Rd.p9 at h
 rw[Option.bind_eq_some_iff]at h
 obtain⟨u,h1,h⟩:=h
 obtain⟨g1,g2⟩:=Bu h1
 by_cases hk:(decide (0≤u.kind) && decide (u.kind≤4))=true
 ·rw [if_pos hk]at h
  cases h
  simp only[Bool.and_eq_true,decide_eq_true_eq]at hk
  exact⟨g1,g2,hk.1,hk.2⟩
 ·rw[if_neg hk]at h;cases h
def Rd.bad (c:Int) (r:Rd):Option Rd:=if r.good then r.p9.bind fun t=>some {r with code:=c,Kv:=t.pos}else some r
def Rd.is (text:aF) (r:Rd):Option Bool:=r.p9.bind fun t=>some ((t.kind==3 ||t.kind==4) && t.text==text)
def Rd.take (text:aF) (r:Rd):Option (Bool×Rd):=
 if !r.good then some (false,r)else(r.is text).bind fun b=>if !b then some (false,r)else some (true,{r with i:=r.i+1})
def Rd.want (text:aF) (r:Rd):Option Rd:=(r.take text).bind fun p=>if !p.1 then p.2.bad 3 else some p.2
def Rd.name (room:Bool) (r:Rd):Option (aF×Rd):=
 r.p9.bind fun t=>if !r.good ||t.kind != 1 then(r.bad 3).bind fun r=>some ([],r)else if !room then(r.bad 4).bind fun r=>some ([],r)else some (t.text,{r with i:=r.i+1})
def Rd.on (r:Rd):Rd:= {r with i:=r.i+1}
mutual
def Rd.one:Nat→Rd→Option (Ex×Rd)
 | 0,_=>none
 | n+1,r=>r.p9.bind fun t=>
  if !r.good then some (qi,r)
  else if t.kind==2 then some (⟨1,t.n,[],[]⟩,{r with i:=r.i+1})
  else if t.kind==1 then some (⟨2,0,t.text,[]⟩,{r with i:=r.i+1})
  else(r.take [40]).bind fun p=>
   if p.1 then(Rd.two n 1 p.2).bind fun x=>(x.2.want [41]).bind fun r=>some (x.1,r)
   else(p.2.take [45]).bind fun p=>
    if p.1 then(Rd.one n p.2).bind fun x=>some (⟨3,0,[],[x.1]⟩,x.2)
    else(p.2.take [33]).bind fun p=>
     if p.1 then(Rd.one n p.2).bind fun x=>some (⟨4,0,[],[x.1]⟩,x.2)
     else(p.2.bad 3).bind fun r=>some (qi,r)
def Rd.two:Nat→Int→Rd→Option (Ex×Rd)
 | 0,_,_=>none
 |n+1,least,r=>(Rd.one n r).bind fun x=>Rd.Kx n least x.1 x.2
def Rd.Kx:Nat→Int→Ex→Rd→Option (Ex×Rd)
 | 0,_,_,_=>none
 | n+1,least,x,r=>
  if r.good then r.p9.bind fun t=>
   if decide ((rE t).2<least) ||(rE t).1==0 then some (x,r)
   else(Rd.two n ((rE t).2+1) {r with i:=r.i+1}).bind fun y=>Rd.Kx n least ⟨(rE t).1,0,[],[x,y.1]⟩ y.2
  else some (x,r)
end
def Rd.whole (n:Nat) (r:Rd):Option (Ex×Rd):=
 r.p9.bind fun t=>(Rd.two n 1 r).bind fun x=>
  if x.2.good then(Ku x.1).bind fun d=>if decide (d > 20)then some (x.1,{x.2 with code:=4,Kv:=t.pos})else some (x.1,x.2)
  else some (x.1,x.2)
def Rd.names:Nat→List aF→Int→Rd→Option (List aF×Rd)
 | 0,_,_,_=>none
 | n+1,l,gI,r=>
  if r.good then(r.name (decide ((l.length:Int)<gI))).bind fun p=>(push 17 l p.1).bind fun l=>(p.2.take [44]).bind fun q=>
   if !q.1 then(q.2.want [59]).bind fun r=>some (l,r)else Rd.names n l gI q.2
  else some (l,r)
def Rd.ahead (sign:aF) (r:Rd):Option Bool:=
 if r.good then r.p9.bind fun t=>if t.kind==1 then(Qo r.l (r.i+1)).bind fun u=>some (u.kind==4 && u.text==sign)else some false
 else some false
def Rd.labels:Nat→List aF→Rd→Option (List aF×Rd)
 | 0,_,_=>none
 |n+1,l,r=>(r.ahead [58]).bind fun b=>if b then r.p9.bind fun t=>(push 17 l t.text).bind fun l=>Rd.labels n l {r with i:=r.i+2}else some (l,r)
def Rd.Ky (r:Rd):Option Bool:=
 r.p9.bind fun t=>some (if t.kind==1 then true else if t.kind != 3 then false
  else t.text == [105,102] ||t.text == [119,104,105,108,101] ||t.text == [98,114,101,97,107] ||t.text == [99,111,110,116,105,110,117,101] ||t.text == [114,101,116,117,114,110] ||t.text == [103,111,116,111] ||t.text == [114,101,97,100] ||t.text == [112,114,105,110,116])
def Rd.Cu (m:Nat):Nat→List Ar→Rd→Option (List Ar×Rd)
 | 0,_,_=>none
 | n+1,l,r=>
  if r.good then(r.take [114,101,102]).bind fun p=>
   if p.1 then(p.2.name true).bind fun x=>(push 81 l ⟨true,x.1,qi⟩).bind fun l=>(x.2.take [44]).bind fun c=>if !c.1 then some (l,c.2)else Rd.Cu m n l c.2
   else(Rd.whole m p.2).bind fun x=>(push 81 l ⟨false,[],x.1⟩).bind fun l=>(x.2.take [44]).bind fun c=>if !c.1 then some (l,c.2)else Rd.Cu m n l c.2
  else some (l,r)
def Rd.other (sign:aF) (r:Rd):Option Bool:=if r.good then(r.is sign).bind fun b=>some !b else some false
def Rd.call (m:Nat) (name proc:aF) (r:Rd):Option (Sm×Rd):=
 (r.want [40]).bind fun r=>(r.other [41]).bind fun b=>
  if b then(Rd.Cu m m [] r).bind fun q=>(q.2.want [41]).bind fun r=>(r.want [59]).bind fun r=>some (⟨0,4,[],name,proc,qi,false,q.1,[],[]⟩,r)
  else(r.want [41]).bind fun r=>(r.want [59]).bind fun r=>some (⟨0,4,[],name,proc,qi,false,[],[],[]⟩,r)
def Rd.named (m:Nat) (r:Rd):Option (Sm×Rd):=
 (r.name true).bind fun x=>(x.2.is [40]).bind fun b=>
  if b then Rd.call m [] x.1 x.2
  else(x.2.want [61]).bind fun r=>(r.ahead [40]).bind fun b=>
   if b then(r.name true).bind fun y=>Rd.call m x.1 y.1 y.2
   else(Rd.whole m r).bind fun y=>(y.2.want [59]).bind fun r=>some (⟨0,1,[],x.1,[],y.1,false,[],[],[]⟩,r)
def Rd.plain (m:Nat) (word:aF) (r:Rd):Option (Sm×Rd):=
 if word == [98,114,101,97,107]then some (⟨0,7,[],[],[],qi,false,[],[],[]⟩,r)
 else if word == [99,111,110,116,105,110,117,101]then some (⟨0,8,[],[],[],qi,false,[],[],[]⟩,r)
 else if word == [114,101,116,117,114,110]then(r.is [59]).bind fun b=>
  if !b then(Rd.whole m r).bind fun x=>some (⟨0,9,[],[],[],x.1,true,[],[],[]⟩,x.2)else some (⟨0,9,[],[],[],qi,false,[],[],[]⟩,r)
 else if word == [103,111,116,111]then(r.name true).bind fun x=>some (⟨0,10,[],x.1,[],qi,false,[],[],[]⟩,x.2)
 else if word == [114,101,97,100]then(r.name true).bind fun x=>some (⟨0,2,[],x.1,[],qi,false,[],[],[]⟩,x.2)
 else if word == [112,114,105,110,116]then(Rd.whole m r).bind fun x=>some (⟨0,3,[],[],[],x.1,false,[],[],[]⟩,x.2)
 else some (Hw,r)
def Rd.head (m:Nat) (r:Rd):Option (Ex×Rd):=(r.want [40]).bind fun r=>(Rd.whole m r).bind fun x=>(x.2.want [41]).bind fun r=>some (x.1,r)
mutual
def Rd.rows (m:Nat):Nat→Int→Bool→Rd→Option ((List Sm×List aF)×Rd)
 | 0,_,_,_=>none
 |n+1,nest,body,r=>Rd.wM m n nest body [] r
def Rd.wM (m:Nat):Nat→Int→Bool→List Sm→Rd→Option ((List Sm×List aF)×Rd)
 | 0,_,_,_,_=>none
 | n+1,nest,body,out,r=>
  if r.good then(Rd.labels m [] r).bind fun l=>(l.2.is [125]).bind fun b=>
   if b && (body ||(l.1.length:Int)==0)then some ((out,l.1),{l.2 with i:=l.2.i+1})
   else(Rd.stmt m n nest l.2).bind fun s=>(push 209 out {s.1 with labels:=l.1}).bind fun out=>Rd.wM m n nest body out s.2
  else some (([],[]),r)
def Rd.stmt (m:Nat):Nat→Int→Rd→Option (Sm×Rd)
 | 0,_,_=>none
 | n+1,nest,r=>r.Ky.bind fun b=>
  if !b then(r.bad 3).bind fun r=>some (Hw,r)
  else(inc r.n).bind fun k=>
   if decide ((k:Int) > 200) ||decide (nest > 12)then(({r with n:=k} : Rd).bad 4).bind fun r=>some (Hw,r)
   else({r with n:=k} : Rd).p9.bind fun t=>
    if t.kind==1 then Rd.named m {r with n:=k}
    else if t.text == [105,102]then Rd.choice m n nest {r with n:=k,i:=r.i+1}
    else if t.text == [119,104,105,108,101]then(Rd.head m {r with n:=k,i:=r.i+1}).bind fun x=>(Rd.block m n nest x.2).bind fun b=>some (⟨0,6,[],[],[],x.1,false,[],b.1,[]⟩,b.2)
    else(Rd.plain m t.text {r with n:=k,i:=r.i+1}).bind fun s=>(s.2.want [59]).bind fun r=>some (s.1,r)
def Rd.block (m:Nat):Nat→Int→Rd→Option (List Sm×Rd)
 | 0,_,_=>none
 |n+1,nest,r=>(r.want [123]).bind fun r=>(Wv nest).bind fun k=>(Rd.rows m n k false r).bind fun p=>some (p.1.1,p.2)
def Rd.choice (m:Nat):Nat→Int→Rd→Option (Sm×Rd)
 | 0,_,_=>none
 |n+1,nest,r=>(Rd.head m r).bind fun x=>(Rd.block m n nest x.2).bind fun t=>(t.2.take [101,108,115,101]).bind fun q=>
  if q.1 then(Rd.block m n nest q.2).bind fun e=>some (⟨0,5,[],[],[],x.1,false,[],t.1,e.1⟩,e.2)
  else some (⟨0,5,[],[],[],x.1,false,[],t.1,[]⟩,q.2)
end
def Rd.params:Nat→List Pm→Rd→Option (List Pm×Rd)
 | 0,_,_=>none
 | n+1,l,r=>
  if r.good then(r.take [114,101,102]).bind fun q=>(q.2.name (decide ((l.length:Int)<8))).bind fun x=>(push 25 l ⟨x.1,q.1⟩).bind fun l=>(x.2.take [44]).bind fun c=>
   if !c.1 then some (l,c.2)else Rd.params n l c.2
  else some (l,r)
def Rd.vars (m:Nat):Nat→List aF→Rd→Option (List aF×Rd)
 | 0,_,_=>none
 |n+1,l,r=>(r.take [118,97,114]).bind fun q=>if q.1 then(Rd.names m l 16 q.2).bind fun x=>Rd.vars m n x.1 x.2 else some (l,q.2)
def Rd.IU (m:Nat) (name:aF) (ps:List Pm) (r:Rd):Option (Pc×Rd):=
 (Rd.vars m m [] r).bind fun v=>(Rd.rows m m 1 true v.2).bind fun b=>some (⟨name,ps,v.1,b.1.1,b.1.2⟩,b.2)
def Rd.proc (m:Nat) (r:Rd):Option (Pc×Rd):=
 (r.name true).bind fun x=>(x.2.want [40]).bind fun r=>(r.other [41]).bind fun b=>
  if b then(Rd.params m [] r).bind fun q=>(q.2.want [41]).bind fun r=>(r.want [123]).bind fun r=>Rd.IU m x.1 q.1 r
  else(r.want [41]).bind fun r=>(r.want [123]).bind fun r=>Rd.IU m x.1 [] r
def Rd.globals (m:Nat):Nat→List aF→Rd→Option (List aF×Rd)
 | 0,_,_=>none
 |n+1,l,r=>(r.take [103,108,111,98,97,108]).bind fun q=>if q.1 then(Rd.names m l 16 q.2).bind fun x=>Rd.globals m n x.1 x.2 else some (l,q.2)
def Rd.Tl (r:Rd):Option Bool:=if r.good then r.is [112,114,111,99]else some false
def Rd.Kz (r:Rd):Option Bool:=if r.good then r.p9.bind fun t=>some (t.kind != 0)else some false
def Rd.procs (m:Nat):Nat→List Pc→Rd→Option (List Pc×Rd)
 | 0,_,_=>none
 | n+1,l,r=>r.Tl.bind fun b=>
  if b then
   if(l.length:Int)==16 then(r.bad 4).bind fun r=>some (l,r)
   else(Rd.proc m {r with i:=r.i+1}).bind fun x=>(push 113 l x.1).bind fun l=>Rd.procs m n l x.2
  else r.Kz.bind fun b=>if b then(r.bad 3).bind fun r=>some (l,r)else some (l,r)
def Rd.program (m:Nat) (r:Rd):Option (Pg×Rd):=(Rd.globals m m [] r).bind fun g=>(Rd.procs m m [] g.2).bind fun q=>some (⟨g.1,q.1⟩,q.2)
mutual
def Ex.beq:Ex→Ex→Bool
 |⟨op,n,name,kids⟩,⟨op',n',Qq,YQ⟩=>if op != op' ||n != n' || !(name==Qq) ||(kids.length:Int) != (YQ.length:Int)then false else Ex.qa kids YQ
def Ex.qa:List Ex→List Ex→Bool
 | [],_=>true
 |_::_,[]=>true
 |x::l,y::l'=>if !Ex.beq x y then false else Ex.qa l l'
end
def Ar.bt:List Ar→Nat
 | []=>0
 |a::l=>1+a.x.size+Ar.bt l
mutual
def Sm.size:Sm→Nat
 |⟨_,_,labels,_,_,x,_,args,bm,bd⟩=>1+labels.length+x.size+Ar.bt args+Sm.bt bm+Sm.bt bd
def Sm.bt:List Sm→Nat
 | []=>0
 |s::l=>1+s.size+Sm.bt l
end
def Pc.size (f:Pc):Nat:=1+f.params.length+f.vars.length+f.fin.length+Sm.bt f.body
def Pc.bt:List Pc→Nat
 | []=>0
 |f::l=>1+f.size+Pc.bt l
def Pg.size (p:Pg):Nat:=1+p.globals.length+Pc.bt p.procs
mutual
def Sm.num (b:Bool) (n:Nat):Sm→Sm×Nat
 |⟨id,kind,labels,name,proc,x,has,args,bm,bd⟩=>
  (⟨if b then((n+1:Nat):Int)else id,kind,labels,name,proc,x,has,args,(Sm.iu b (n+1) bm).1,(Sm.iu b (Sm.iu b (n+1) bm).2 bd).1⟩,(Sm.iu b (Sm.iu b (n+1) bm).2 bd).2)
def Sm.iu (b:Bool) (n:Nat):List Sm→List Sm×Nat
 | []=>([],n)
 |s::l=>((Sm.num b n s).1::(Sm.iu b (Sm.num b n s).2 l).1,(Sm.iu b (Sm.num b n s).2 l).2)
end
def Pc.iu (n:Nat):List Pc→List Pc
 | []=> []
 |f::l=> {f with body:=(Sm.iu true n f.body).1}::Pc.iu (Sm.iu true n f.body).2 l
def Pg.number (p:Pg):Pg:= {p with procs:=Pc.iu 0 p.procs}
def Pg.Gn (p:Pg):Option Pg:=if p.size<1073741824 then some p.number else none
mutual
theorem Sm.adF (b:Bool) (n:Nat) : ∀ s:Sm,(Sm.num b n s).2≤n+s.size
 |⟨id,kind,labels,name,proc,x,has,args,bm,bd⟩=>by
  simp only[Sm.num,Sm.size]
  have h1:=Sm.vg b (n+1) bm
  have h2:=Sm.vg b (Sm.iu b (n+1) bm).2 bd
  omega
theorem Sm.vg (b:Bool) (n:Nat) : ∀ l:List Sm,(Sm.iu b n l).2≤n+Sm.bt l
 | []=>by simp[Sm.iu,Sm.bt]
 |s::l=>by
  simp only[Sm.iu,Sm.bt]
  have h1:=Sm.adF b n s
  have h2:=Sm.vg b (Sm.num b n s).2 l
  omega
end
theorem Sm.eo : ∀ (l:List Sm),l.length≤Sm.bt l
 | []=>Nat.le_refl _
 |x::l=>by simp only[Sm.bt,List.length_cons];have:=Sm.eo l;omega
theorem Ar.eo : ∀ (l:List Ar),l.length≤Ar.bt l
 | []=>Nat.le_refl _
 |x::l=>by simp only[Ar.bt,List.length_cons];have:=Ar.eo l;omega
theorem Pc.eo : ∀ (l:List Pc),l.length≤Pc.bt l
 | []=>Nat.le_refl _
 |x::l=>by simp only[Pc.bt,List.length_cons];have:=Pc.eo l;omega
theorem Ar.dg {x:Ar} : ∀ {l:List Ar},x∈l→x.x.size<Ar.bt l
 |y::l,h=>by
  simp only[Ar.bt]
  rcases List.mem_cons.1 h with rfl|h
  ·omega
  ·have:=Ar.dg h;omega
theorem Sm.dg {x:Sm} : ∀ {l:List Sm},x∈l→x.size<Sm.bt l
 |y::l,h=>by
  simp only[Sm.bt]
  rcases List.mem_cons.1 h with rfl|h
  ·omega
  ·have:=Sm.dg h;omega
theorem Pc.dg {x:Pc} : ∀ {l:List Pc},x∈l→x.size<Pc.bt l
 |y::l,h=>by
  simp only[Pc.bt]
  rcases List.mem_cons.1 h with rfl|h
  ·omega
  ·have:=Pc.dg h;omega
mutual
def Sm.jE:Sm→Nat
 |⟨_,_,_,_,_,_,_,_,bm,bd⟩=>1+Sm.jf bm+Sm.jf bd
def Sm.jf:List Sm→Nat
 | []=>0
 |s::l=>s.jE+Sm.jf l
end
structure Im where
 s:Sm
 proc:Int
 up:Int
 next:Int
 loop:Int
mutual
def Im.one (proc up next loop:Int) (out:List Im):Sm→List Im
 | ⟨id,kind,labels,name,pc,x,has,args,bm,bd⟩=>
  Im.rows proc ((out.length:Int)+1) (if kind==6 then(out.length:Int)+1 else next) (if kind==6 then(out.length:Int)+1 else loop)
   (Im.rows proc ((out.length:Int)+1) (if kind==6 then(out.length:Int)+1 else next) (if kind==6 then(out.length:Int)+1 else loop) (out++ [⟨⟨id,kind,labels,name,pc,x,has,args,bm,bd⟩,proc,up,next,loop⟩]) bm) bd
def Im.rows (proc up next loop:Int) (out:List Im):List Sm→List Im
 | []=>out
 |s::l=>Im.rows proc up next loop (Im.one proc up (if l.length=0 then next else(out.length:Int)+1+(s.jE:Int)) loop out s) l
end
theorem Im.adG (proc up next loop:Int) (out:List Im) (s:Sm):Im.one proc up next loop out s =
 Im.rows proc ((out.length:Int)+1) (if s.kind==6 then(out.length:Int)+1 else next) (if s.kind==6 then(out.length:Int)+1 else loop)
  (Im.rows proc ((out.length:Int)+1) (if s.kind==6 then(out.length:Int)+1 else next) (if s.kind==6 then(out.length:Int)+1 else loop) (out++ [⟨s,proc,up,next,loop⟩]) s.bm) s.bd:=by
 cases s;simp only[Im.one]
mutual
theorem aaK (proc up next loop:Int) (out:List Im) : ∀ s:Sm,(Im.one proc up next loop out s).length=out.length+s.jE
 |⟨id,kind,labels,name,pc,x,has,args,bm,bd⟩=>by
  simp only[Im.one,Sm.jE]
  rw[gJ,gJ]
  simp only[List.length_append,List.length_cons,List.length_nil];omega
theorem gJ (proc up next loop:Int) (out:List Im) : ∀ l:List Sm,(Im.rows proc up next loop out l).length=out.length+Sm.jf l
 | []=>rfl
 |s::l=>by
  simp only[Im.rows,Sm.jf]
  rw[gJ,aaK];omega
end
mutual
theorem DU : ∀ s:Sm,s.jE≤s.size
 |⟨_,_,labels,_,_,x,_,args,bm,bd⟩=>by
  have:=nN bm;have:=nN bd
  simp only[Sm.jE,Sm.size];omega
theorem nN : ∀ l:List Sm,Sm.jf l≤Sm.bt l
 | []=>Nat.le_refl _
 |s::l=>by
  have:=DU s;have:=nN l
  simp only[Sm.jf,Sm.bt];omega
end
structure Sh where
 L:List Im
 lo:List Int
 hi:List Int
def Sh.go (i:Nat) (h:Sh):List Pc→Sh
 | []=>h
 |f::l=>Sh.go (i+1) ⟨Im.rows i 0 (-1) 0 h.L f.body,h.lo++ [(h.L.length:Int)+1],h.hi++ [((Im.rows i 0 (-1) 0 h.L f.body).length:Int)+1]⟩ l
def Pg.bh (p:Pg):Sh:=Sh.go 0 ⟨[],[],[]⟩ p.procs
def aaL:Nat:=3
def YR:Nat:=4
def YS:Nat:=5
def Tn:Nat:=6
def wN:Nat:=7
def xx:Nat:=8
def agw:Nat:=9
def acg:Nat:=10
def agx:Nat:=11
def ach:Nat:=12
def agy:Nat:=13
def ahu:Nat:=14
def ajw:Nat:=15
def iD:Nat:=16
def oq:Nat:=17
def xy:Nat:=18
def agz:Nat:=19
def adH:Nat:=20
def vA:Nat:=21
def wO:Nat:=22
def kp:Nat:=23
def lH:Nat:=24
def ahv:Nat:=25
def xA:Nat:=26
def xB:Nat:=27
def UX:Nat:=28
def Ww:Nat:=29
def UY:Nat:=30
def ahw:Nat:=31
def adI:Nat:=32
def Nh:Nat:=33
def Qr:Nat:=34
def ahx:Nat:=35
def aaM:Nat:=36
def Gp:Nat:=37
def ub:Nat:=38
def rG:Nat:=39
def sX:Nat:=40
def aci:Nat:=41
def rH:Nat:=42
def qA:Nat:=43
def fi:Nat:=44
def sY:Nat:=45
def np:Nat:=46
def lk:Nat:=47
def k7:Nat:=48
def jq:Nat:=49
def iI:Nat:=50
def ph:Nat:=51
def oH:Nat:=52
def qN:Nat:=53
def oI:Nat:=54
def uc:Nat:=55
def rI:Nat:=56
def ll:Nat:=57
def uW:Nat:=58
def Wx:Nat:=59
def adJ:Nat:=60
def ahy:Nat:=61
def ahz:Nat:=62
def adK:Nat:=63
def agA:Nat:=64
def acj:Nat:=65
def RH:Nat:=66
def Ni:Nat:=67
def adL:Nat:=68
def ack:Nat:=69
def Qs:Nat:=70
def Qt:Nat:=71
def Nj:Nat:=72
def To:Nat:=73
def KA:Nat:=74
def lW:Nat:=75
def qB:Nat:=76
def vB:Nat:=77
def ud:Nat:=78
def YT:Nat:=79
def nq:Nat:=80
def nY:Nat:=81
def kI:Nat:=82
def lI:Nat:=83
def kT:Nat:=84
def qj:Nat:=85
def gb:Nat:=86
def zt:Nat:=87
def rJ:Nat:=88
def zu:Nat:=89
def kq:Nat:=90
def pj:Nat:=91
def gu:Nat:=92
def lM:Nat:=93
def iQ:Nat:=94
def ki:Nat:=95
def eI:Nat:=96
def oR:Nat:=97
def qk:Nat:=98
def kX:Nat:=99
def Bv:Nat:=100
def mD:Nat:=101
def aaN:Nat:=102
def adM:Nat:=103
def adN:Nat:=104
def adO:Nat:=105
def YU:Nat:=106
def MF:Nat:=107
def RI:Nat:=108
def aaO:Nat:=109
def vC:Nat:=110
def adP:Nat:=111
def ahA:Nat:=112
def ahB:Nat:=113
def Qu:Nat:=114
def acm:Nat:=115
def ou:Nat:=116
def gd:Nat:=117
def oT:Nat:=118
def cD:Nat:=119
def gT:Nat:=120
def qC:Nat:=121
def vD:Nat:=122
def rK:Nat:=123
def ql:Nat:=124
def vE:Nat:=125
def rL:Nat:=126
def sy:Nat:=127
def pk:Nat:=128
def wP:Nat:=129
def uX:Nat:=130
def uf:Nat:=131
def mE:Nat:=132
def xC:Nat:=133
def jF:Nat:=134
def ug:Nat:=135
def sA:Nat:=136
def mF:Nat:=137
def nr:Nat:=138
def qm:Nat:=139
def zv:Nat:=140
def vF:Nat:=141
def dQ:Nat:=142
def jG:Nat:=143
def db:Nat:=144
def fC:Nat:=145
def fc:Nat:=146
def oJ:Nat:=147
def dR:Nat:=148
def YV:Nat:=149
def ahC:Nat:=150
def adQ:Nat:=151
def adR:Nat:=152
def adS:Nat:=153
def acn:Nat:=154
def agB:Nat:=155
def agC:Nat:=156
def ajx:Nat:=157
def YW:Nat:=158
def aco:Nat:=159
def acp:Nat:=160
def adT:Nat:=161
def agD:Nat:=162
def acq:Nat:=163
def adU:Nat:=164
def ahD:Nat:=165
def ahE:Nat:=166
def YX:Nat:=167
def aaP:Nat:=168
def adV:Nat:=169
def k8:Nat:=170
def rM:Nat:=171
def vG:Nat:=172
def vH:Nat:=173
def uh:Nat:=174
def xD:Nat:=175
def jH:Nat:=176
def ke:Nat:=177
def po:Nat:=178
def rN:Nat:=179
def ui:Nat:=180
def pw:Nat:=181
def eT:Nat:=182
def dA:Nat:=183
def gK:Nat:=184
def vI:Nat:=185
def ln:Nat:=186
def EL:Nat:=187
def adW:Nat:=188
def aaQ:Nat:=189
def ahF:Nat:=190
def agE:Nat:=191
def ahG:Nat:=192
def agF:Nat:=193
def agG:Nat:=194
def rO:Nat:=195
def gU:Nat:=196
def oU:Nat:=197
def uj:Nat:=198
def EM:Nat:=199
def YY:Nat:=200
def xE:Nat:=201
def nu:Nat:=202
def oK:Nat:=203
def rP:Nat:=204
def vJ:Nat:=205
def xF:Nat:=206
def pJ:Nat:=207
def sZ:Nat:=208
def zw:Nat:=209
def MG:Nat:=210
def acr:Nat:=211
def acs:Nat:=212
def iW:Nat:=213
def Bw:Nat:=214
def Ek:Nat:=215
def Bx:Nat:=216
def C2:Nat:=217
def Cv:Nat:=218
def xV:Nat:=219
def UZ:Nat:=220
def AT:Nat:=221
def DV:Nat:=222
def U0:Nat:=223
def U1:Nat:=224
def nw:Nat:=225
def nZ:Nat:=226
def ny:Nat:=227
def lN:Nat:=228
def jI:Nat:=229
def n6:Nat:=230
def vK:Nat:=231
def qn:Nat:=232
def qo:Nat:=233
def acu:Nat:=234
def adX:Nat:=235
def El:Nat:=236
def L7:Nat:=237
def MH:Nat:=238
def AU:Nat:=239
def F4:Nat:=240
def Tp:Nat:=241
def lO:Nat:=242
def gy:Nat:=243
def F5:Nat:=244
def jr:Nat:=245
def lX:Nat:=246
def kJ:Nat:=247
def uY:Nat:=248
def Hz:Nat:=249
def C3:Nat:=250
def HA:Nat:=251
def C4:Nat:=252
def Io:Nat:=253
def Dt:Nat:=254
def C5:Nat:=255
def y6:Nat:=256
def C6:Nat:=257
def y7:Nat:=258
def F6:Nat:=259
def By:Nat:=260
def IV:Nat:=261
def vh:Nat:=262
def sB:Nat:=263
def U2:Nat:=264
def Ip:Nat:=265
abbrev AI.o (t:Nat) (a:AO):AI:= .op (some t) none a
abbrev AI.g (t c:Nat) (b:Bool) (a:AO):AI:= .op (some t) (some (c,b)) a
abbrev AI.c (t f:Nat) (l:List X):AI:= .call (some t) none f l
abbrev AI.d (t c:Nat) (b:Bool) (f:Nat) (l:List X):AI:= .call (some t) (some (c,b)) f l
abbrev AI.m (t:Nat) (x:X):AI:= .op (some t) none (.mv x)
abbrev aJ:X:= .s 0
abbrev a8:X:= .s 1
abbrev cY:X:= .s 2
abbrev bM:X:= .s 3
abbrev dE:X:= .s 4
abbrev bl:X:= .s 5
abbrev bY:X:= .s 6
abbrev bX:X:= .s 7
abbrev bW:X:= .s 8
abbrev cy:X:= .s 9
abbrev bD:X:= .s 10
abbrev bV:X:= .s 11
abbrev cb:X:= .s 12
abbrev bT:X:= .s 13
abbrev bN:X:= .s 14
abbrev cz:X:= .s 15
abbrev ct:X:= .s 16
abbrev cZ:X:= .s 17
abbrev cU:X:= .s 18
abbrev dh:X:= .s 19
abbrev dw:X:= .s 20
abbrev dD:X:= .s 21
abbrev dM:X:= .s 22
abbrev dH:X:= .s 23
abbrev di:X:= .s 24
abbrev dm:X:= .s 25
abbrev dZ:X:= .s 26
abbrev eg:X:= .s 27
abbrev eR:X:= .s 28
abbrev eN:X:= .s 29
abbrev eX:X:= .s 30
abbrev eY:X:= .s 31
abbrev fe:X:= .s 32
abbrev eZ:X:= .s 33
abbrev fm:X:= .s 34
abbrev ff:X:= .s 35
abbrev fp:X:= .s 36
abbrev fI:X:= .s 37
abbrev fV:X:= .s 38
abbrev fO:X:= .s 39
abbrev gk:X:= .s 40
abbrev gf:X:= .s 41
abbrev gX:X:= .s 42
abbrev gL:X:= .s 43
abbrev iJ:X:= .s 44
abbrev jg:X:= .s 45
abbrev jh:X:= .s 46
abbrev jJ:X:= .s 47
abbrev iE:X:= .s 48
abbrev iK:X:= .s 49
abbrev jK:X:= .s 50
abbrev ji:X:= .s 51
abbrev jj:X:= .s 52
abbrev iT:X:= .s 53
abbrev jL:X:= .s 54
abbrev jM:X:= .s 55
abbrev k9:X:= .s 56
abbrev lS:X:= .s 57
abbrev lJ:X:= .s 58
abbrev kK:X:= .s 59
abbrev nz:X:= .s 60
abbrev n7:X:= .s 61
abbrev n8:X:= .s 62
abbrev n9:X:= .s 63
abbrev px:X:= .s 64
abbrev qO:X:= .s 65
abbrev rQ:X:= .s 66
abbrev rR:X:= .s 67
abbrev qP:X:= .s 68
abbrev sC:X:= .s 69
abbrev rS:X:= .s 70
abbrev vL:X:= .s 71
abbrev uk:X:= .s 72
abbrev um:X:= .s 73
abbrev vM:X:= .s 74
abbrev vN:X:= .s 75
abbrev uq:X:= .s 76
abbrev vO:X:= .s 77
abbrev ur:X:= .s 78
abbrev zz:X:= .s 79
abbrev zA:X:= .s 80
abbrev zB:X:= .s 81
abbrev Bz:X:= .s 82
abbrev BA:X:= .s 83
abbrev BB:X:= .s 84
abbrev BD:X:= .s 85
abbrev BE:X:= .s 86
abbrev BF:X:= .s 87
abbrev BG:X:= .s 88
abbrev xG:X:= .s 89
abbrev zC:X:= .s 90
abbrev BH:X:= .s 91
abbrev DW:X:= .s 92
abbrev Gq:X:= .s 93
abbrev Gr:X:= .s 94
abbrev Gs:X:= .s 95
abbrev KB:X:= .s 96
abbrev KD:X:= .s 97
abbrev KE:X:= .s 98
abbrev KF:X:= .s 99
abbrev EN:X:= .s 100
abbrev EO:X:= .s 101
abbrev EP:X:= .s 102
abbrev ER:X:= .s 103
abbrev ES:X:= .s 104
abbrev ET:X:= .s 105
abbrev EU:X:= .s 106
abbrev EV:X:= .s 107
abbrev EW:X:= .s 108
abbrev IW:X:= .s 109
abbrev EX:X:= .s 110
abbrev EY:X:= .s 111
abbrev Cw:X:= .s 112
abbrev EZ:X:= .s 113
abbrev E0:X:= .s 114
abbrev E1:X:= .s 115
abbrev E2:X:= .s 116
abbrev IX:X:= .s 117
abbrev IY:X:= .s 118
abbrev IZ:X:= .s 119
abbrev I0:X:= .s 120
abbrev I1:X:= .s 121
abbrev I2:X:= .s 122
abbrev I3:X:= .s 123
abbrev I4:X:= .s 124
abbrev I5:X:= .s 125
abbrev Qv:X:= .s 126
abbrev I6:X:= .s 127
abbrev zD:X:= .s 128
abbrev I7:X:= .s 129
abbrev I8:X:= .s 130
abbrev Qw:X:= .s 131
abbrev I9:X:= .s 132
abbrev Qx:X:= .s 133
abbrev Qy:X:= .s 134
abbrev Qz:X:= .s 135
abbrev QA:X:= .s 136
abbrev QB:X:= .s 137
abbrev QC:X:= .s 138
abbrev QD:X:= .s 139
abbrev QE:X:= .s 140
abbrev QF:X:= .s 141
abbrev QG:X:= .s 142
abbrev Ja:X:= .s 143
abbrev QH:X:= .s 144
abbrev E3:X:= .s 145
abbrev QI:X:= .s 146
abbrev QJ:X:= .s 147
abbrev QK:X:= .s 148
abbrev QL:X:= .s 149
abbrev QM:X:= .s 150
abbrev QN:X:= .s 151
abbrev YZ:X:= .s 152
abbrev Y0:X:= .s 153
abbrev Y1:X:= .s 154
abbrev Y2:X:= .s 155
abbrev Y3:X:= .s 156
abbrev Y4:X:= .s 157
abbrev Y5:X:= .s 158
abbrev Y6:X:= .s 159
abbrev Y7:X:= .s 160
abbrev Y8:X:= .s 161
abbrev Y9:X:= .s 162
abbrev Za:X:= .s 163
abbrev Zb:X:= .s 164
abbrev Zc:X:= .s 165
abbrev Zd:X:= .s 166
abbrev Ze:X:= .s 167
abbrev Zf:X:= .s 168
abbrev Zg:X:= .s 169
abbrev Zh:X:= .s 170
abbrev Zi:X:= .s 171
abbrev Zj:X:= .s 172
abbrev Zk:X:= .s 173
abbrev Zl:X:= .s 174
abbrev Zm:X:= .s 175
abbrev ahH:X:= .s 176
abbrev ahI:X:= .s 177
abbrev Q04:AC:= .cond cU (.seq (.run [.o 0 (.mv (.k (.bool false)))]) .ret) .skip
abbrev Q06:AC:= .run [(.c 20 lH [(.k (.str [112,114,111,99,32,109,97,105,110,40,41,32,123,32,118,97,114,32,105,59,32,119,104,105,108,101,32,40,105,32,60,32,53,41,32,123,32,105,32,61,32,105,32,43,32,49,59,32,105,102,32,40,105,32,61,61,32,50,41,32,123,32,99,111,110,116,105,110,117,101,59,32,125,32,105,102,32,40,105,32,61,61,32,52,41,32,123,32,98,114,101,97,107,59,32,125,32,112,114,105,110,116,32,105,59,32,125,32,112,114,105,110,116,32,49,48,48,32,47,32,40,105,32,45,32,52,41,59,32,125]))]), .m 19 dw, .o 21 (.ext dh 0), .o 22 (.ext dh 1), .o 1 (.alloc [(.slice .full 0 []),(.slice .full 0 [])]), .o 2 (.alloc [(.int .i64 0),(.int .i64 0)]), .op none none (.store a8 dD 2), .op none none (.store cY dM 2)]
abbrev Q08:AC:= .run [(.c 30 lH [(.k (.str [112,114,111,99,32,109,97,105,110,40,41,32,123,32,118,97,114,32,110,44,32,114,59,32,114,101,97,100,32,110,59,32,114,32,61,32,102,97,99,116,40,110,41,59,32,112,114,105,110,116,32,114,59,32,125,32,112,114,111,99,32,102,97,99,116,40,110,41,32,123,32,118,97,114,32,114,59,32,105,102,32,40,110,32,60,32,50,41,32,123,32,114,101,116,117,114,110,32,49,59,32,125,32,114,32,61,32,102,97,99,116,40,110,32,45,32,49,41,59,32,114,101,116,117,114,110,32,110,32,42,32,114,59,32,125]))]), .m 29 eX, .o 31 (.ext eN 0), .o 32 (.ext eN 1), .o 5 (.alloc [(.slice .full 0 []),(.slice .full 0 [])]), .o 6 (.alloc [(.int .i64 0),(.int .i64 0)]), .op none none (.store bl eY 2), .op none none (.store bY fe 2)]
abbrev Q0E:AC:= .run [.o 59 (.aj cY 0), .o 60 (.load kK false 1), .o 61 (.bin .eql nz (.k (.int .i64 0))), .m 62 n7, .g 63 62 true (.aj bY 0), .g 64 62 true (.load n9 false 1), .g 65 62 true (.bin .eql px (.k (.int .i64 0))), .o 66 (.pick n8 qO (.k (.bool false))), .m 67 rQ, .g 68 67 true (.aj bD 0), .g 69 67 true (.load qP false 1), .g 70 67 true (.bin .eql sC (.k (.int .i64 0))), .o 71 (.pick rR rS (.k (.bool false))), .m 72 vL, .g 73 72 true (.aj bN 0), .g 74 72 true (.load um false 1), .g 75 72 true (.bin .eql vM (.k (.int .i64 0))), .o 76 (.pick uk vN (.k (.bool false))), .m 77 uq, .g 78 77 true (.aj bM 0), .g 79 77 true (.load ur false 1), .g 80 77 true (.bin .eql zz (.k (.int .i64 4))), .o 81 (.pick vO zA (.k (.bool false))), .m 82 zB, .g 83 82 true (.aj bM 3), .g 84 82 true (.load BA false 1),(.g 85 82 true (.cf [(.int .i64 0)] 1 2 [(0,(.k (.int .i64 1))),(1,(.k (.int .i64 3)))])), .d 86 82 true iD [BB,BD], .o 87 (.pick Bz BE (.k (.bool false))), .m 88 BF, .g 89 88 true (.aj bM 4), .g 90 88 true (.load xG false 1), .g 91 88 true (.len zC), .g 92 88 true (.bin .eql BH (.k (.int .i64 4))), .o 93 (.pick BG DW (.k (.bool false))), .m 94 Gq, .g 95 94 true (.aj bX 3), .g 96 94 true (.load Gs false 1),(.g 97 94 true (.cf [(.int .i64 0)] 1 1 [(0,(.k (.int .i64 (-4249290049419214848))))])), .d 98 94 true iD [KB,KD], .o 99 (.pick Gr KE (.k (.bool false))), .m 100 KF, .g 101 100 true (.aj bX 0), .g 102 100 true (.load EO false 1), .g 103 100 true (.bin .eql EP (.k (.int .i64 1))), .o 104 (.pick EN ER (.k (.bool false))), .m 105 ES, .g 106 105 true (.load bV true 5),(.g 107 105 true (.cf [(.int .i64 0)] 1 1 [(0,(.k (.int .i64 2)))])),(.g 108 105 true (.build [(.int .i64 0),(.int .i64 0),(.int .i64 0),(.slice .full 0 []),(.slice .full 0 [])] [(0,(1,(.k (.int .i64 1)))),(1,(1,(.k (.int .i64 3)))),(3,(1,EV))])), .d 109 105 true oq [EU,EW], .o 110 (.pick ET IW (.k (.bool false))), .m 111 EX, .g 112 111 true (.load cz true 5),(.g 113 111 true (.cf [(.int .i64 0)] 1 1 [(0,(.k (.int .i64 (-9))))])),(.g 114 111 true (.build [(.int .i64 0),(.int .i64 0),(.int .i64 0),(.slice .full 0 []),(.slice .full 0 [])] [(0,(1,(.k (.int .i64 3)))),(1,(1,(.k (.int .i64 3)))),(2,(1,(.k (.int .i64 1)))),(3,(1,EZ))])), .d 115 111 true oq [Cw,E0], .o 116 (.pick EY E1 (.k (.bool false))), .m 0 E2]
abbrev Q0G:AC:= .seq (.run [.o 54 (.load bT true 2),(.o 55 (.cf [(.int .i64 0)] 1 1 [(0,(.k (.int .i64 (-9))))])),(.c 56 kp [jL,jM,(.k (.int .i64 10)),(.k (.slice .full 0 []))]), .m 53 k9, .o 57 (.ext iT 0), .o 58 (.ext iT 1), .o 15 (.alloc [(.int .i64 0),(.int .i64 0),(.int .i64 0),(.slice .full 0 []),(.slice .full 0 [])]), .op none none (.store cz lS 5), .m 16 lJ]) (.seq Q0E .ret)
abbrev Q0I:AC:= .seq (.run [.o 44 (.load cy true 2),(.o 45 (.cf [(.int .i64 0)] 1 1 [(0,(.k (.int .i64 2)))])),(.c 46 kp [iJ,(.k (.slice .full 0 [])),(.k (.int .i64 10)),jg]), .m 43 jh, .o 47 (.ext gL 0), .o 48 (.ext gL 1), .o 11 (.alloc [(.int .i64 0),(.int .i64 0),(.int .i64 0),(.slice .full 0 []),(.slice .full 0 [])]), .op none none (.store bV jJ 5), .m 12 iE]) (.seq (.run [(.c 50 lH [(.k (.str [112,114,111,99,32,109,97,105,110,40,41,32,123,32,118,97,114,32,120,59,32,114,101,97,100,32,120,59,32,112,114,105,110,116,32,120,59,32,114,101,97,100,32,120,59,32,112,114,105,110,116,32,120,59,32,125]))]), .m 49 jK, .o 51 (.ext iK 0), .o 52 (.ext iK 1), .o 13 (.alloc [(.slice .full 0 []),(.slice .full 0 [])]), .o 14 (.alloc [(.int .i64 0),(.int .i64 0)]), .op none none (.store bT ji 2), .op none none (.store bN jj 2)]) Q0G)
abbrev Q0K:AC:= .seq (.run [.o 34 (.load bl true 2),(.o 35 (.cf [(.int .i64 0)] 1 1 [(0,(.k (.int .i64 21)))])),(.c 36 kp [fm,ff,(.k (.int .i64 1000)),(.k (.slice .full 0 []))]), .m 33 fp, .o 37 (.ext eZ 0), .o 38 (.ext eZ 1), .o 7 (.alloc [(.int .i64 0),(.int .i64 0),(.int .i64 0),(.slice .full 0 []),(.slice .full 0 [])]), .op none none (.store bX fI 5), .m 8 fV]) (.seq (.run [(.c 40 lH [(.k (.str [112,114,111,99,32,109,97,105,110,40,41,32,123,32,103,111,116,111,32,105,110,59,32,119,104,105,108,101,32,40,49,41,32,123,32,112,114,105,110,116,32,49,59,32,105,110,58,32,112,114,105,110,116,32,50,59,32,114,101,116,117,114,110,59,32,125,32,125]))]), .m 39 gk, .o 41 (.ext fO 0), .o 42 (.ext fO 1), .o 9 (.alloc [(.slice .full 0 []),(.slice .full 0 [])]), .o 10 (.alloc [(.int .i64 0),(.int .i64 0)]), .op none none (.store cy gf 2), .op none none (.store bD gX 2)]) Q0I)
abbrev Q0M:AC:= .seq (.run [.o 24 (.load a8 true 2),(.o 25 (.cf [(.int .i64 0)] 1 1 [(0,(.k (.int .i64 1)))])),(.c 26 kp [di,(.k (.slice .full 0 [])),(.k (.int .i64 100)),dm]), .m 23 dZ, .o 27 (.ext dH 0), .o 28 (.ext dH 1), .o 3 (.alloc [(.int .i64 0),(.int .i64 0),(.int .i64 0),(.slice .full 0 []),(.slice .full 0 [])]), .op none none (.store bM eg 5), .m 4 eR]) (.seq Q08 Q0K)
abbrev Q0P:AC:= .seq (.run [.o 0 (.mv (.k (.bool false)))]) (.seq (.seq (.run [.c 17 xx [], .o 18 (.un .not cZ)]) Q04) (.seq Q06 Q0M))
abbrev Q0S:AC:= .run [.m 9 cY, .o 10 (.bin .eql cy (.k (.int .i64 0))), .m 11 bD, .g 12 11 true (.aj a8 0), .g 13 11 true (.load cb false 1), .g 14 11 true (.bin .eql bT (.k (.int .i64 1))), .o 15 (.pick bV bN (.k (.bool false))), .m 16 cz, .g 17 16 true (.aj a8 1), .g 18 16 true (.load cZ false 1), .g 19 16 true (.bin .eql cU (.k (.int .i64 7))), .o 20 (.pick ct dh (.k (.bool false))), .m 21 dw, .g 22 21 true (.aj a8 3), .g 23 21 true (.load dM false 1),(.g 24 21 true (.cf [(.int .i64 0)] 1 2 [(0,(.k (.int .i64 5))),(1,(.k (.int .i64 5)))])), .d 25 21 true iD [dH,di], .o 26 (.pick dD dm (.k (.bool false))), .m 27 dZ, .g 28 27 true (.aj a8 4), .g 29 27 true (.load eR false 1), .g 30 27 true (.len eN), .g 31 27 true (.bin .eql eX (.k (.int .i64 2))), .o 32 (.pick eg eY (.k (.bool false))), .m 33 fe, .g 34 33 true (.aj a8 4), .g 35 33 true (.load fm false 1), .g 36 33 true (.cr ff (.k (.int .i64 0)) 2), .g 37 33 true (.aj fp 0), .g 38 33 true (.load fI false 1), .g 39 33 true (.bin .eql fV (.k (.int .i64 2))), .o 40 (.pick eZ fO (.k (.bool false))), .m 41 gk, .g 42 41 true (.aj a8 4), .g 43 41 true (.load gX false 1), .g 44 41 true (.cr gL (.k (.int .i64 1)) 2), .g 45 41 true (.aj iJ 1), .g 46 41 true (.load jg false 1),(.g 47 41 true (.cf [(.int .i64 0)] 1 1 [(0,(.k (.int .i64 5)))])), .d 48 41 true iD [jh,jJ], .o 49 (.pick gf iE (.k (.bool false))), .m 50 iK, .g 51 50 true (.load a8 true 5), .d 52 50 true xB [ji], .g 53 50 true (.rf .real jj jj),(.g 54 50 true (.rf .eq iT (.k (.val (.float .f64 4619567317775286272))))), .o 55 (.pick jK jL (.k (.bool false))), .m 0 jM]
abbrev Q0U:AC:= .seq (.run [.c 4 xA [],(.o 5 (.cf [(.int .i64 0)] 1 2 [(0,(.k (.int .i64 5))),(1,(.k (.int .i64 2)))])),(.c 6 kp [dE,(.k (.slice .full 0 [])),(.k (.int .i64 50)),bl]), .m 3 bY, .o 7 (.ext bM 0), .o 8 (.ext bM 1), .o 1 (.alloc [(.int .i64 0),(.int .i64 0),(.int .i64 0),(.slice .full 0 []),(.slice .full 0 [])]), .op none none (.store a8 bX 5), .m 2 bW]) (.seq Q0S .ret)
abbrev Q0V:AC:= .seq (.run [.o 0 (.mv (.k (.bool false)))]) Q0U
abbrev Q10:AC:= .cond bD (.seq (.run [.o 4 (.mv (.k (.bool false)))]) .ret) .skip
abbrev Q16:AC:= .par [.m 16 aJ, .m 17 bl, .o 18 (.cr ct cZ 1), .o 19 (.load cU false 1), .m 20 a8, .m 21 bl, .o 22 (.cr dw dD 1), .o 23 (.load dM false 1), .o 24 (.bin .neq dh dH)] [(0,0),(1,0),(2,0),(3,0),(4,0),(5,0),(6,0),(7,0),(8,0)]
abbrev Q19:AC:= .cond di (.seq (.run [.o 4 (.mv (.k (.bool false)))]) .ret) .skip
abbrev Q1F:AC:= .seq (.cond bN .skip (.exit 0)) (.seq (.block 1 (.seq (.run [.m 15 bT, .m 5 cz]) (.seq Q16 Q19))) (.run [.o 25 (.bin .add bT (.k (.int .i64 1))), .m 13 dm]))
abbrev Q1J:AC:= .seq (.run [.m 11 aJ, .o 12 (.len bV), .o 13 (.mv (.k (.int .i64 0)))]) (.block 0 (.loop (.seq (.run [.o 14 (.bin .lss bT cb)]) Q1F)))
abbrev Q1M:AC:= .seq Q1J (.seq (.run [.o 4 (.mv (.k (.bool true)))]) .ret)
abbrev Q1O:AC:= .seq (.run [.o 4 (.mv (.k (.bool false)))]) (.seq (.seq (.run [.m 6 aJ, .o 7 (.len bY), .m 8 a8, .o 9 (.len bW), .o 10 (.bin .neq bX cy)]) Q10) Q1M)
abbrev Q1S:AC:= .seq (.run [.o 2 (.box aJ), .o 3 (.box a8), .o 4 (.mv (.k (.bool false)))]) (.seq (.run [.o 5 (.load cY true 5), .o 6 (.load bM true 5), .c 7 ub [bl,bY], .m 8 bX, .g 9 8 true (.aj cY 4), .g 10 8 true (.load cy false 1), .g 11 8 true (.aj bM 4), .g 12 8 true (.load bV false 1), .d 13 8 true rG [bD,cb], .o 14 (.pick bW bT (.k (.bool false))), .m 4 bN]) .ret)
abbrev Q1W:AC:= .seq (.run [.o 1 (.box aJ), .o 2 (.mv (.k (.bool false)))]) (.seq (.run [.o 3 (.load a8 true 2), .c 4 sX [bM], .o 5 (.uC dE 0 false 1), .o 6 (.bin .eql bl (.k (.int .i64 0))), .m 2 bY]) .ret)
abbrev Q21:AC:= .cond cy (.seq (.run [.o 4 (.mv (.k (.slice .full 0 [])))]) .ret) .skip
abbrev Q28:AC:= .par [.o 21 (.aj cY 0), .o 22 (.load dD false 1), .c 23 fi [dM], .o 24 (.load bY true 5), .c 25 sY [di], .o 26 (.app 1 16 dH dm), .m 4 dZ] [(0,0),(1,0),(2,0),(3,1),(4,0),(5,0),(6,0)]
abbrev Q2F:AC:= .seq (.block 1 (.seq (.run [.o 15 (.cr bV bT 5), .o 16 (.load cz true 5), .o 6 (.alloc [(.str []),(.slice .full 0 []),(.slice .full 0 []),(.slice .full 0 []),(.slice .full 0 [])]), .op none none (.store bY ct 5)]) (.seq (.run [.o 17 (.aj bY 0), .o 18 (.load cZ false 1), .m 19 a8, .o 20 (.bin .eql cU dh)]) (.cond dw (.seq Q28 .ret) .skip)))) (.run [.o 27 (.bin .add bT (.k (.int .i64 1))), .m 13 eg])
abbrev Q2J:AC:= .block 0 (.loop (.seq (.run [.o 14 (.bin .lss bT cb)]) (.seq (.cond bN .skip (.exit 0)) Q2F)))
abbrev Q2N:AC:= .seq (.seq (.run [.o 10 (.aj cY 1), .o 11 (.load bD false 1), .o 12 (.len bV), .o 13 (.mv (.k (.int .i64 0)))]) Q2J) (.seq (.run [.o 4 (.mv (.k (.slice .full 0 [])))]) .ret)
abbrev Q2P:AC:= .seq (.run [.o 2 (.box aJ), .o 4 (.mv (.k (.slice .full 0 [])))]) (.seq (.seq (.run [.o 7 (.load cY true 2), .c 8 rH [bX], .o 9 (.un .not bW)]) Q21) Q2N)
abbrev Q2U:AC:= .cond bD (.seq (.run [.o 6 (.mv (.k (.int .i64 0))), .o 7 (.mv (.k (.bool false)))]) .ret) .skip
abbrev Q2Z:AC:= .seq (.run [.o 3 (.box aJ), .o 6 (.mv (.k (.int .i64 0))), .o 7 (.mv (.k (.bool false)))]) (.seq (.seq (.run [.o 8 (.load bM true 4), .c 9 np [bW], .o 10 (.un .not cy)]) Q2U) (.seq (.run [.o 11 (.load bM true 4), .m 12 a8, .m 13 cY, .c 14 lk [bV,cb,bT], .o 15 (.ext bN 0), .o 16 (.ext bN 1), .m 6 cz, .m 7 ct]) .ret))
abbrev Q34:AC:= .cond di (.seq (.run [.o 25 (.build [(.int .i64 0),(.int .i64 0),(.int .i64 0),(.slice .full 0 []),(.slice .full 0 [])] []), .op none none (.store bW dm 5), .o 9 (.mv (.k (.int .i64 1)))]) .ret) .skip
abbrev Q3E:AC:= .seq (.cond fp .skip (.exit 0)) (.seq (.block 1 (.run [.m 37 bD, .m 38 bD, .o 39 (.br fV), .o 40 (.aj fO 1), .o 41 (.load gk false 1), .o 42 (.alloc [(.int .i64 0)]), .o 43 (.cf [.ew] 1 1 [(0,gX)]), .o 44 (.app 1 8 gf gL), .o 45 (.br fI), .o 46 (.aj jg 1), .op none none (.store jh iJ 1)])) (.run [.o 47 (.bin .add ff (.k (.int .i64 1))), .m 35 jJ]))
abbrev Q3F:AC:= .seq (.run [.o 36 (.bin .lss ff fm)]) Q3E
abbrev Q3P:AC:= .cond k9 (.seq (.run [.o 12 (.mv (.k (.int .i64 0)))]) (.goto 0)) .skip
abbrev Q3Q:AC:= .seq (.run [.m 55 bT,(.o 56 (.bin .eql jM (.k (.int .i64 (-1)))))]) Q3P
abbrev Q3U:AC:= .cond n9 (.seq (.run [.m 64 bD, .o 65 (.br px), .o 66 (.aj qO 6), .o 67 (.aj rQ 0), .op none none (.store rR (.k (.int .i64 2)) 1)]) (.goto 2)) .skip
abbrev Q46:AC:= .seq (.run [.m 102 bD, .o 103 (.aj bV 0), .o 104 (.load ER true 13), .c 105 oH [EP,ES], .m 12 ET]) (.seq (.run [.m 106 bD, .o 107 (.br EU), .o 108 (.aj EV 6), .o 109 (.aj EW 0), .o 110 (.load IW false 1), .o 111 (.bin .eql EX (.k (.int .i64 0)))]) (.cond EY (.goto 0) .skip))
abbrev Q4A:AC:= .cond Gr (.run [.m 96 bD, .o 97 (.aj bV 0), .o 98 (.load KD true 13), .c 99 ph [KB,KE], .m 13 KF]) (.seq (.run [.o 101 (.bin .eql zC (.k (.int .i64 9))), .m 100 EO]) (.cond EN Q46 (.run [.m 91 bD, .o 92 (.load bV true 17), .c 93 qN [BH,DW], .m 13 Gq])))
abbrev Q4C:AC:= .block 2 (.seq (.run [.o 95 (.bin .eql zC (.k (.int .i64 4))), .m 94 Gs]) Q4A)
abbrev Q4M:AC:= .seq (.run [.m 127 bD, .o 128 (.br I6), .o 129 (.aj zD 6), .o 130 (.load I7 true 5), .op none none (.store bW I8 5), .o 9 (.mv (.k (.int .i64 0)))]) .ret
abbrev Q4O:AC:= .seq (.seq (.run [.m 121 bD, .o 122 (.br I1), .o 123 (.aj I2 6), .o 124 (.aj I3 0), .o 125 (.load I4 false 1), .o 126 (.bin .eql I5 (.k (.int .i64 0)))]) (.cond Qv (.goto 1) .skip)) (.seq (.label 2) Q4M)
abbrev Q4P:AC:= .seq (.run [.m 118 bD, .m 119 cb, .c 120 oI [IY,IZ], .m 13 I0]) Q4O
abbrev Q4S:AC:= .seq (.seq (.run [.m 112 bD, .o 113 (.br Cw), .o 114 (.aj EZ 6), .o 115 (.aj E0 0), .o 116 (.load E1 false 1), .o 117 (.bin .eql E2 (.k (.int .i64 0)))]) (.cond IX (.goto 1) .skip)) (.seq (.goto 2) (.seq (.label 0) Q4P))
abbrev Q4V:AC:= .seq (.run [.m 68 bD, .o 69 (.br qP), .o 70 (.aj sC 6), .o 71 (.aj rS 1), .o 72 (.load vL false 1), .o 73 (.bin .add uk (.k (.int .i64 1))), .o 74 (.br qP), .o 75 (.aj vM 6), .o 76 (.aj vN 1), .op none none (.store uq um 1)]) (.seq (.run [.m 77 bD, .o 78 (.br vO), .o 79 (.aj ur 0), .o 80 (.load zz false 1), .o 81 (.br zA), .o 82 (.aj zB 2), .o 83 (.load Bz false 1), .m 84 bT, .o 85 (.bin .sub BB (.k (.int .i64 1))), .o 86 (.cr BA BD 17), .o 87 (.load BE true 17), .op none none (.store bV BF 17)]) (.seq (.seq (.run [.o 88 (.aj bV 0), .o 89 (.aj BG 1), .o 90 (.load xG false 1)]) Q4C) Q4S))
abbrev Q4X:AC:= .seq Q3Q (.seq (.seq (.run [.m 57 bD, .o 58 (.br lS), .o 59 (.aj lJ 6), .o 60 (.aj kK 1), .o 61 (.load nz false 1), .m 62 cY, .o 63 (.bin .eql n7 n8)]) Q3U) Q4V)
abbrev Q50:AC:= .seq (.run [.o 12 (.mv (.k (.int .i64 0)))]) (.seq (.run [.m 48 bD, .m 49 bD, .o 50 (.br iK), .o 51 (.aj jK 0), .o 52 (.load ji false 1),(.c 53 iI [jj,(.k (.str [109,97,105,110]))]),(.c 54 jq [iE,iT,(.k (.slice .full 0 [])),(.k (.int .i64 0))]), .m 13 jL]) (.seq (.label 1) Q4X))
abbrev Q51:AC:= .seq (.run [.o 11 (.alloc [(.int .i64 0),(.int .i64 0),(.slice .full 0 []),(.str []),(.str []),(.int .i64 0),(.int .i64 0),(.str []),(.slice .full 0 []),(.bool false),(.slice .full 0 []),(.slice .full 0 []),(.slice .full 0 []),(.int .i64 0),(.int .i64 0),(.int .i64 0),(.int .i64 0)])]) Q50
abbrev Q52:AC:= .seq (.seq (.run [.o 32 (.aj dE 0), .o 33 (.load fe false 1), .o 34 (.len eZ), .o 35 (.mv (.k (.int .i64 0)))]) (.block 0 (.loop Q3F))) Q51
abbrev Q54:AC:= .seq (.seq (.run [.m 14 cY, .o 15 (.bin .lss bN (.k (.int .i64 0))), .m 16 cz, .g 17 16 false (.mv cY), .g 18 16 false (.bin .gtr cZ (.k (.int .i64 1000000))), .o 19 (.pick ct (.k (.bool true)) cU), .m 20 dh, .g 21 20 false (.load dE true 2), .d 22 20 false xy [dD], .g 23 20 false (.un .not dM), .o 24 (.pick dw (.k (.bool true)) dH)]) Q34) (.seq (.run [.o 26 (.load dE true 2), .c 27 k7 [dZ], .m 28 a8, .m 29 bM, .o 30 (.build [.ew,(.slice .full 0 []),(.slice .full 0 []),(.slice .full 0 []),(.slice .full 0 []),(.slice .full 0 []),(.int .i64 0),(.int .i64 0),(.int .i64 0),(.slice .full 0 []),(.slice .full 0 [])] [(0,(1,eg)),(2,(1,eR)),(3,(1,eN))]), .o 31 (.box eX), .m 10 eY]) Q52)
abbrev Q55:AC:= .scope Q54
abbrev Q56:AC:= .seq (.run [.o 4 (.box aJ), .o 8 (.alloc [(.int .i64 0),(.int .i64 0),(.int .i64 0),(.slice .full 0 []),(.slice .full 0 [])]), .o 9 (.mv (.k (.int .i64 0)))]) Q55
abbrev Q5E:AC:= .par [.o 19 (.build [(.slice .full 0 []),(.slice .full 0 [])] []), .o 20 (.load bl true 2), .op none none (.store cY dh 2), .op none none (.store bM dw 2)] [(0,0),(2,0),(1,1),(3,0)]
abbrev Q5K:AC:= .seq (.seq (.run [.o 16 (.aj bl 0), .o 17 (.load ct false 1), .o 18 (.bin .neq cZ (.k (.int .i64 0)))]) (.cond cU (.seq Q5E .ret) .skip)) (.seq (.run [.o 21 (.load dE true 2), .o 22 (.build [(.int .i64 0),(.int .i64 0)] []), .op none none (.store cY dD 2), .op none none (.store bM dM 2)]) .ret)
abbrev Q5L:AC:= .seq (.seq (.run [.o 11 (.aj bl 0), .o 12 (.load bV false 1), .o 13 (.bin .eql cb (.k (.int .i64 0)))]) (.cond bT (.run [.o 14 (.load dE true 2), .c 15 sX [bN], .op none none (.store bl cz 2)]) .skip)) Q5K
abbrev Q5N:AC:= .seq (.run [.o 2 (.alloc [(.slice .full 0 []),(.slice .full 0 [])]), .o 3 (.alloc [(.int .i64 0),(.int .i64 0)])]) (.seq (.run [.m 7 aJ, .c 8 uc [bX], .m 6 bW, .o 9 (.ext bY 0), .o 10 (.ext bY 1), .o 4 (.alloc [(.slice .full 0 []),(.slice .full 0 [])]), .o 5 (.alloc [(.int .i64 0),(.int .i64 0)]), .op none none (.store dE cy 2), .op none none (.store bl bD 2)]) Q5L)
abbrev Q5P:AC:= .run [(.o 3 (.cf [(.str [])] 1 1 [(0,(.k (.str [118])))])), .c 4 rI [(.k (.int .i64 2))],(.o 5 (.build [(.int .i64 0),(.int .i64 0),(.slice .full 0 []),(.str []),(.str []),(.int .i64 0),(.int .i64 0),(.str []),(.slice .full 0 []),(.bool false),(.slice .full 0 []),(.slice .full 0 []),(.slice .full 0 [])] [(0,(1,(.k (.int .i64 1)))),(1,(1,(.k (.int .i64 1)))),(3,(1,(.k (.str [118])))),(5,(4,dE))])), .c 6 rI [(.k (.int .i64 3))], .o 7 (.build [(.bool false),(.str []),(.int .i64 0),(.int .i64 0),(.str []),(.slice .full 0 [])] [(2,(4,bY))]),(.o 8 (.build [(.bool false),(.str []),(.int .i64 0),(.int .i64 0),(.str []),(.slice .full 0 [])] [(0,(1,(.k (.bool true)))),(1,(1,(.k (.str [118]))))])), .o 9 (.cf [(.bool false),(.str []),(.int .i64 0),(.int .i64 0),(.str []),(.slice .full 0 [])] 6 2 [(0,bX),(1,bW)]),(.o 10 (.build [(.int .i64 0),(.int .i64 0),(.slice .full 0 []),(.str []),(.str []),(.int .i64 0),(.int .i64 0),(.str []),(.slice .full 0 []),(.bool false),(.slice .full 0 []),(.slice .full 0 []),(.slice .full 0 [])] [(0,(1,(.k (.int .i64 2)))),(1,(1,(.k (.int .i64 4)))),(3,(1,(.k (.str [103])))),(4,(1,(.k (.str [112])))),(10,(1,cy))])),(.c 11 ll [(.k (.str [118]))]),(.o 12 (.build [(.int .i64 0),(.int .i64 0),(.slice .full 0 []),(.str []),(.str []),(.int .i64 0),(.int .i64 0),(.str []),(.slice .full 0 []),(.bool false),(.slice .full 0 []),(.slice .full 0 []),(.slice .full 0 [])] [(0,(1,(.k (.int .i64 3)))),(1,(1,(.k (.int .i64 3)))),(5,(4,bV))])),(.c 13 ll [(.k (.str [103]))]),(.o 14 (.build [(.int .i64 0),(.int .i64 0),(.slice .full 0 []),(.str []),(.str []),(.int .i64 0),(.int .i64 0),(.str []),(.slice .full 0 []),(.bool false),(.slice .full 0 []),(.slice .full 0 []),(.slice .full 0 [])] [(0,(1,(.k (.int .i64 4)))),(1,(1,(.k (.int .i64 3)))),(5,(4,bT))])), .o 15 (.cf [(.int .i64 0),(.int .i64 0),(.slice .full 0 []),(.str []),(.str []),(.int .i64 0),(.int .i64 0),(.str []),(.slice .full 0 []),(.bool false),(.slice .full 0 []),(.slice .full 0 []),(.slice .full 0 [])] 13 4 [(0,bl),(1,bD),(2,cb),(3,bN)]),(.o 16 (.build [(.str []),(.slice .full 0 []),(.slice .full 0 []),(.slice .full 0 []),(.slice .full 0 [])] [(0,(1,(.k (.str [109,97,105,110])))),(2,(1,bM)),(3,(1,cz))])), .o 1 (.alloc [(.str []),(.slice .full 0 []),(.slice .full 0 []),(.slice .full 0 []),(.slice .full 0 [])]), .op none none (.store a8 ct 5)]
abbrev Q5Q:AC:= .run [(.o 17 (.build [(.str []),(.bool false)] [(0,(1,(.k (.str [120]))))])),(.o 18 (.build [(.str []),(.bool false)] [(0,(1,(.k (.str [121])))),(1,(1,(.k (.bool true))))])), .o 19 (.cf [(.str []),(.bool false)] 2 2 [(0,cZ),(1,cU)]),(.o 20 (.cf [(.str [])] 1 1 [(0,(.k (.str [101])))])),(.c 21 ll [(.k (.str [121]))]),(.c 22 ll [(.k (.str [120]))]), .c 23 uW [(.k (.int .i64 8)),dD,dM],(.o 24 (.build [(.int .i64 0),(.int .i64 0),(.slice .full 0 []),(.str []),(.str []),(.int .i64 0),(.int .i64 0),(.str []),(.slice .full 0 []),(.bool false),(.slice .full 0 []),(.slice .full 0 []),(.slice .full 0 [])] [(0,(1,(.k (.int .i64 5)))),(1,(1,(.k (.int .i64 1)))),(3,(1,(.k (.str [121])))),(5,(4,dH))])),(.c 25 ll [(.k (.str [121]))]), .c 26 rI [(.k (.int .i64 9))], .c 27 uW [(.k (.int .i64 12)),dm,dZ],(.o 28 (.build [(.int .i64 0),(.int .i64 0),(.slice .full 0 []),(.str []),(.str []),(.int .i64 0),(.int .i64 0),(.str []),(.slice .full 0 []),(.bool false),(.slice .full 0 []),(.slice .full 0 []),(.slice .full 0 [])] [(0,(1,(.k (.int .i64 7)))),(1,(1,(.k (.int .i64 10)))),(3,(1,(.k (.str [101]))))])), .o 29 (.cf [(.int .i64 0),(.int .i64 0),(.slice .full 0 []),(.str []),(.str []),(.int .i64 0),(.int .i64 0),(.str []),(.slice .full 0 []),(.bool false),(.slice .full 0 []),(.slice .full 0 []),(.slice .full 0 [])] 13 1 [(0,eR)]),(.o 30 (.build [(.int .i64 0),(.int .i64 0),(.slice .full 0 []),(.str []),(.str []),(.int .i64 0),(.int .i64 0),(.str []),(.slice .full 0 []),(.bool false),(.slice .full 0 []),(.slice .full 0 []),(.slice .full 0 [])] [(0,(1,(.k (.int .i64 6)))),(1,(1,(.k (.int .i64 5)))),(5,(4,eg)),(11,(1,eN))])),(.c 31 ll [(.k (.str [121]))]),(.o 32 (.build [(.int .i64 0),(.int .i64 0),(.slice .full 0 []),(.str []),(.str []),(.int .i64 0),(.int .i64 0),(.str []),(.slice .full 0 []),(.bool false),(.slice .full 0 []),(.slice .full 0 []),(.slice .full 0 [])] [(0,(1,(.k (.int .i64 8)))),(1,(1,(.k (.int .i64 9)))),(9,(1,(.k (.bool true)))),(5,(4,eY))])), .o 33 (.cf [(.int .i64 0),(.int .i64 0),(.slice .full 0 []),(.str []),(.str []),(.int .i64 0),(.int .i64 0),(.str []),(.slice .full 0 []),(.bool false),(.slice .full 0 []),(.slice .full 0 []),(.slice .full 0 [])] 13 3 [(0,di),(1,eX),(2,fe)]),(.o 34 (.build [(.str []),(.slice .full 0 []),(.slice .full 0 []),(.slice .full 0 []),(.slice .full 0 [])] [(0,(1,(.k (.str [112])))),(1,(1,dh)),(4,(1,dw)),(3,(1,eZ))])), .o 2 (.alloc [(.str []),(.slice .full 0 []),(.slice .full 0 []),(.slice .full 0 []),(.slice .full 0 [])]), .op none none (.store cY fm 5)]
abbrev Q5S:AC:= .seq (.run [(.o 35 (.cf [(.str [])] 1 1 [(0,(.k (.str [103])))])), .o 36 (.load a8 true 5), .o 37 (.load cY true 5), .o 38 (.cf [(.str []),(.slice .full 0 []),(.slice .full 0 []),(.slice .full 0 []),(.slice .full 0 [])] 5 2 [(0,fp),(1,fI)]), .o 39 (.build [(.slice .full 0 []),(.slice .full 0 [])] [(0,(1,ff)),(1,(1,fV))]), .op none none (.store aJ fO 2)]) .ret
abbrev Q5V:AC:= .seq (.run [.o 0 (.alloc [(.slice .full 0 []),(.slice .full 0 [])])]) (.seq Q5P (.seq Q5Q Q5S))
abbrev Q5Z:AC:= .seq (.run [.o 1 (.box aJ),(.o 2 (.mv (.k (.val (.complex .f64 0 0)))))]) (.seq (.run [.o 3 (.aj a8 1), .o 4 (.load bM false 1), .o 5 (.rf (.ofInt .f64) dE dE), .o 6 (.aj a8 2), .o 7 (.load bY false 1), .o 8 (.rf (.ofInt .f64) bX bX), .o 9 (.rf .Js bl bW), .m 2 cy]) .ret)
open Go.Proofs
set_option maxRecDepth 20000 in
theorem C7 : Has Tryz.prog wN 117 [(0, none)] Q0P := ⟨Tryz.f7, by kernel_rfl, by kernel_rfl⟩
set_option maxRecDepth 20000 in
set_option maxRecDepth 20000 in
theorem Iq : Has Tryz.prog xx 56 [(0, none)] Q0V := ⟨Tryz.f8, by kernel_rfl, by kernel_rfl⟩
theorem vP:Has Tryz.prog iD 26 [(4,none)] Q1O:=⟨Tryz.f16,by kernel_rfl,by kernel_rfl⟩
theorem E4:Has Tryz.prog oq 15 [(4,none)] Q1S:=⟨Tryz.f17,by kernel_rfl,by kernel_rfl⟩
set_option maxRecDepth 20000 in
theorem Ir : Has Tryz.prog xy 7 [(2, none)] Q1W := ⟨Tryz.f18, by kernel_rfl, by kernel_rfl⟩
theorem Gt:Has Tryz.prog vA 28 [(4,none)] Q2P:=⟨Tryz.f21,by kernel_rfl,by kernel_rfl⟩
theorem Du:Has Tryz.prog wO 17 [(6,none),(7,none)] Q2Z:=⟨Tryz.f22,by kernel_rfl,by kernel_rfl⟩
theorem uZ:Has Tryz.prog kp 131 [(8,(some (true,5))),(9,none)] Q56:=⟨Tryz.f23,by kernel_rfl,by kernel_rfl⟩
set_option maxRecDepth 20000 in
theorem Gu : Has Tryz.prog lH 23 [(2, (some (true, 2))), (3, (some (true, 2)))] Q5N := ⟨Tryz.f24, by kernel_rfl, by kernel_rfl⟩
theorem Is:Has Tryz.prog xA 40 [(0,(some (true,2)))] Q5V:=⟨Tryz.f26,by kernel_rfl,by kernel_rfl⟩
theorem Iu:Has Tryz.prog xB 10 [(2,none)] Q5Z:=⟨Tryz.f27,by kernel_rfl,by kernel_rfl⟩
abbrev Q61:AC:= .run [.o 5 (.aj cY 0), .o 6 (.load bl false 1), .o 7 (.aj bM 0), .o 8 (.load bX false 1), .o 9 (.bin .eql bY bW), .m 10 cy, .g 11 10 true (.aj cY 1), .g 12 10 true (.load bV false 1), .g 13 10 true (.aj bM 1), .g 14 10 true (.load bT false 1), .g 15 10 true (.bin .eql cb bN), .o 16 (.pick bD cz (.k (.bool false))), .m 17 ct, .g 18 17 true (.aj cY 2), .g 19 17 true (.load cU false 1), .g 20 17 true (.aj bM 2), .g 21 17 true (.load dw false 1), .g 22 17 true (.bin .eql dh dD), .o 23 (.pick cZ dM (.k (.bool false))), .m 24 dH, .g 25 24 true (.aj cY 3), .g 26 24 true (.load dm false 1), .g 27 24 true (.aj bM 3), .g 28 24 true (.load eg false 1), .d 29 24 true iD [dZ,eR], .o 30 (.pick di eN (.k (.bool false))), .m 4 eX]
abbrev Q63:AC:= .seq (.run [.o 2 (.box aJ), .o 3 (.box a8), .o 4 (.mv (.k (.bool false)))]) (.seq Q61 .ret)
abbrev Q68:AC:= .cond bD (.seq (.run [.o 4 (.mv (.k (.bool false)))]) .ret) .skip
abbrev Q6E:AC:= .par [.m 16 aJ, .m 17 bl, .o 18 (.cr ct cZ 2), .o 19 (.aj cU 0), .o 20 (.load dh false 1), .m 21 a8, .m 22 bl, .o 23 (.cr dD dM 2), .o 24 (.aj dH 0), .o 25 (.load di false 1), .o 26 (.bin .neq dw dm), .m 27 dZ, .g 28 27 false (.mv aJ), .g 29 27 false (.mv bl), .g 30 27 false (.cr eR eN 2), .g 31 27 false (.aj eX 1), .g 32 27 false (.load eY false 1), .g 33 27 false (.mv a8), .g 34 27 false (.mv bl), .g 35 27 false (.cr eZ fm 2), .g 36 27 false (.aj ff 1), .g 37 27 false (.load fp false 1), .d 38 27 false iD [fe,fI], .g 39 27 false (.un .not fV), .o 40 (.pick eg (.k (.bool true)) fO)] [(0,0),(1,0),(2,0),(3,0),(4,0),(5,0),(6,0),(7,0),(8,0),(9,0),(10,0),(11,0),(12,0),(13,0),(14,0),(15,0),(16,0),(17,0),(18,0),(19,0),(20,0),(21,0),(22,0),(23,0),(24,0)]
abbrev Q6H:AC:= .cond gk (.seq (.run [.o 4 (.mv (.k (.bool false)))]) .ret) .skip
abbrev Q6N:AC:= .seq (.cond bN .skip (.exit 0)) (.seq (.block 1 (.seq (.run [.m 15 bT, .m 5 cz]) (.seq Q6E Q6H))) (.run [.o 41 (.bin .add bT (.k (.int .i64 1))), .m 13 gf]))
abbrev Q6R:AC:= .seq (.run [.m 11 aJ, .o 12 (.len bV), .o 13 (.mv (.k (.int .i64 0)))]) (.block 0 (.loop (.seq (.run [.o 14 (.bin .lss bT cb)]) Q6N)))
abbrev Q6U:AC:= .seq Q6R (.seq (.run [.o 4 (.mv (.k (.bool true)))]) .ret)
abbrev Q6W:AC:= .seq (.run [.o 4 (.mv (.k (.bool false)))]) (.seq (.seq (.run [.m 6 aJ, .o 7 (.len bY), .m 8 a8, .o 9 (.len bW), .o 10 (.bin .neq bX cy)]) Q68) Q6U)
abbrev Q70:AC:= .seq (.run [(.o 7 (.build [(.int .i64 0),(.int .i64 0)] [(0,(1,(.k (.int .i64 1))))])), .op none none (.store cY bX 2)]) .ret
abbrev Q7I:AC:= .seq (.seq (.run [.o 20 (.aj bM 0), .o 21 (.load dw false 1), .o 22 (.bin .eql dD (.k (.int .i64 0)))]) (.cond dM (.run [.o 23 (.load a8 true 2), .c 24 ud [dH], .op none none (.store bM di 2)]) .skip)) (.seq (.run [.o 25 (.load bM true 2), .op none none (.store cY dm 2)]) .ret)
abbrev Q7J:AC:= .seq (.seq (.run [.o 15 (.aj bM 0), .o 16 (.load cz false 1), .o 17 (.bin .eql ct (.k (.int .i64 0)))]) (.cond cZ (.run [.o 18 (.load a8 true 2), .c 19 vB [cU], .op none none (.store bM dh 2)]) .skip)) Q7I
abbrev Q7K:AC:= .seq (.seq (.run [.o 10 (.aj bM 0), .o 11 (.load bD false 1), .o 12 (.bin .eql bV (.k (.int .i64 0)))]) (.cond cb (.run [.o 13 (.load a8 true 2), .c 14 qB [bT], .op none none (.store bM bN 2)]) .skip)) Q7J
abbrev Q7N:AC:= .seq (.run [.o 1 (.box aJ), .o 2 (.alloc [(.int .i64 0),(.int .i64 0)])]) (.seq (.seq (.run [.o 4 (.load a8 true 2), .c 5 rH [dE], .o 6 (.un .not bl)]) (.cond bY Q70 .skip)) (.seq (.run [.o 8 (.load a8 true 2), .c 9 lW [bW], .o 3 (.alloc [(.int .i64 0),(.int .i64 0)]), .op none none (.store bM cy 2)]) Q7K))
abbrev Q7S:AC:= .cond dH (.seq (.run [.o 2 (.mv (.k (.bool false)))]) .ret) .skip
abbrev Q7Z:AC:= .run [.o 33 (.aj bl 1), .o 34 (.load eZ false 1), .o 35 (.len fm), .o 36 (.bin .gtr ff (.k (.int .i64 8))), .m 37 fp, .g 38 37 false (.aj bl 2), .g 39 37 false (.load fV false 1), .g 40 37 false (.len fO), .g 41 37 false (.bin .gtr gk (.k (.int .i64 16))), .o 42 (.pick fI (.k (.bool true)) gf), .m 43 gX, .g 44 43 false (.aj bl 0), .g 45 43 false (.load iJ false 1), .d 46 43 false nY [jg], .g 47 43 false (.un .not jh), .o 48 (.pick gL (.k (.bool true)) jJ), .m 49 iE, .g 50 49 false (.aj bl 2), .g 51 49 false (.load jK false 1), .d 52 49 false nq [ji], .g 53 49 false (.un .not jj), .o 54 (.pick iK (.k (.bool true)) iT), .m 55 jL, .g 56 55 false (.aj bl 4), .g 57 55 false (.load k9 false 1), .d 58 55 false nq [lS], .g 59 55 false (.un .not lJ), .o 60 (.pick jM (.k (.bool true)) kK)]
abbrev Q82:AC:= .cond nz (.seq (.run [.o 2 (.mv (.k (.bool false)))]) .ret) .skip
abbrev Q8B:AC:= .cond vL (.seq (.run [.o 2 (.mv (.k (.bool false)))]) .ret) .skip
abbrev Q8G:AC:= .seq (.block 3 (.seq (.run [.o 66 (.cr n8 px 2), .o 67 (.load rQ true 2), .o 7 (.alloc [(.str []),(.bool false)]), .op none none (.store bX rR 2)]) (.seq (.run [.o 68 (.aj bX 0), .o 69 (.load qP false 1), .c 70 nY [sC], .o 71 (.un .not rS)]) Q8B))) (.run [.o 72 (.bin .add px (.k (.int .i64 1))), .m 64 uk])
abbrev Q8K:AC:= .block 2 (.loop (.seq (.run [.o 65 (.bin .lss px n9)]) (.seq (.cond qO .skip (.exit 2)) Q8G)))
abbrev Q8P:AC:= .cond vO (.seq (.run [.o 2 (.mv (.k (.bool false)))]) .ret) .skip
abbrev Q8R:AC:= .seq (.seq (.run [.o 61 (.aj bl 1), .o 62 (.load n7 false 1), .o 63 (.len n8), .o 64 (.mv (.k (.int .i64 0)))]) Q8K) (.seq (.run [.m 73 bM, .o 74 (.aj bl 3), .o 75 (.load vM false 1), .c 76 kI [um,vN,(.k (.int .i64 1))], .o 77 (.un .not uq)]) Q8P)
abbrev Q8W:AC:= .seq (.block 1 (.seq (.run [.o 31 (.cr eg eN 5), .o 32 (.load eY true 5), .o 5 (.alloc [(.str []),(.slice .full 0 []),(.slice .full 0 []),(.slice .full 0 []),(.slice .full 0 [])]), .op none none (.store bl fe 5)]) (.seq (.seq Q7Z Q82) Q8R))) (.run [.o 78 (.bin .add eN (.k (.int .i64 1))), .m 29 ur])
abbrev Q90:AC:= .block 0 (.loop (.seq (.run [.o 30 (.bin .lss eN eR)]) (.seq (.cond eX .skip (.exit 0)) Q8W)))
abbrev Q94:AC:= .seq (.seq (.run [.o 26 (.aj a8 1), .o 27 (.load dZ false 1), .o 28 (.len eg), .o 29 (.mv (.k (.int .i64 0)))]) Q90) (.seq (.run [.o 2 (.mv (.k (.bool true)))]) .ret)
abbrev Q96:AC:= .seq (.seq (.run [.o 8 (.aj a8 0), .o 9 (.load bW false 1), .o 10 (.len cy), .o 11 (.bin .gtr bD (.k (.int .i64 16))), .m 12 bV, .g 13 12 false (.aj a8 1), .g 14 12 false (.load bT false 1), .g 15 12 false (.len bN), .g 16 12 false (.bin .gtr cz (.k (.int .i64 16))), .o 17 (.pick cb (.k (.bool true)) ct), .m 18 cZ, .g 19 18 false (.aj a8 0), .g 20 18 false (.load dh false 1), .d 21 18 false nq [dw], .g 22 18 false (.un .not dD), .o 23 (.pick cU (.k (.bool true)) dM)]) Q7S) (.seq (.run [.o 24 (.build [(.int .i64 0)] []), .o 25 (.box di), .m 3 dm]) Q94)
abbrev Q97:AC:= .seq (.run [.o 1 (.box aJ), .o 2 (.mv (.k (.bool false)))]) Q96
abbrev Q9F:AC:= .par [.o 19 (.aj bY 0), .o 20 (.load dh false 1), .o 21 (.aj bY 1), .o 22 (.load dD false 1), .c 23 lI [dM], .o 24 (.aj bY 2), .o 25 (.load di false 1), .c 26 fi [dm], .o 27 (.aj bY 4), .o 28 (.load eg false 1), .c 29 fi [eR], .o 30 (.build [(.str []),(.slice .full 0 []),(.slice .full 0 []),(.slice .full 0 []),(.slice .full 0 [])] [(0,(1,dw)),(1,(1,dH)),(2,(1,dZ)),(4,(1,eN))]), .o 7 (.alloc [(.str []),(.slice .full 0 []),(.slice .full 0 []),(.slice .full 0 []),(.slice .full 0 [])]), .op none none (.store bX eX 5)] [(2,0),(3,0),(4,0),(5,0),(6,1),(7,0),(8,0),(9,2),(10,0),(12,0),(0,0),(1,4),(11,0),(13,0)]
abbrev Q9K:AC:= .seq (.run [.o 17 (.cr bT cz 5), .o 18 (.load cZ true 5), .o 6 (.alloc [(.str []),(.slice .full 0 []),(.slice .full 0 []),(.slice .full 0 []),(.slice .full 0 [])]), .op none none (.store bY cU 5)]) (.seq Q9F (.seq (.run [.o 32 (.aj bY 3), .o 33 (.load fe false 1), .m 34 bM, .c 35 kT [eZ,fm,(.k (.bool true))], .m 31 ff, .o 36 (.ext eY 0), .o 37 (.ext eY 1), .o 38 (.aj bX 3), .op none none (.store fV fp 1), .m 3 fI]) (.run [.o 39 (.aj dE 1), .o 40 (.load fO false 1), .o 41 (.load bX true 5), .o 42 (.cf [(.str []),(.slice .full 0 []),(.slice .full 0 []),(.slice .full 0 []),(.slice .full 0 [])] 5 1 [(0,gf)]), .o 43 (.app 5 112 gk gX), .o 44 (.aj dE 1), .op none none (.store iJ gL 1)])))
abbrev Q9O:AC:= .seq (.cond ct .skip (.exit 0)) (.seq (.block 1 Q9K) (.run [.o 45 (.bin .add cz (.k (.int .i64 1))), .m 15 jg]))
abbrev Q9S:AC:= .seq (.run [.o 12 (.aj a8 1), .o 13 (.load cb false 1), .o 14 (.len bT), .o 15 (.mv (.k (.int .i64 0)))]) (.block 0 (.loop (.seq (.run [.o 16 (.bin .lss cz bN)]) Q9O)))
abbrev Q9X:AC:= .seq (.run [.o 3 (.mv (.k (.int .i64 0)))]) (.seq (.run [.o 8 (.aj a8 0), .o 9 (.load bW false 1), .c 10 fi [cy], .o 11 (.build [(.slice .full 0 []),(.slice .full 0 [])] [(0,(1,bD))]), .o 4 (.alloc [(.slice .full 0 []),(.slice .full 0 [])]), .op none none (.store dE bV 2)]) (.seq Q9S (.seq (.run [.o 46 (.load dE true 2), .op none none (.store cY jh 2)]) .ret)))
abbrev Q9Y:AC:= .seq (.run [.o 1 (.box aJ), .o 2 (.alloc [(.slice .full 0 []),(.slice .full 0 [])])]) Q9X
abbrev QA3:AC:= .cond dE (.seq (.run [.o 2 (.mv (.k (.slice .full 0 [])))]) .ret) .skip
abbrev QA8:AC:= .seq (.run [.o 2 (.mv (.k (.slice .full 0 [])))]) (.seq (.seq (.run [.m 3 aJ, .nil (some 4) none false bM]) QA3) (.seq (.run [.o 5 (.cf [(.str [])] 1 0 []), .m 6 aJ, .o 7 (.app 1 16 bl bY), .m 2 bX]) .ret))
abbrev QAJ:AC:= .seq (.block 1 (.seq (.run [.o 11 (.cr bX cy 2), .o 12 (.load bV true 2), .o 5 (.alloc [(.str []),(.bool false)]), .op none none (.store bl cb 2)]) (.run [.m 13 bM, .o 14 (.aj bl 0), .o 15 (.load bN false 1), .o 16 (.cf [(.str [])] 1 1 [(0,cz)]), .o 17 (.app 1 16 bT ct), .m 3 cZ]))) (.run [.o 18 (.bin .add cy (.k (.int .i64 1))), .m 9 cU])
abbrev QAN:AC:= .block 0 (.loop (.seq (.run [.o 10 (.bin .lss cy bW)]) (.seq (.cond bD .skip (.exit 0)) QAJ)))
abbrev QAR:AC:= .seq (.seq (.run [.o 6 (.aj a8 1), .o 7 (.load bY false 1), .o 8 (.len bX), .o 9 (.mv (.k (.int .i64 0)))]) QAN) (.seq (.run [.m 19 bM, .o 20 (.aj a8 2), .o 21 (.load dw false 1), .o 22 (.app 1 16 dh dD), .m 2 dM]) .ret)
abbrev QAT:AC:= .seq (.run [.o 1 (.box aJ), .o 2 (.mv (.k (.slice .full 0 [])))]) (.seq (.run [.o 3 (.mv (.k (.slice .full 0 [])))]) QAR)
abbrev QAX:AC:= .seq (.run [.o 1 (.box aJ), .o 2 (.mv (.k (.bool false)))]) (.seq (.run [.o 3 (.load a8 true 4), .c 4 qj [bM,(.k (.int .i64 20))], .m 2 dE]) .ret)
abbrev QB8:AC:= .cond eY (.seq (.run [.m 32 cY, .m 33 bW, .o 34 (.cr fe eZ 1), .o 35 (.load fm false 1), .m 6 ff, .o 7 (.mv (.k (.bool true)))]) .ret) .skip
abbrev QBA:AC:= .seq (.run [.m 20 a8, .o 21 (.aj bM 2), .o 22 (.load dD false 1), .c 23 gb [dw,dM], .m 8 dH]) (.seq (.run [.m 24 bW, .o 25 (.bin .geq di (.k (.int .i64 0))), .m 26 dm, .g 27 26 true (.mv bW), .g 28 26 true (.mv cY), .g 29 26 true (.len eR), .g 30 26 true (.bin .lss eg eN), .o 31 (.pick dZ eX (.k (.bool false)))]) QB8)
abbrev QBD:AC:= .seq QBA (.seq (.run [.o 6 (.mv (.k (.int .i64 0))), .o 7 (.mv (.k (.bool true)))]) .ret)
abbrev QBG:AC:= .cond bN (.seq (.run [.o 16 (.aj bM 1), .o 17 (.load ct false 1), .m 6 cZ, .o 7 (.mv (.k (.bool true)))]) .ret) (.seq (.run [.o 19 (.bin .eql bT (.k (.int .i64 2))), .m 18 dh]) (.cond cU QBD .skip))
abbrev QBI:AC:= .block 0 (.seq (.run [.o 15 (.bin .eql bT (.k (.int .i64 1))), .m 14 cz]) QBG)
abbrev QBO:AC:= .cond jJ (.seq (.run [.o 6 (.mv (.k (.int .i64 0))), .o 7 (.mv (.k (.bool false)))]) .ret) .skip
abbrev QBY:AC:= .cond qO (.seq (.run [.o 6 (.mv (.k (.int .i64 0))), .o 7 (.mv (.k (.bool true)))]) .ret) .skip
abbrev QC3:AC:= .cond uk (.seq (.run [.o 6 (.mv (.k (.int .i64 1))), .o 7 (.mv (.k (.bool true)))]) .ret) .skip
abbrev QC9:AC:= .cond BB (.seq (.run [.o 6 (.mv (.k (.int .i64 0))), .o 7 (.mv (.k (.bool false)))]) .ret) .skip
abbrev QCF:AC:= .seq (.seq (.run [.o 66 (.aj bM 0), .o 67 (.load rQ false 1), .o 68 (.bin .eql rR (.k (.int .i64 17))), .m 69 qP, .g 70 69 true (.mv cy), .d 71 69 true rJ [rS], .o 72 (.pick sC vL (.k (.bool false)))]) QC3) (.seq (.run [.o 74 (.aj bM 3), .o 75 (.load vM false 1), .o 76 (.cr vN (.k (.int .i64 1)) 4), .o 77 (.load uq true 4), .m 78 a8, .m 79 cY, .c 80 lk [vO,ur,zz], .m 73 zA, .o 81 (.ext um 0), .o 82 (.ext um 1), .m 11 zB, .m 10 Bz]) (.seq (.seq (.run [.m 83 bD, .o 84 (.un .not BA)]) QC9) (.seq (.run [.o 85 (.aj bM 0), .o 86 (.load BD false 1), .m 87 cy, .m 88 bV, .c 89 zu [BE,BF,BG], .o 90 (.ext xG 0), .o 91 (.ext xG 1), .m 6 zC, .m 7 BH]) .ret)))
abbrev QCG:AC:= .seq (.seq (.run [.o 58 (.aj bM 0), .o 59 (.load lJ false 1), .o 60 (.bin .eql kK (.k (.int .i64 16))), .m 61 nz, .g 62 61 true (.mv cy), .d 63 61 true rJ [n8], .g 64 61 true (.un .not n9), .o 65 (.pick n7 px (.k (.bool false)))]) QBY) QCF
abbrev QCH:AC:= .seq (.seq (.run [.o 48 (.aj bM 3), .o 49 (.load iE false 1), .o 50 (.len iK), .o 51 (.bin .eql jK (.k (.int .i64 1)))]) (.cond ji (.seq (.run [.o 52 (.aj bM 0), .o 53 (.load jj false 1), .m 54 cy, .c 55 zt [iT,jL], .o 56 (.ext jM 0), .o 57 (.ext jM 1), .m 6 k9, .m 7 lS]) .ret) .skip)) QCG
abbrev QCK:AC:= .seq (.seq (.run [.o 12 (.aj bM 0), .o 13 (.load cb false 1)]) QBI) (.seq (.run [.o 37 (.aj bM 3), .o 38 (.load fI false 1), .o 39 (.cr fV (.k (.int .i64 0)) 4), .o 40 (.load fO true 4), .m 41 a8, .m 42 cY, .c 43 lk [gk,gf,gX], .m 36 gL, .o 44 (.ext fp 0), .o 45 (.ext fp 1), .m 9 iJ, .m 10 jg]) (.seq (.seq (.run [.m 46 bD, .o 47 (.un .not jh)]) QBO) QCH))
abbrev QCL:AC:= .seq (.run [.o 3 (.box aJ), .o 6 (.mv (.k (.int .i64 0))), .o 7 (.mv (.k (.bool false)))]) QCK
abbrev QCS:AC:= .par [.m 17 bM, .m 18 bM, .o 19 (.br cU), .o 20 (.aj dh 3), .o 21 (.load dw false 1), .m 22 bM, .o 23 (.br dM), .o 24 (.aj dH 2), .o 25 (.load di false 1), .o 26 (.len dm), .o 27 (.bin .add dZ (.k (.int .i64 1))), .o 28 (.cf [(.int .i64 0)] 1 1 [(0,eg)]), .o 29 (.app 1 8 dD eR), .o 30 (.br cZ), .o 31 (.aj eX 3), .op none none (.store eY eN 1)] [(1,0),(2,0),(3,0),(4,0),(5,0),(6,0),(7,0),(8,0),(9,0),(10,0),(11,0),(12,0),(0,0),(13,0),(14,0),(15,0)]
abbrev QCU:AC:= .par [.m 38 bM, .m 39 bM, .o 40 (.br fO), .o 41 (.aj gk 4), .o 42 (.load gf false 1), .m 43 bM, .o 44 (.br gL), .o 45 (.aj iJ 2), .o 46 (.load jg false 1), .o 47 (.len jh), .o 48 (.bin .add jJ (.k (.int .i64 1))), .o 49 (.cf [(.int .i64 0)] 1 1 [(0,iE)]), .o 50 (.app 1 8 gX iK), .o 51 (.br fV), .o 52 (.aj ji 4), .op none none (.store jj jK 1)] [(1,0),(2,0),(3,0),(4,0),(5,0),(6,0),(7,0),(8,0),(9,0),(10,0),(11,0),(12,0),(0,0),(13,0),(14,0),(15,0)]
abbrev QCV:AC:= .seq (.run [.m 32 bM, .o 33 (.aj bl 3), .o 34 (.load eZ false 1), .m 35 dE,(.o 36 (.build [(.int .i64 0),(.int .i64 0),(.slice .full 0 []),(.str []),(.str []),(.int .i64 0),(.int .i64 0),(.str []),(.slice .full 0 []),(.bool false),(.slice .full 0 []),(.slice .full 0 []),(.slice .full 0 []),(.int .i64 0),(.int .i64 0),(.int .i64 0),(.int .i64 0)] [(13,(1,ff)),(15,(1,(.k (.int .i64 (-1)))))])), .c 37 kq [fe,fm,fp]]) QCU
abbrev QD0:AC:= .seq (.block 1 (.seq (.run [.m 14 cb, .o 15 (.cr bD cb 5), .o 16 (.load cz true 5), .o 5 (.alloc [(.str []),(.slice .full 0 []),(.slice .full 0 []),(.slice .full 0 []),(.slice .full 0 [])]), .m 4 bN, .op none none (.store bl ct 5)]) (.seq QCS QCV))) (.run [.o 53 (.bin .add cb (.k (.int .i64 1))), .m 12 iT])
abbrev QD4:AC:= .block 0 (.loop (.seq (.run [.o 13 (.bin .lss cb bV)]) (.seq (.cond bT .skip (.exit 0)) QD0)))
abbrev QD8:AC:= .seq (.seq (.run [.o 9 (.aj a8 1), .o 10 (.load cy false 1), .o 11 (.len bD), .o 12 (.mv (.k (.int .i64 0)))]) QD4) (.seq (.run [.m 54 bM, .m 2 jL]) .ret)
abbrev QDA:AC:= .seq (.run [.o 1 (.box aJ), .o 2 (.mv (.k .ew))]) (.seq (.run [.o 6 (.load a8 true 2), .o 7 (.build [(.slice .full 0 []),(.slice .full 0 []),(.slice .full 0 []),(.slice .full 0 []),(.slice .full 0 [])] [(0,(2,bY))]), .o 8 (.box bX), .m 3 bW]) QD8)
abbrev QDD:AC:= .par [.m 22 a8, .m 23 aJ, .o 24 (.br dH), .o 25 (.aj di 0), .o 26 (.load dm false 1), .o 27 (.br dZ), .o 28 (.aj eg 0), .o 29 (.load eR true 2), .o 30 (.aj cy 0), .o 31 (.load eX false 1), .c 32 vA [eN,eY], .m 33 bM, .o 34 (.build [(.int .i64 0),(.slice .full 0 []),(.slice .full 0 []),(.int .i64 0)] [(0,(1,dM)),(1,(1,fe)),(3,(1,eZ))]), .o 35 (.box fm), .m 10 ff] [(1,0),(2,0),(3,0),(4,0),(5,0),(6,0),(7,0),(8,0),(9,0),(10,0),(0,0),(11,0),(12,0),(13,0),(14,0)]
abbrev QDE:AC:= .par [.m 36 bD, .m 37 bD, .o 38 (.br fI), .o 39 (.aj fV 2), .o 40 (.load fO false 1), .m 41 aJ, .o 42 (.br gf), .o 43 (.aj gX 1), .o 44 (.load gL false 1), .o 45 (.app 1 8 gk iJ), .m 46 cY, .o 47 (.app 1 8 jg jh), .o 48 (.br fp), .o 49 (.aj iE 2), .op none none (.store iK jJ 1)] [(1,0),(2,0),(3,0),(4,0),(5,0),(6,0),(7,0),(8,0),(9,0),(10,0),(11,0),(0,0),(12,0),(13,0),(14,0)]
abbrev QDM:AC:= .seq (.cond jL .skip (.exit 0)) (.seq (.block 1 (.run [.m 55 bD, .m 56 bD, .o 57 (.br k9), .o 58 (.aj lS 2), .o 59 (.load lJ false 1), .o 60 (.alloc [(.int .i64 0)]), .o 61 (.cf [.ew] 1 1 [(0,nz)]), .o 62 (.app 1 8 kK n7), .o 63 (.br jM), .o 64 (.aj n9 2), .op none none (.store px n8 1)])) (.run [.o 65 (.bin .add iT (.k (.int .i64 1))), .m 53 qO]))
abbrev QDN:AC:= .seq (.run [.o 54 (.bin .lss iT jj)]) QDM
abbrev QDU:AC:= .seq (.run [.m 66 aJ, .m 67 aJ, .o 68 (.br rR), .o 69 (.aj qP 4), .o 70 (.load sC false 1), .m 71 bD, .o 72 (.cf [.ew] 1 1 [(0,vL)]), .o 73 (.app 1 8 rS uk), .o 74 (.br rQ), .o 75 (.aj vM 4), .op none none (.store vN um 1)]) (.seq (.run [.m 76 aJ, .o 77 (.br uq), .o 78 (.aj vO 0), .o 79 (.load ur false 1), .m 80 a8, .c 81 pj [zz,zA], .m 8 zB]) .ret)
abbrev QDV:AC:= .seq (.seq (.run [.o 50 (.aj cy 2), .o 51 (.load jK false 1), .o 52 (.len ji), .o 53 (.mv (.k (.int .i64 0)))]) (.block 0 (.loop QDN))) QDU
abbrev QDZ:AC:= .seq (.run [.o 8 (.mv (.k (.int .i64 0)))]) (.seq (.run [.m 11 aJ, .o 12 (.br bV), .o 13 (.aj cb 0), .o 14 (.load bT false 1), .o 15 (.br bN), .o 16 (.aj cz 0), .o 17 (.aj ct 1), .o 18 (.load cZ false 1), .m 19 a8, .o 20 (.cr cU dh 5), .o 21 (.load dw true 5), .o 9 (.alloc [(.str []),(.slice .full 0 []),(.slice .full 0 []),(.slice .full 0 []),(.slice .full 0 [])]), .op none none (.store cy dD 5)]) (.seq QDD (.seq QDE QDV)))
abbrev QE3:AC:= .seq (.run [.o 3 (.box a8), .o 4 (.mv (.k (.int .i64 0)))]) (.seq (.run [.m 5 aJ, .o 6 (.br bl), .o 7 (.aj bY 0), .o 8 (.aj bX 1), .o 9 (.load bW false 1), .o 10 (.uQ 93 [bM]), .c 11 gu [cy,bD], .m 4 bV]) .ret)
abbrev QEE:AC:= .seq (.run [.o 18 (.aj bX 0), .o 19 (.load cU false 1)]) (.cond dh (.seq (.run [.m 20 bl, .m 21 aJ, .o 22 (.aj bX 1), .o 23 (.load dM false 1), .c 24 iQ [dD,dH], .o 25 (.cf [.ew] 1 1 [(0,di)]), .o 26 (.app 1 8 dw dm), .m 5 dZ]) (.exit 1)) .skip)
abbrev QEI:AC:= .seq (.run [(.o 4 (.mv (.k (.int .i64 (-1)))))]) .ret
abbrev QEP:AC:= .seq (.run [.m 28 aJ, .o 29 (.aj bX 2), .o 30 (.load eN true 4), .c 31 ki [eR,eX], .m 27 eY, .o 32 (.ext eg 0), .o 33 (.ext eg 1), .m 8 fe, .m 9 eZ]) (.seq (.seq (.run [.m 34 cy, .o 35 (.un .not fm)]) (.cond ff QEI .skip)) (.seq (.run [.m 36 bW, .o 10 (.alloc [(.int .i64 0)]), .op none none (.store bD fp 1)]) (.run [.m 37 bl, .o 38 (.cf [.ew] 1 1 [(0,bD)]), .o 39 (.app 1 8 fI fV), .m 5 fO])))
abbrev QEU:AC:= .seq (.block 1 (.seq (.run [.o 16 (.cr cb bN 6), .o 17 (.load ct true 6), .o 7 (.alloc [(.bool false),(.str []),(.int .i64 0),(.int .i64 0),(.str []),(.slice .full 0 [])]), .op none none (.store bX cZ 6)]) (.seq QEE QEP))) (.run [.o 40 (.bin .add bN (.k (.int .i64 1))), .m 14 gk])
abbrev QEW:AC:= .seq (.run [.o 15 (.bin .lss bN bT)]) (.seq (.cond cz .skip (.exit 0)) QEU)
abbrev QF3:AC:= .seq (.run [(.o 4 (.mv (.k (.int .i64 (-1)))))]) .ret
abbrev QF5:AC:= .cond jh (.seq (.run [.m 47 aJ, .o 48 (.br jJ), .o 49 (.aj iE 6), .o 50 (.aj iK 0), .op none none (.store jK (.k (.int .i64 5)) 1)]) QF3) .skip
abbrev QF8:AC:= .par [.m 55 aJ, .m 56 aJ, .o 57 (.br k9), .o 58 (.aj lS 0), .o 59 (.load lJ false 1), .o 60 (.aj bM 4), .o 61 (.load nz false 1), .c 62 iI [kK,n7], .m 63 bl, .o 64 (.aj bM 0), .o 65 (.load px false 1), .c 66 jq [jM,n8,n9,qO], .m 4 rQ] [(1,0),(2,0),(3,0),(4,0),(5,0),(6,0),(7,0),(0,0),(8,0),(9,0),(10,1),(11,0),(12,0)]
abbrev QFB:AC:= .seq (.seq (.run [.m 41 aJ, .o 42 (.br gf), .o 43 (.aj gX 4), .o 44 (.load gL false 1), .o 45 (.len iJ), .o 46 (.bin .gtr jg (.k (.int .i64 100)))]) QF5) (.seq (.run [.m 51 aJ, .o 52 (.aj bM 0), .o 53 (.load jj false 1),(.c 54 eI [ji,iT,(.k (.slice .full 0 []))])]) (.seq QF8 .ret))
abbrev QFC:AC:= .seq (.seq (.run [.o 11 (.aj bM 10), .o 12 (.load bV false 1), .o 13 (.len cb), .o 14 (.mv (.k (.int .i64 0)))]) (.block 0 (.loop QEW))) QFB
abbrev QFE:AC:= .seq (.run [.o 3 (.box a8), .o 4 (.mv (.k (.int .i64 0)))]) (.seq (.run [.o 5 (.mv (.k (.slice .full 0 [])))]) QFC)
abbrev QFK:AC:= .seq (.run [.m 10 aJ, .o 11 (.aj bM 0), .o 12 (.load bV false 1),(.c 13 eI [bD,cb,(.k (.slice .full 0 []))])]) (.seq (.run [.o 4 (.mv (.k (.int .i64 0)))]) .ret)
abbrev QFU:AC:= .seq (.seq (.run [.m 21 bY]) (.cond dD (.run [.m 22 aJ, .o 23 (.aj bM 0), .o 24 (.load dH false 1), .m 25 bl, .o 26 (.cf [(.int .i64 0)] 1 1 [(0,dm)]), .c 27 eI [dM,di,dZ]]) .skip)) (.seq (.run [.m 28 bl, .m 4 eR]) .ret)
abbrev QFX:AC:= .seq (.run [.o 3 (.box a8), .o 4 (.mv (.k (.int .i64 0)))]) (.seq (.seq (.run [.o 7 (.aj bM 9), .o 8 (.load bX false 1), .o 9 (.un .not bW)]) (.cond cy QFK .skip)) (.seq (.run [.m 15 aJ, .o 16 (.aj bM 5), .o 17 (.load ct true 4), .c 18 ki [cz,cZ], .m 14 cU, .o 19 (.ext bN 0), .o 20 (.ext bN 1), .m 5 dh, .m 6 dw]) QFU))
abbrev QG3:AC:= .par [.m 21 aJ, .o 22 (.br dD), .o 23 (.aj dM 0), .o 24 (.load dH false 1), .o 25 (.br di), .o 26 (.aj dm 2), .o 27 (.load dZ false 1), .o 28 (.aj bM 16), .o 29 (.load eR false 1), .o 30 (.bin .sub eN (.k (.int .i64 1))), .o 31 (.cr eg eX 17), .o 32 (.aj eY 15), .o 33 (.load fe false 1), .m 4 eZ] [(0,0),(1,0),(2,0),(3,0),(4,0),(5,0),(6,0),(7,0),(8,0),(9,0),(10,0),(11,0),(12,0),(13,0)]
abbrev QGD:AC:= .par [.m 49 aJ, .o 50 (.br iK), .o 51 (.aj jK 0), .o 52 (.load ji false 1), .o 53 (.aj bM 13), .o 54 (.load iT false 1), .o 55 (.aj bl 3), .o 56 (.load jM false 1), .c 57 oR [jj,jL,k9], .m 48 lS, .o 58 (.ext iE 0), .o 59 (.ext iE 1), .m 6 lJ, .m 7 kK] [(0,0),(1,0),(2,0),(3,0),(4,0),(5,0),(6,0),(7,0),(8,0),(9,0),(10,0),(11,0),(12,0),(13,0)]
abbrev QGJ:AC:= .par [.m 63 aJ, .o 64 (.br n9), .o 65 (.aj px 6), .o 66 (.aj qO 2), .o 67 (.load rQ false 1), .m 68 aJ, .o 69 (.br qP), .o 70 (.aj sC 2), .o 71 (.load rS false 1), .o 72 (.len vL), .o 73 (.bin .geq rR uk)] [(0,0),(1,0),(2,0),(3,0),(4,0),(5,0),(6,0),(7,0),(8,0),(9,0),(10,0)]
abbrev QGM:AC:= .seq (.run [(.o 4 (.mv (.k (.int .i64 (-1)))))]) .ret
abbrev QGO:AC:= .cond um (.seq (.run [.m 74 aJ, .o 75 (.br vM), .o 76 (.aj vN 6), .o 77 (.aj uq 0), .op none none (.store vO (.k (.int .i64 3)) 1)]) QGM) .skip
abbrev QGQ:AC:= .par [.m 78 aJ, .o 79 (.br ur), .o 80 (.aj zz 2), .o 81 (.load zA false 1), .m 82 aJ, .o 83 (.br Bz), .o 84 (.aj BA 6), .o 85 (.aj BB 2), .o 86 (.load BD false 1), .o 87 (.cr zB BE 1), .o 88 (.load BF false 1), .m 8 BG] [(0,0),(1,0),(2,0),(3,0),(4,0),(5,0),(6,0),(7,0),(8,0),(9,0),(10,0),(11,0)]
abbrev QGY:AC:= .seq (.run [.m 89 aJ, .o 90 (.br xG), .o 91 (.aj zC 6), .o 92 (.aj BH 2), .o 93 (.load DW false 1), .o 94 (.bin .add Gq (.k (.int .i64 1))), .o 95 (.br xG), .o 96 (.aj Gs 6), .o 97 (.aj KB 2), .op none none (.store KD Gr 1)]) (.seq (.run [.m 98 aJ, .o 99 (.aj bl 3), .o 100 (.load KF false 1), .c 101 iQ [KE,EN], .m 102 bW, .o 103 (.br EO), .op none none (.store ER EP 1)]) (.seq (.run [.m 104 aJ, .o 105 (.aj bl 0), .o 106 (.load ET false 1), .m 107 bW, .o 108 (.cf [(.int .i64 0)] 1 1 [(0,EV)]), .c 109 eI [ES,EU,EW]]) (.seq (.run [.o 110 (.aj bM 15), .o 111 (.load EX false 1), .m 4 EY]) .ret)))
abbrev QH3:AC:= .cond gX (.seq (.run [.m 44 aJ, .o 45 (.aj bl 0), .o 46 (.load jg false 1),(.c 47 eI [iJ,jh,(.k (.slice .full 0 []))])]) (.seq QGD (.seq (.run [.m 60 bY, .m 4 nz]) .ret))) (.seq (.run [.o 62 (.bin .eql bN (.k (.int .i64 2))), .m 61 n8]) (.cond n7 (.seq (.seq QGJ QGO) (.seq QGQ QGY)) .skip))
abbrev QH5:AC:= .cond fm (.seq (.run [.m 36 aJ, .o 37 (.aj bl 0), .o 38 (.load fI false 1),(.c 39 eI [fp,fV,(.k (.slice .full 0 []))])]) (.seq (.run [.o 40 (.aj bM 16), .o 41 (.load gk false 1), .m 4 gf]) .ret)) (.seq (.run [.o 43 (.bin .eql bN (.k (.int .i64 10))), .m 42 gL]) QH3)
abbrev QH7:AC:= .cond cz (.seq (.run [.m 17 aJ, .o 18 (.aj bl 0), .o 19 (.load cU false 1),(.c 20 eI [cZ,dh,(.k (.slice .full 0 []))])]) (.seq QG3 .ret)) (.seq (.run [.o 35 (.bin .eql bN (.k (.int .i64 8))), .m 34 ff]) QH5)
abbrev QH9:AC:= .block 0 (.seq (.run [.o 16 (.bin .eql bN (.k (.int .i64 7))), .m 15 ct]) QH7)
abbrev QHE:AC:= .seq (.run [(.o 4 (.mv (.k (.int .i64 (-1)))))]) .ret
abbrev QHV:AC:= .seq (.seq (.run [.m 153 cy, .o 154 (.bin .neq Y0 (.k (.int .i64 0)))]) (.cond Y1 (.seq (.run [.o 155 (.aj bl 11), .o 156 (.load Y2 false 1), .o 157 (.aj bM 15), .o 158 (.load Y4 false 1), .c 159 qk [Y3,Y5], .m 4 Y6]) .ret) .skip)) (.seq (.run [.o 160 (.aj bl 12), .o 161 (.load Y7 false 1), .o 162 (.aj bM 15), .o 163 (.load Y9 false 1), .c 164 qk [Y8,Za], .m 4 Zb]) .ret)
abbrev QI2:AC:= .cond Zc (.seq (.run [.m 167 cy, .o 168 (.bin .neq Ze (.k (.int .i64 0)))]) (.cond Zf (.seq (.run [.o 169 (.aj bl 11), .o 170 (.load Zg false 1), .o 171 (.aj bl 0), .o 172 (.load Zi false 1), .c 173 qk [Zh,Zj], .m 4 Zk]) .ret) .skip)) .skip
abbrev QI4:AC:= .cond QN QHV (.seq (.run [.o 166 (.bin .eql zD (.k (.int .i64 6))), .m 165 Zd]) QI2)
abbrev QI6:AC:= .cond QB (.run [.m 139 aJ, .m 140 aJ, .o 141 (.br QE), .o 142 (.aj QF 6), .o 143 (.aj QG 3), .o 144 (.load Ja false 1), .m 145 cy, .o 146 (.cf [(.int .i64 0)] 1 1 [(0,E3)]), .o 147 (.app 1 8 QH QI), .o 148 (.br QD), .o 149 (.aj QK 6), .o 150 (.aj QL 3), .op none none (.store QM QJ 1)]) (.seq (.run [.o 152 (.bin .eql zD (.k (.int .i64 5))), .m 151 YZ]) QI4)
abbrev QI8:AC:= .cond I7 (.run [.m 131 aJ, .o 132 (.aj bl 3), .o 133 (.load I9 false 1), .c 134 iQ [Qw,Qx], .m 135 cy, .o 136 (.br Qy), .op none none (.store QA Qz 1)]) (.seq (.run [.o 138 (.bin .eql zD (.k (.int .i64 3))), .m 137 QC]) QI6)
abbrev QIA:AC:= .block 1 (.seq (.run [.o 130 (.bin .eql zD (.k (.int .i64 1))), .m 129 I8]) QI8)
abbrev QIG:AC:= .seq (.seq (.run [.m 119 bD, .o 120 (.un .not IZ)]) (.cond I0 QHE .skip)) (.seq (.run [.m 121 aJ, .o 122 (.aj bl 0), .o 123 (.load I2 false 1), .m 124 cy, .o 125 (.cf [(.int .i64 0)] 1 1 [(0,I4)]), .c 126 eI [I1,I3,I5]]) (.seq (.seq (.run [.o 127 (.aj bl 1), .o 128 (.load I6 false 1)]) QIA) (.seq (.run [.o 174 (.aj bM 15), .o 175 (.load Zl false 1), .m 4 Zm]) .ret)))
abbrev QIK:AC:= .seq (.run [.o 3 (.box a8), .o 4 (.mv (.k (.int .i64 0)))]) (.seq (.run [.o 11 (.aj bM 0), .o 12 (.load bV true 13), .o 5 (.alloc [(.int .i64 0),(.int .i64 0),(.slice .full 0 []),(.str []),(.str []),(.int .i64 0),(.int .i64 0),(.str []),(.slice .full 0 []),(.bool false),(.slice .full 0 []),(.slice .full 0 []),(.slice .full 0 [])]), .op none none (.store bl cb 13)]) (.seq (.seq (.run [.o 13 (.aj bl 1), .o 14 (.load bT false 1)]) QH9) (.seq (.run [.m 113 aJ, .o 114 (.aj bl 5), .o 115 (.load E0 true 4), .c 116 ki [EZ,E1], .m 112 E2, .o 117 (.ext Cw 0), .o 118 (.ext Cw 1), .m 9 IX, .m 10 IY]) QIG)))
abbrev QIN:AC:= .par [.m 12 aJ, .m 13 aJ, .o 14 (.br bT), .o 15 (.aj bN 4), .o 16 (.load cz false 1), .m 17 aJ, .o 18 (.br cZ), .o 19 (.aj cU 4), .o 20 (.load dh false 1), .o 21 (.len dw), .o 22 (.bin .sub dD (.k (.int .i64 1))), .o 23 (.En 1 ct none (some dM)), .o 24 (.br cb), .o 25 (.aj di 4), .op none none (.store dm dH 1)] [(0,0),(1,0),(2,0),(3,0),(4,0),(5,0),(6,0),(7,0),(8,0),(9,0),(10,0),(11,0),(12,0),(13,0),(14,0)]
abbrev QIR:AC:= .seq (.run [(.o 4 (.mv (.k (.int .i64 (-1)))))]) .ret
abbrev QIT:AC:= .cond eg (.seq (.run [.m 28 aJ, .o 29 (.br eR), .o 30 (.aj eN 6), .o 31 (.aj eX 0), .op none none (.store eY (.k (.int .i64 1)) 1)]) QIR) .skip
abbrev QJ2:AC:= .seq (.seq (.run [.o 43 (.aj bY 0), .o 44 (.aj gL 3), .o 45 (.load iJ false 1), .o 46 (.bin .neq jg (.k (.str [])))]) (.cond jh (.run [.m 47 aJ, .o 48 (.aj bY 0), .o 49 (.aj iE 3), .o 50 (.load iK false 1), .c 51 iQ [jJ,jK], .m 52 a8, .o 53 (.br ji), .op none none (.store iT jj 1)]) .skip)) (.seq (.run [.o 54 (.aj bY 15), .o 55 (.load jL false 1), .m 4 jM]) .ret)
abbrev QJ4:AC:= .seq (.seq (.run [.m 26 bl, .o 27 (.bin .eql dZ (.k (.int .i64 0)))]) QIT) (.seq (.run [.m 32 aJ, .o 33 (.br fe), .o 34 (.aj eZ 0), .o 35 (.load fm false 1), .o 36 (.br ff), .o 37 (.aj fp 2), .o 38 (.load fI false 1), .m 39 bl, .o 40 (.bin .sub fO (.k (.int .i64 1))), .o 41 (.cr fV gk 17), .o 42 (.load gf true 17), .o 6 (.alloc [(.int .i64 0),(.int .i64 0),(.slice .full 0 []),(.str []),(.str []),(.int .i64 0),(.int .i64 0),(.str []),(.slice .full 0 []),(.bool false),(.slice .full 0 []),(.slice .full 0 []),(.slice .full 0 []),(.int .i64 0),(.int .i64 0),(.int .i64 0),(.int .i64 0)]), .op none none (.store bY gX 17)]) QJ2)
abbrev QJ7:AC:= .seq (.run [.o 4 (.mv (.k (.int .i64 0)))]) (.seq (.run [.m 7 aJ, .c 8 kX [bX], .o 9 (.br bW), .o 10 (.aj cy 3), .o 11 (.load bD false 1), .m 5 bV]) (.seq QIN QJ4))
abbrev QJB:AC:= .par [.o 16 (.build [(.slice .full 0 []),(.slice .full 0 [])] []), .o 17 (.load bl true 2), .op none none (.store cY ct 2), .op none none (.store bM cZ 2)] [(0,0),(2,0),(1,1),(3,0)]
abbrev QJI:AC:= .par [.o 29 (.build [(.slice .full 0 []),(.slice .full 0 [])] []), .m 30 bY, .o 31 (.br eX), .o 32 (.aj eY 2), .o 33 (.load fe true 2), .op none none (.store cY eN 2), .op none none (.store bM eZ 2)] [(0,0),(5,0),(1,0),(2,0),(3,0),(4,1),(6,0)]
abbrev QJO:AC:= .seq (.seq (.run [.m 23 bY, .o 24 (.br dH), .o 25 (.aj di 2), .o 26 (.aj dm 0), .o 27 (.load dZ false 1), .o 28 (.bin .neq eg (.k (.int .i64 0)))]) (.cond eR (.seq QJI .ret) .skip)) (.seq (.run [.o 34 (.load bX true 2), .c 35 qA [fm], .o 36 (.build [(.int .i64 0),(.int .i64 0)] []), .op none none (.store cY ff 2), .op none none (.store bM fp 2)]) .ret)
abbrev QJR:AC:= .seq (.seq (.run [.o 13 (.aj bl 0), .o 14 (.load bT false 1), .o 15 (.bin .neq bN (.k (.int .i64 0)))]) (.cond cz (.seq QJB .ret) .skip)) (.seq (.run [.m 18 dE, .o 19 (.build [(.slice .full 0 []),(.int .i64 0),(.int .i64 0),(.int .i64 0),(.int .i64 0)] [(0,(1,cU))]), .o 20 (.box dh), .m 6 dw]) (.seq (.run [.m 21 bY, .c 22 mD [dD], .o 7 (.alloc [(.slice .full 0 []),(.slice .full 0 [])]), .op none none (.store bX dM 2)]) QJO))
abbrev QJT:AC:= .seq (.run [.o 2 (.alloc [(.slice .full 0 []),(.slice .full 0 [])]), .o 3 (.alloc [(.int .i64 0),(.int .i64 0)])]) (.seq (.run [.m 9 aJ, .c 10 Bv [cy], .m 8 bD, .o 11 (.ext bW 0), .o 12 (.ext bW 1), .o 5 (.alloc [(.int .i64 0),(.int .i64 0)]), .m 4 bV, .op none none (.store bl cb 2)]) QJR)
theorem E5:Has Tryz.prog ub 31 [(4,none)] Q63:=⟨Tryz.f38,by kernel_rfl,by kernel_rfl⟩
theorem uJ:Has Tryz.prog rG 42 [(4,none)] Q6W:=⟨Tryz.f39,by kernel_rfl,by kernel_rfl⟩
set_option maxRecDepth 20000 in
theorem ov : Has Tryz.prog sX 26 [(2, (some (true, 2)))] Q7N := ⟨Tryz.f40, by kernel_rfl, by kernel_rfl⟩
theorem KH:Has Tryz.prog rH 79 [(2,none)] Q97:=⟨Tryz.f42,by kernel_rfl,by kernel_rfl⟩
theorem E6:Has Tryz.prog qA 47 [(2,(some (true,2)))] Q9Y:=⟨Tryz.f43,by kernel_rfl,by kernel_rfl⟩
theorem lT:Has Tryz.prog fi 8 [(2,none)] QA8:=⟨Tryz.f44,by kernel_rfl,by kernel_rfl⟩
theorem Iv:Has Tryz.prog sY 23 [(2,none)] QAT:=⟨Tryz.f45,by kernel_rfl,by kernel_rfl⟩
theorem DX:Has Tryz.prog np 5 [(2,none)] QAX:=⟨Tryz.f46,by kernel_rfl,by kernel_rfl⟩
theorem oA:Has Tryz.prog lk 92 [(6,none),(7,none)] QCL:=⟨Tryz.f47,by kernel_rfl,by kernel_rfl⟩
theorem KI:Has Tryz.prog k7 55 [(2,none)] QDA:=⟨Tryz.f48,by kernel_rfl,by kernel_rfl⟩
set_option maxRecDepth 20000 in
theorem zE : Has Tryz.prog jq 82 [(8, none)] QDZ := ⟨Tryz.f49, by kernel_rfl, by kernel_rfl⟩
theorem AL:Has Tryz.prog iI 12 [(4,none)] QE3:=⟨Tryz.f50,by kernel_rfl,by kernel_rfl⟩
set_option maxRecDepth 20000 in
theorem zF : Has Tryz.prog ph 67 [(4, none)] QFE := ⟨Tryz.f51, by kernel_rfl, by kernel_rfl⟩
set_option maxRecDepth 20000 in
theorem yp : Has Tryz.prog oH 29 [(4, none)] QFX := ⟨Tryz.f52, by kernel_rfl, by kernel_rfl⟩
set_option maxRecDepth 20000 in
theorem iw : Has Tryz.prog qN 176 [(4, none)] QIK := ⟨Tryz.f53, by kernel_rfl, by kernel_rfl⟩
set_option maxRecDepth 20000 in
theorem q5 : Has Tryz.prog oI 56 [(4, none)] QJ7 := ⟨Tryz.f54, by kernel_rfl, by kernel_rfl⟩
theorem E7:Has Tryz.prog uc 37 [(2,(some (true,2))),(3,(some (true,2)))] QJT:=⟨Tryz.f55,by kernel_rfl,by kernel_rfl⟩
end Go.Abs
