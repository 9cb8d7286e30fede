/-
  What is proved here: part 1 of the road to the claim (Frame, Frame2, Walk, Par, Par1, Par2, Par3, Step, Wp, Types, SelA, Lend, Sym, Frz, WpA, Mir, MirTree, Cnt, MirFlat, Nums, Codes0, Have0).
  No conditions.
-/
import Derived.Test.YtpjadlleefgcpaaGreatRnB0
import Derived.Attr
import Derived.Test.YtpjadlleefgcpaaGreatProg
import Derived.KernelRfl

set_option linter.unusedSimpArgs false
set_option linter.unusedVariables false
namespace Go.Abs
def Tag.ok (m:Nat):Tag→Bool
 | .tok t _=>decide (t<m)
 |_=>true
def Tag.cW (ts:List Nat):Tag→Tag
 | .tok t y=>match ts[t]? with|some t'=> .tok t' y|none=> .shared
 |g=>g
mutual
def D.ok (n m:Nat):D→Bool
 | .ptr o _=>decide (o<n)
 | .dB row _=>D.bK n m row
 | .slice g _ rows=>g.ok m && D.gU n m rows
 | .agg cs=>D.bK n m cs
 | .tuple ds=>D.bK n m ds
 | .fv _ o=>decide (o<n)
 | .gh _ cs=>D.bK n m cs
 | .fR o=>decide (o<n)
 | .eA _ o _ _=>decide (o<n)
 | .fw o _ _=>decide (o<n)
 |_=>true
def D.bK (n m:Nat):List D→Bool
 | []=>true
 |d::r=>D.ok n m d && D.bK n m r
def D.gU (n m:Nat):List (List D)→Bool
 | []=>true
 |d::r=>D.bK n m d && D.gU n m r
end
mutual
def D.cW (os ts:List Nat):D→D
 | .ptr o off=>match os[o]? with|some o'=> .ptr o' off|none=> .junk
 | .dB row off=> .dB (D.e9 os ts row) off
 | .slice g z rows=> .slice (g.cW ts) z (D.nX os ts rows)
 | .agg cs=> .agg (D.e9 os ts cs)
 | .tuple ds=> .tuple (D.e9 os ts ds)
 | .junk=> .junk
 | .int k x=> .int k x
 | .bool b=> .bool b
 | .str l=> .str l
 | .dS=> .dS
 | .val v=> .val v
 | .fv T o=>match os[o]? with|some o'=> .fv T o'|none=> .junk
 | .gh f cs=> .gh f (D.e9 os ts cs)
 | .fR o=>match os[o]? with|some o'=> .fR o'|none=> .junk
 | .eA z o g len=>match os[o]? with|some o'=> .eA z o' g len|none=> .junk
 | .fw o g off=>match os[o]? with|some o'=> .fw o' g off|none=> .junk
 | .ep z=> .ep z
def D.e9 (os ts:List Nat):List D→List D
 | []=> []
 |d::r=>D.cW os ts d::D.e9 os ts r
def D.nX (os ts:List Nat):List (List D)→List (List D)
 | []=> []
 |d::r=>D.e9 os ts d::D.nX os ts r
end
theorem fP (os ts:List Nat) : ∀ l,D.e9 os ts l=l.map (D.cW os ts)
 | []=>by simp[D.e9]
 |d::r=>by simp[D.e9,fP os ts r]
theorem Ce (os ts:List Nat) : ∀ l,D.nX os ts l=l.map (D.e9 os ts)
 | []=>by simp[D.nX]
 |d::r=>by simp[D.nX,Ce os ts r]
theorem yi (n m:Nat) : ∀ l,D.bK n m l=l.all (D.ok n m)
 | []=>by simp[D.bK]
 |d::r=>by simp[D.bK,yi n m r]
theorem Ek (n m:Nat) : ∀ l,D.gU n m l=l.all (D.bK n m)
 | []=>by simp[D.gU]
 |d::r=>by simp[D.gU,Ek n m r]
theorem vq {n m:Nat} {l:List D} (h:D.bK n m l=true) {i:Nat} {d:D} (e:l[i]? = some d):D.ok n m d=true:=by
 rw[yi]at h;exact List.all_eq_true.1 h d (List.mem_of_getElem? e)
theorem Yw {n m:Nat} {l:List (List D)} (h:D.gU n m l=true) {i:Nat} {d:List D} (e:l[i]? = some d):D.bK n m d=true:=by
 rw[Ek]at h;exact List.all_eq_true.1 h d (List.mem_of_getElem? e)
section
variable {M M0:Map} {s s0:St} {os ts:List Nat}
theorem iQ.Cf (kO : ∀ (i:Nat) t,ts[i]? = some t→M0.be i=M.be t) (ht : ∀ (i t:Nat),ts[i]? = some t→s0.aw[i]? = s.aw[t]?) (hlen:s0.aw.length=ts.length) {g:Tag} {z len cap:Nat} {base:Option (Nat×Nat)} (pM:g.ok ts.length=true) (h:iQ M s (g.cW ts) z len base cap):iQ M0 s0 g z len base cap:=by
 cases g with
 |full=>exact h
 |shared=>exact h
 |tok t y=>
  have hD:t<ts.length:=by simpa[Tag.ok]using pM
  have e:ts[t]? = some ts[t]:=List.getElem?_eq_getElem hD
  simp only[Tag.cW,e]at h
  obtain⟨h1,h2⟩:=h
  refine⟨by omega,fun n hn=>?_⟩
  rw[ht t _ e]at hn
  rw[kO t _ e]
  exact h2 n hn
theorem RD.Cf (hG:M0.G=M.G) (jo : ∀ (i:Nat) o,os[i]? = some o→M0.loc i=M.loc o) (jl:s0.ah.length=os.length)
 (kO : ∀ (i:Nat) t,ts[i]? = some t→M0.be i=M.be t) (ht : ∀ (i t:Nat),ts[i]? = some t→s0.aw[i]? = s.aw[t]?) (hlen:s0.aw.length=ts.length) {d:D} {v:Value} (h:RD M s d v) :
 ∀ d0:D,d0.cW os ts=d→d0.ok os.length ts.length=true→RD M0 s0 d0 v:=by
 have mY : ∀ (i:Nat) o,os[i]? = some o→M0.mu i=M.mu o:=fun i o h=>congrArg Prod.fst (jo i o h)
 have tag:=fun {g z len cap base}=>@iQ.Cf M M0 s s0 ts kO ht hlen g z len cap base
 induction h with
 | junk v=>
  intro d0 e ok
  cases d0<;>simp only[D.cW]at e<;>try (cases e;done)
  ·exact .junk v
  ·rename_i o off
   have hD:o<os.length:=by simpa[D.ok]using ok
   rw[List.getElem?_eq_getElem hD]at e;cases e
  ·rename_i T o
   have hD:o<os.length:=by simpa[D.ok]using ok
   rw[List.getElem?_eq_getElem hD]at e;cases e
  ·rename_i o
   have hD:o<os.length:=by simpa[D.ok]using ok
   rw[List.getElem?_eq_getElem hD]at e;cases e
  ·rename_i z o g len
   have hD:o<os.length:=by simpa[D.ok]using ok
   rw[List.getElem?_eq_getElem hD]at e;cases e
  ·rename_i o g off
   have hD:o<os.length:=by simpa[D.ok]using ok
   rw[List.getElem?_eq_getElem hD]at e;cases e
 |ep z a=>intro d0 e ok;cases d0<;>simp only[D.cW]at e<;>first|(cases e;exact .ep _ _)|(split at e<;>cases e)|cases e
 |eA z o g len b cap A ho hm ha hl=>
  intro d0 e ok
  cases d0<;>simp only[D.cW]at e<;>first|(cases e;done)|skip
  all_goals try (split at e<;>cases e;done)
  rename_i z0 o0 g0 Nn
  have hD:o0<os.length:=by simpa[D.ok]using ok
  rw[List.getElem?_eq_getElem hD]at e
  cases e
  exact RD.eA (s:=s0) z o0 g len b cap A (by omega) ((congrArg Prod.snd (jo o0 _ (List.getElem?_eq_getElem hD))).trans hm) ha hl
 |fw z o g off b cap A ho hm ha=>
  intro d0 e ok
  cases d0<;>simp only[D.cW]at e<;>first|(cases e;done)|skip
  all_goals try (split at e<;>cases e;done)
  rename_i o0 g0 TJ
  have hD:o0<os.length:=by simpa[D.ok]using ok
  rw[List.getElem?_eq_getElem hD]at e
  cases e
  exact RD.fw (s:=s0) z o0 g off b cap A (by omega) ((congrArg Prod.snd (jo o0 _ (List.getElem?_eq_getElem hD))).trans hm) ha
 |val v hv=>intro d0 e ok;cases d0<;>simp only[D.cW]at e<;>first|(cases e;exact .val _ hv)|(split at e<;>cases e)|cases e
 |fv T o v ho ht hv=>
  intro d0 e ok
  cases d0<;>simp only[D.cW]at e<;>first|(split at e<;>cases e;done)|skip
  all_goals try (cases e;done)
  rename_i T0 o0
  have hD:o0<os.length:=by simpa[D.ok]using ok
  rw[List.getElem?_eq_getElem hD]at e
  cases e
  have hl:=jo o0 _ (List.getElem?_eq_getElem hD)
  exact .fv _ o0 v (by omega) ((congrArg (fun x=>x.2.ty?) hl).trans ht) (by rw[mY o0 _ (List.getElem?_eq_getElem hD)];exact hv)
 |int k x=>intro d0 e ok;cases d0<;>simp only[D.cW]at e<;>first|(cases e;exact .int _ _)|(split at e<;>cases e)|cases e
 |bool b=>intro d0 e ok;cases d0<;>simp only[D.cW]at e<;>first|(cases e;exact .bool _)|(split at e<;>cases e)|cases e
 |str l=>intro d0 e ok;cases d0<;>simp only[D.cW]at e<;>first|(cases e;exact .str _)|(split at e<;>cases e)|cases e
 |dS=>intro d0 e ok;cases d0<;>simp only[D.cW]at e<;>first|(cases e;exact .dS)|(split at e<;>cases e)|cases e
 |fR o ho hm=>
  intro d0 e ok
  cases d0<;>simp only[D.cW]at e<;>first|(cases e;done)|skip
  all_goals try (split at e<;>cases e;done)
  rename_i o0
  have hD:o0<os.length:=by simpa[D.ok]using ok
  rw[List.getElem?_eq_getElem hD]at e
  cases e
  rw[← mY o0 _ (List.getElem?_eq_getElem hD)]
  exact RD.fR (s:=s0) o0 (by omega) ((congrArg Prod.snd (jo o0 _ (List.getElem?_eq_getElem hD))).trans hm)
 |gh f ds vs hl _ ih=>
  intro d0 e ok
  cases d0<;>simp only[D.cW]at e<;>first|(split at e<;>cases e;done)|skip
  all_goals try (cases e;done)
  rename_i f0 QH
  simp only[D.gh.injEq]at e
  obtain⟨rfl,rfl⟩:=e
  simp only[D.ok]at ok
  rw[fP]at hl ih
  refine .gh _ QH vs (by simpa using hl) (fun i d v e1 e2=>ih i _ v (by rw[List.getElem?_map,e1];rfl) e2 d rfl (vq ok e1))
 |ptr o off ho hm=>
  intro d0 e ok
  cases d0<;>simp only[D.cW]at e<;>first|(cases e;done)|skip
  all_goals try (split at e<;>cases e;done)
  rename_i o0 TJ
  have hD:o0<os.length:=by simpa[D.ok]using ok
  rw[List.getElem?_eq_getElem hD]at e
  cases e
  rw[← mY o0 _ (List.getElem?_eq_getElem hD)]
  exact RD.ptr (s:=s0) o0 _ (by omega) (by rw[show M0.ob o0=_ from congrArg Prod.snd (jo o0 _ (List.getElem?_eq_getElem hD))];exact hm)
 |dB row off b k h1 h2 ih=>
  intro d0 e ok
  cases d0<;>simp only[D.cW]at e<;>first|(split at e<;>cases e;done)|skip
  all_goals try (cases e;done)
  rename_i ajB TJ
  simp only[D.dB.injEq]at e
  obtain⟨rfl,rfl⟩:=e
  simp only[D.ok]at ok
  rw[fP]at h1 ih
  refine .dB ajB TJ b k (fun i d e=>?_) (fun i d u e eu=>?_)
  ·rw[hG];exact h1 i _ (by rw[List.getElem?_map,e];rfl)
  ·rw[hG]at eu;exact ih i _ u (by rw[List.getElem?_map,e];rfl) eu d rfl (vq ok e)
 |iO g z cap hc pN=>
  intro d0 e ok
  cases d0<;>simp only[D.cW]at e<;>first|(split at e<;>cases e;done)|skip
  all_goals try (cases e;done)
  rename_i g0 z0 ko
  simp only[D.slice.injEq]at e
  obtain⟨rfl,rfl,e⟩:=e
  have:ko = []:=by cases ko<;>simp[D.nX]at e;rfl
  subst this
  simp only[D.ok,Bool.and_eq_true]at ok
  exact .iO g0 z0 cap hc (tag ok.1 pN)
 | lD z a cap=>
  intro d0 e ok
  cases d0<;>simp only[D.cW]at e<;>first|(split at e<;>cases e;done)|skip
  all_goals try (cases e;done)
  rename_i g0 z0 ko
  simp only[D.slice.injEq]at e
  obtain⟨hg,rfl,e⟩:=e
  have:ko = []:=by cases ko<;>simp[D.nX]at e;rfl
  subst this
  simp only[D.ok,Bool.and_eq_true]at ok
  have:g0 = .shared:=by
   cases g0 with
   |tok t y=>
    have ht:t<ts.length:=by simpa[Tag.ok]using ok.1
    simp[Tag.cW,ht]at hg
   |shared=>rfl
   |_=>simp[Tag.cW]at hg
  subst this
  exact .lD _ a cap
 | slice g z rows b k cap hl hs h1 h2 pN ih=>
  intro d0 e ok
  cases d0<;>simp only[D.cW]at e<;>first|(split at e<;>cases e;done)|skip
  all_goals try (cases e;done)
  rename_i g0 z0 ko
  simp only[D.slice.injEq]at e
  obtain⟨rfl,rfl,rfl⟩:=e
  simp only[D.ok,Bool.and_eq_true]at ok
  rw[Ce]at hl hs h1 ih pN
  simp only[Ce,List.length_map]at hl pN ⊢
  have ei : ∀ (i:Nat) (row:List D),ko[i]? = some row→(ko.map (D.e9 os ts))[i]? = some (D.e9 os ts row):=fun i row e=>by rw[List.getElem?_map,e];rfl
  have iI : ∀ (row:List D) (j:Nat) (d:D),row[j]? = some d→(D.e9 os ts row)[j]? = some (D.cW os ts d):=fun row j d e=>by rw[fP,List.getElem?_map,e];rfl
  refine .slice g0 z0 ko b k cap hl (fun row hr=>?_) (fun i row j d e1 e2=>?_) (fun i row j d u e1 e2 eu=>?_) (tag ok.1 pN)
  ·have:=hs (D.e9 os ts row) (List.mem_map.2 ⟨row,hr,rfl⟩)
   rwa [fP,List.length_map]at this
  ·rw[hG];exact h1 i _ j _ (ei i row e1) (iI row j d e2)
  ·rw[hG]at eu;exact ih i _ j _ u (ei i row e1) (iI row j d e2) eu d rfl (vq (Yw ok.2 e1) e2)
 |agg cells vs hl h1 _ ih=>
  intro d0 e ok
  cases d0<;>simp only[D.cW]at e<;>first|(split at e<;>cases e;done)|skip
  all_goals try (cases e;done)
  rename_i QH
  simp only[D.agg.injEq]at e
  subst e
  simp only[D.ok]at ok
  rw[fP]at hl ih
  refine .agg QH vs (by simpa using hl) h1 (fun i d v e1 e2=>ih i _ v (by rw[List.getElem?_map,e1];rfl) e2 d rfl (vq ok e1))
 |tuple ds vs hl _ ih=>
  intro d0 e ok
  cases d0<;>simp only[D.cW]at e<;>first|(split at e<;>cases e;done)|skip
  all_goals try (cases e;done)
  rename_i QH
  simp only[D.tuple.injEq]at e
  subst e
  simp only[D.ok]at ok
  rw[fP]at hl ih
  refine .tuple QH vs (by simpa using hl) (fun i d v e1 e2=>ih i _ v (by rw[List.getElem?_map,e1];rfl) e2 d rfl (vq ok e1))
theorem RD.cW (hG:M0.G=M.G) (jo : ∀ i,i<s0.ah.length→∃ o,os[i]? = some o∧o<s.ah.length∧M.loc o=M0.loc i)
 (kO : ∀ i,i<s0.aw.length→∃ t,ts[i]? = some t∧t<s.aw.length∧s.aw[t]? = s0.aw[i]? ∧M.be t=M0.be i) {d:D} {v:Value} (h:RD M0 s0 d v):RD M s (d.cW os ts) v:=by
 have tag : ∀ {g:Tag} {z len cap:Nat} {base:Option (Nat×Nat)},iQ M0 s0 g z len base cap→iQ M s (g.cW ts) z len base cap:=by
  intro g z len cap base h
  cases g with
  |full=>exact h
  |shared=>exact h
  |tok t y=>
   obtain⟨h1,h2⟩:=h
   obtain⟨t',e,hD,IU,hb⟩:=kO t h1
   simp only[Tag.cW,e]
   refine⟨hD,fun n hn=>?_⟩
   rw[hb]
   exact h2 n (IU ▸ hn)
 induction h with
 |junk v=>simp only[D.cW];exact .junk v
 |int k x=>simp only[D.cW];exact .int k x
 |bool b=>simp only[D.cW];exact .bool b
 |str l=>simp only[D.cW];exact .str l
 |dS=>simp only[D.cW];exact .dS
 |ptr o off ho hk=>
  obtain⟨o',e,hD,hm⟩:=jo o ho
  simp only[D.cW,e]
  have hb:M.ob o'=M0.ob o:=congrArg Prod.snd hm
  have hm:M.mu o'=M0.mu o:=congrArg Prod.fst hm
  rw[← hm]
  exact .ptr o' off hD (by rw[hb];exact hk)
 |fR o ho hk=>
  obtain⟨o',e,hD,hm⟩:=jo o ho
  simp only[D.cW,e]
  have hb:M.ob o'=M0.ob o:=congrArg Prod.snd hm
  have hm:M.mu o'=M0.mu o:=congrArg Prod.fst hm
  rw[← hm]
  exact .fR o' hD (by rw[hb];exact hk)
 |ep z a=>simp only[D.cW];exact .ep z a
 |eA z o g len b cap A ho hk ha hl=>
  obtain⟨o',e,hD,hm⟩:=jo o ho
  simp only[D.cW,e]
  exact .eA z o' g len b cap A hD ((congrArg Prod.snd hm).trans hk) ha hl
 |fw z o g off b cap A ho hk ha=>
  obtain⟨o',e,hD,hm⟩:=jo o ho
  simp only[D.cW,e]
  exact .fw z o' g off b cap A hD ((congrArg Prod.snd hm).trans hk) ha
 |gh f ds vs hl _ ih=>
  simp only[D.cW,fP]
  refine .gh f _ vs (by simpa using hl) (fun i d v e1 e2=>?_)
  simp only[List.getElem?_map,Option.map_eq_some_iff]at e1
  obtain⟨d',e1,rfl⟩:=e1
  exact ih i d' v e1 e2
 |val v hv=>simp only[D.cW];exact .val v hv
 |fv T o v ho ht hv=>
  obtain⟨o',e,hD,hm⟩:=jo o ho
  simp only[D.cW,e]
  have h1:M.mu o'=M0.mu o:=congrArg Prod.fst hm
  have h2:M.ty o'=M0.ty o:=congrArg (fun x=>x.2.ty?) hm
  exact .fv T o' v hD (by rw[h2];exact ht) (by rw[h1];exact hv)
 | dB row off b k h1 h2 ih=>
  simp only[D.cW,fP]
  refine .dB _ off b k (fun i d e=>?_) (fun i d u e eu=>?_)
  ·simp only [List.getElem?_map,Option.map_eq_some_iff]at e
   obtain⟨d',e,rfl⟩:=e
   rw[← hG];exact h1 i d' e
  ·simp only [List.getElem?_map,Option.map_eq_some_iff]at e
   obtain⟨d',e,rfl⟩:=e
   rw[← hG]at eu;exact ih i d' u e eu
 |iO g z cap hc ht=>simp only[D.cW,D.nX];exact .iO _ z cap hc (tag ht)
 |lD z a cap=>simp only[D.cW,D.nX,Tag.cW];exact .lD z a cap
 | slice g z rows b k cap hl hs h1 h2 ht ih=>
  simp only[D.cW,Ce]
  have hlen:(rows.map (D.e9 os ts)).length=rows.length:=by simp
  have key:=RD.slice (M:=M) (s:=s) (g.cW ts) z (rows.map (D.e9 os ts)) b k cap (by rw[hlen];exact hl) (fun row hr=>by
   obtain⟨kv,h',rfl⟩:=List.mem_map.1 hr
   rw[fP,List.length_map];exact hs kv h')
   (fun i row j d e1 e2=>by
    simp only[List.getElem?_map,Option.map_eq_some_iff]at e1
    obtain⟨kv,e1,rfl⟩:=e1
    rw[fP]at e2
    simp only[List.getElem?_map,Option.map_eq_some_iff]at e2
    obtain⟨d',e2,rfl⟩:=e2
    rw[← hG];exact h1 i kv j d' e1 e2)
   (fun i row j d u e1 e2 eu=>by
    simp only[List.getElem?_map,Option.map_eq_some_iff]at e1
    obtain⟨kv,e1,rfl⟩:=e1
    rw[fP]at e2
    simp only[List.getElem?_map,Option.map_eq_some_iff]at e2
    obtain⟨d',e2,rfl⟩:=e2
    rw[← hG]at eu;exact ih i kv j d' u e1 e2 eu)
   (by rw[hlen];exact tag ht)
  rw[hlen]at key
  exact key
 |agg cells vs hl h1 _ ih=>
  simp only[D.cW,fP]
  refine .agg _ vs (by simpa using hl) h1 (fun i d v e1 e2=>?_)
  simp only[List.getElem?_map,Option.map_eq_some_iff]at e1
  obtain⟨d',e1,rfl⟩:=e1
  exact ih i d' v e1 e2
 |tuple ds vs hl _ ih=>
  simp only[D.cW,fP]
  refine .tuple _ vs (by simpa using hl) (fun i d v e1 e2=>?_)
  simp only[List.getElem?_map,Option.map_eq_some_iff]at e1
  obtain⟨d',e1,rfl⟩:=e1
  exact ih i d' v e1 e2
def kH {α:Type} : List Nat→List α→List α→List α
 | [],new,l=>l++new
 |_::_,[],l=>l
 |o::os,x::xs,l=>kH os xs (l.set o x)
def kD (os:List Nat) (n k:Nat):List Nat:=os++(List.range k).map (n + ·)
theorem xl {α:Type} : ∀ (os:List Nat) (xs l:List α),os.length≤xs.length→(kH os xs l).length=l.length+(xs.length - os.length)
 | [],xs,l,_=>by simp[kH]
 |o::os,[],l,h=>by simp at h
 |o::os,x::xs,l,h=>by
  simp only[kH]
  rw[xl os xs _ (by simpa using h)]
  simp
theorem Dv {α:Type} : ∀ (os:List Nat) (xs l:List α),os.length≤xs.length→os.Nodup→(∀ o∈os,o<l.length)→
 (∀ (i:Nat) (o:Nat),os[i]? = some o→(kH os xs l)[o]? = xs[i]?)∧(∀ o,o<l.length→o∉os→(kH os xs l)[o]? = l[o]?)∧
 (∀ k,(kH os xs l)[l.length+k]? = xs[os.length+k]?)
 | [],xs,l,_,_,_=>by
  refine⟨by simp,fun o ho _=>by simp only[kH];rw[List.getElem?_append_left ho],fun k=>by simp only[kH];rw[List.getElem?_append_right (by omega)];simp⟩
 |o::os,[],l,h,_,_=>by simp at h
 | o::os,x::xs,l,h,hn,hD=>by
  simp only[List.nodup_cons]at hn
  have Am : ∀ q∈os,q<(l.set o x).length:=fun q hq=>by simpa using hD q (by simp[hq])
  obtain⟨h1,h2,h3⟩:=Dv os xs (l.set o x) (by simpa using h) hn.2 Am
  have ho:o<l.length:=hD o (by simp)
  simp only[kH]
  refine⟨fun i q e=>?_,fun q hq Bm=>?_,fun k=>?_⟩
  ·cases i with
   |zero=>
    simp only[List.getElem?_cons_zero,Option.some.injEq]at e
    subst e
    rw[h2 o (by simpa using ho) hn.1]
    simp[ho]
   |succ i=>simpa using h1 i q (by simpa using e)
  ·have vl:q≠o:=fun e=>Bm (by simp [e])
   rw[h2 q (by simpa using hq) (fun h=>Bm (by simp[h])),List.getElem?_set_ne (Ne.symm vl)]
  ·have:=h3 k
   simp only[List.length_set]at this
   rw[this]
   simp only[List.length_cons]
   rw[show os.length+1+k=(os.length+k)+1 by omega];simp
theorem C3 (os:List Nat) (n k i:Nat):(kD os n k)[i]? = if i<os.length then os[i]? else if i<os.length+k then some (n+(i - os.length))else none:=by
 unfold kD
 split
 ·rename_i h;rw[List.getElem?_append_left h]
 ·rename_i h
  rw[List.getElem?_append_right (by omega)]
  split
  ·rename_i h2
   rw[List.getElem?_map,List.getElem?_range (by omega)];rfl
  ·rename_i h2
   rw[List.getElem?_eq_none]
   simp;omega
def posOf:List Nat→Nat→Option Nat
 | [],_=>none
 |x::r,o=>if x=o then some 0 else(posOf r o).map (· + 1)
theorem iR : ∀ {l:List Nat} {o i:Nat},posOf l o=some i→l[i]? = some o
 | x::r,o,i,h=>by
  simp only[posOf]at h
  split at h
  ·rename_i e;cases h;simp[e]
  ·cases hp:posOf r o with
   |none=>rw[hp]at h;cases h
   |some j=>rw[hp]at h;cases h;simpa using iR hp
theorem mr : ∀ {l:List Nat} {o i:Nat},l.Nodup→l[i]? = some o→posOf l o=some i
 | x::r,o,i,hn,h=>by
  simp only[List.nodup_cons]at hn
  simp only[posOf]
  cases i with
  |zero=>simp at h;simp[h]
  |succ i=>
   simp at h
   have:x≠o:=fun e=>hn.1 (by rw[e];exact List.mem_of_getElem? h)
   rw[if_neg this,mr hn.2 h];rfl
end
end Go.Abs
namespace Go.Abs
theorem An {l:List Nat} {n k:Nat} (h:l.Nodup) (hl : ∀ o∈l,o<n):(kD l n k).Nodup:=by
 unfold kD
 rw[List.nodup_append]
 refine⟨h, ?_,fun a ha b hb=>?_⟩
 ·rw [List.nodup_iff_pairwise_ne,List.pairwise_map]
  exact List.Pairwise.imp (fun h=>by omega) (List.nodup_iff_pairwise_ne.1 List.nodup_range)
 ·obtain⟨c,hc,rfl⟩:=List.mem_map.1 hb
  have:=hl a ha
  omega
def gL (M:Map) (os ts:List Nat):Map:=⟨M.G,fun i=>M.loc (os.getD i 0),fun i=>M.be (ts.getD i 0)⟩
def yj (M M0:Map) (os ts:List Nat):Map:=
 ⟨M0.G,fun o=>match posOf os o with|some i=>M0.loc i|none=>M.loc o,fun t=>match posOf ts t with|some i=>M0.be i|none=>M.be t⟩
section
variable {P:Program} {M:Map} {s s0:St} {w:World} {os ts:List Nat}
theorem u6 {l:List Nat} {i o:Nat} (h:l[i]? = some o):l.getD i 0=o:=by simp[List.getD,h]
theorem Rel.sub (r:Rel M s w) (uz:os.Nodup) (vr:ts.Nodup) (jl : ∀ o∈os,o<s.ah.length)
 (ho:s0.ah.length=os.length) (xm : ∀ (i o:Nat) (ds:List D),os[i]? = some o→s0.ah[i]? = some ds→s.ah[o]? = some (D.e9 os ts ds)∧D.bK os.length ts.length ds=true)
 (ht:s0.aw.length=ts.length) (tH : ∀ (i t:Nat),ts[i]? = some t→s0.aw[i]? = s.aw[t]?):Rel (gL M os ts) s0 w:=by
 have nth : ∀ i,i<s0.ah.length→∃ o,os[i]? = some o∧o<s.ah.length:=fun i hi=>⟨os[i],List.getElem?_eq_getElem (by omega),jl _ (List.getElem_mem _)⟩
 have loc : ∀ (i:Nat) o,os[i]? = some o→(gL M os ts).loc i=M.loc o:=fun i o h=>by simp only[gL,u6 h]
 have mu : ∀ (i:Nat) o,os[i]? = some o→(gL M os ts).mu i=M.mu o:=fun i o h=>congrArg Prod.fst (loc i o h)
 have be : ∀ (i:Nat) t,ts[i]? = some t→(gL M os ts).be i=M.be t:=fun i t h=>by simp only[gL,u6 h]
 have WH : ∀ t,s0.live t→∃ t',ts[t]? = some t'∧s.live t':=fun t ⟨n,hn⟩=>by
  have hD:=(List.getElem?_eq_some_iff.1 hn).1
  have e:ts[t]? = some ts[t]:=List.getElem?_eq_getElem (by omega)
  exact⟨_,e,n,by rw[← tH t _ e];exact hn⟩
 refine⟨r.comm,fun i ds e=>?_,fun i hi off=>?_,fun i i' hi ib e=>?_,fun t n e=>?_,fun t b c z i hl e hi=>?_,fun t t' b c z c' z' h h' e e'=>?_⟩
 ·obtain⟨o,h1,_⟩:=nth i (List.getElem?_eq_some_iff.1 e).1
  obtain⟨h2,h3⟩:=xm i o ds h1 e
  obtain⟨vs,T,g1,g2,g3,g4⟩:=r.obj o _ h2
  refine⟨vs,T,by rw[loc i o h1];exact g1,by rw[fP]at g2;simpa using g2,⟨g3.1,by rw[show(gL M os ts).ty i=M.ty o from congrArg (fun x=>x.2.ty?) (loc i o h1)];exact g3.2⟩,fun j d v e1 e2=>?_⟩
  exact RD.Cf (M:=M) (M0:=gL M os ts) (s:=s) rfl loc ho be tH ht (g4 j (d.cW os ts) v (by rw[fP,List.getElem?_map,e1];rfl) e2) d rfl (vq h3 e1)
 ·obtain⟨o,h1,h2⟩:=nth i hi
  rw[mu i o h1];exact r.jN o h2 off
 ·obtain⟨o,h1,h2⟩:=nth i hi
  obtain⟨o',rW,uA⟩:=nth i' ib
  rw[mu i o h1,mu i' o' rW]at e
  have:=r.inj o o' h2 uA e
  subst this
  have a:=mr uz h1
  have b:=mr uz rW
  rw[a]at b;cases b;rfl
 ·obtain⟨t',h1,h2⟩:=WH t ⟨n,e⟩
  rw[be t t' h1]
  exact r.tok t' n (by rw[← tH t t' h1];exact e)
 ·obtain⟨t',h1,h2⟩:=WH t hl
  obtain⟨o,h3,h4⟩:=nth i hi
  rw[be t t' h1]at e
  rw[mu i o h3]
  exact r.fj t' b c z o h2 e h4
 ·obtain⟨q,h1,h2⟩:=WH t h
  obtain⟨q',rW,uA⟩:=WH t' h'
  rw[be t q h1]at e
  rw[be t' q' rW]at e'
  have:=r.fS q q' b c z c' z' h2 uA e e'
  subst this
  have a:=mr vr h1
  have b:=mr vr rW
  rw[a]at b;cases b;rfl
end
def St.back (s:St) (os ts:List Nat) (s':St):St:=
 ⟨kH os (s'.ah.map (D.e9 (kD os s.ah.length (s'.ah.length - os.length)) (kD ts s.aw.length (s'.aw.length - ts.length)))) s.ah,kH ts s'.aw s.aw⟩
def D.back (s:St) (os ts:List Nat) (s':St) (d:D):D:=
 d.cW (kD os s.ah.length (s'.ah.length - os.length)) (kD ts s.aw.length (s'.aw.length - ts.length))
theorem bM.frame {P:Program} {f:FuncId} {No args:List D} {s s0:St} {Q0 Q:D→St→Prop} (os ts:List Nat) (h:bM P f No s0 Q0) (uz:os.Nodup) (vr:ts.Nodup) (jl : ∀ o∈os,o<s.ah.length) (ux : ∀ t∈ts,t<s.aw.length)
 (ho:s0.ah.length=os.length) (xm : ∀ (i o:Nat) (ds:List D),os[i]? = some o→s0.ah[i]? = some ds→s.ah[o]? = some (D.e9 os ts ds)∧D.bK os.length ts.length ds=true)
 (ht:s0.aw.length=ts.length) (tH : ∀ (i t:Nat),ts[i]? = some t→s0.aw[i]? = s.aw[t]?)
 (zh:args=D.e9 os ts No) (pM:D.bK os.length ts.length No=true) (k : ∀ d s',Q0 d s'→Q (d.back s os ts s') (s.back os ts s')):bM P f args s Q:=by
 intro M w fK r kC dP ha
 have r0:=r.sub uz vr jl ho xm ht tH
 have loc : ∀ (i:Nat) o,os[i]? = some o→(gL M os ts).loc i=M.loc o:=fun i o h=>by simp only[gL,u6 h]
 have mu : ∀ (i:Nat) o,os[i]? = some o→(gL M os ts).mu i=M.mu o:=fun i o h=>congrArg Prod.fst (loc i o h)
 have be : ∀ (i:Nat) t,ts[i]? = some t→(gL M os ts).be i=M.be t:=fun i t h=>by simp only[gL,u6 h]
 subst zh
 have abg:Laid (gL M os ts) s0 w:=by
  intro g cs hg
  obtain⟨h1,h2,h3⟩:=kC g cs hg
  refine⟨h1,fun o hD=>?_,fun t c z hl hb=>?_⟩
  ·obtain⟨o',nM⟩ : ∃ o',os[o]? = some o':=⟨_,List.getElem?_eq_getElem (by omega)⟩
   rw[mu o o' nM]
   exact h2 o' (jl o' (List.mem_of_getElem? nM))
  ·obtain⟨n,hn⟩:=hl
   have hD:=(List.getElem?_eq_some_iff.1 hn).1
   obtain⟨t',El⟩ : ∃ t',ts[t]? = some t':=⟨_,List.getElem?_eq_getElem (by omega)⟩
   rw[be t t' El]at hb
   exact h3 t' c z ⟨n,by rw[← tH t t' El];exact hn⟩ hb
 have hc:=h (gL M os ts) w fK r0 abg (by rw[dP,fP,List.length_map]) (fun i d v e1 e2=>
  RD.Cf (M:=M) (M0:=gL M os ts) (s:=s) rfl loc ho be tH ht (ha i (d.cW os ts) v (by rw[fP,List.getElem?_map,e1];rfl) e2) d rfl (vq pM e1))
 refine hc.mono ?_
 rintro en w' ⟨yk,d,v,s',rfl,hq,e,r',hv⟩
 have IY:=e.le.n
 have Ea:=e.le.t
 generalize Np:kD os s.ah.length (s'.ah.length - os.length)=lT
 generalize Nq:kD ts s.aw.length (s'.aw.length - ts.length)=o7
 have nd:lT.Nodup:=by rw[← Np];exact An uz jl
 have ndt:o7.Nodup:=by rw[← Nq];exact An vr ux
 have Nr : ∀ i,lT[i]? = if i<os.length then os[i]? else if i<s'.ah.length then some (s.ah.length+(i - os.length))else none:=fun i=>by
  rw[← Np,C3];split
  ·rfl
  ·rw[show os.length+(s'.ah.length - os.length)=s'.ah.length by omega]
 have Ns : ∀ i,o7[i]? = if i<ts.length then ts[i]? else if i<s'.aw.length then some (s.aw.length+(i - ts.length))else none:=fun i=>by
  rw[← Nq,C3];split
  ·rfl
  ·rw[show ts.length+(s'.aw.length - ts.length)=s'.aw.length by omega]
 have hsb:s.back os ts s' = ⟨kH os (s'.ah.map (D.e9 lT o7)) s.ah,kH ts s'.aw s.aw⟩:=by simp only[St.back,Np,Nq]
 have hdb:d.back s os ts s'=d.cW lT o7:=by simp only[D.back,Np,Nq]
 have mM:=k d s' hq
 rw[hsb,hdb]at mM
 obtain⟨p1,p2,p3⟩:=Dv os (s'.ah.map (D.e9 lT o7)) s.ah (by simp;omega) uz jl
 obtain⟨q1,q2,q3⟩:=Dv ts s'.aw s.aw (by omega) vr ux
 have I4:=xl os (s'.ah.map (D.e9 lT o7)) s.ah (by simp;omega)
 have I5:=xl ts s'.aw s.aw (by omega)
 simp only[List.length_map]at I4
 generalize Aj:(⟨kH os (s'.ah.map (D.e9 lT o7)) s.ah,kH ts s'.aw s.aw⟩:St)=s2 at mM
 have so:s2.ah=kH os (s'.ah.map (D.e9 lT o7)) s.ah:=by rw[← Aj]
 have st:s2.aw=kH ts s'.aw s.aw:=by rw[← Aj]
 -- the framed objects
 have fo : ∀ (i o:Nat),lT[i]? = some o→o<s2.ah.length∧s2.ah[o]? = (s'.ah[i]?).map (D.e9 lT o7)∧i<s'.ah.length∧(i<os.length→o<s.ah.length∧os[i]? = some o)∧(os.length≤i→s.ah.length≤o):=by
  intro i o hi
  rw[Nr]at hi
  split at hi
  ·rename_i h1
   have hD:=jl o (List.mem_of_getElem? hi)
   refine⟨by rw[so,I4];omega,by rw[so,p1 i o hi,List.getElem?_map],by omega,fun _=>⟨hD,hi⟩,fun h=>by omega⟩
  ·split at hi
   ·rename_i h1 h2
    cases hi
    refine⟨by rw[so,I4];omega, ?_,h2,fun h=>by omega,fun _=>by omega⟩
    rw[so,p3,List.getElem?_map,show os.length+(i - os.length)=i by omega]
   ·cases hi
 have ft : ∀ (i t:Nat),o7[i]? = some t→t<s2.aw.length∧s2.aw[t]? = s'.aw[i]? ∧i<s'.aw.length∧(i<ts.length→t<s.aw.length∧ts[i]? = some t)∧(ts.length≤i→s.aw.length≤t):=by
  intro i t hi
  rw[Ns]at hi
  split at hi
  ·rename_i h1
   have hD:=ux t (List.mem_of_getElem? hi)
   refine⟨by rw[st,I5];omega,by rw[st,q1 i t hi],by omega,fun _=>⟨hD,hi⟩,fun h=>by omega⟩
  ·split at hi
   ·rename_i h1 h2
    cases hi
    refine⟨by rw[st,I5];omega, ?_,h2,fun h=>by omega,fun _=>by omega⟩
    rw[st,q3,show ts.length+(i - ts.length)=i by omega]
   ·cases hi
 -- all others
 have uo : ∀ o,o<s2.ah.length→posOf lT o=none→o<s.ah.length∧o∉os∧s2.ah[o]? = s.ah[o]? :=by
  intro o hD hp
  have nY : ∀ i,lT[i]? ≠some o:=fun i hi=>by rw[mr nd hi]at hp;cases hp
  have h1:o<s.ah.length:=by
   rcases Nat.lt_or_ge o s.ah.length with h|h
   ·exact h
   ·exfalso
    rw[so,I4]at hD
    refine nY (os.length+(o - s.ah.length)) ?_
    rw[Nr,if_neg (by omega),if_pos (by omega)]
    congr 1;omega
  have h2:o∉os:=fun hm=>by
   obtain⟨i,hi⟩:=List.mem_iff_getElem?.1 hm
   have qJ:=(List.getElem?_eq_some_iff.1 hi).1
   exact nY i (by rw[Nr,if_pos qJ];exact hi)
  exact⟨h1,h2,by rw[so,p2 o h1 h2]⟩
 have ut : ∀ t,t<s2.aw.length→posOf o7 t=none→t<s.aw.length∧t∉ts∧s2.aw[t]? = s.aw[t]? :=by
  intro t hD hp
  have nY : ∀ i,o7[i]? ≠some t:=fun i hi=>by rw[mr ndt hi]at hp;cases hp
  have h1:t<s.aw.length:=by
   rcases Nat.lt_or_ge t s.aw.length with h|h
   ·exact h
   ·exfalso
    rw[st,I5]at hD
    refine nY (ts.length+(t - s.aw.length)) ?_
    rw[Ns,if_neg (by omega),if_pos (by omega)]
    congr 1;omega
  have h2:t∉ts:=fun hm=>by
   obtain⟨i,hi⟩:=List.mem_iff_getElem?.1 hm
   have qJ:=(List.getElem?_eq_some_iff.1 hi).1
   exact nY i (by rw[Ns,if_pos qJ];exact hi)
  exact⟨h1,h2,by rw[st,q2 t h1 h2]⟩
 generalize QJ:yj M yk lT o7=M2
 have mG:yk.G=M2.G:=by rw[← QJ];rfl
 have lo : ∀ (i o:Nat),lT[i]? = some o→M2.loc o=yk.loc i:=fun i o hi=>by rw[← QJ];simp only[yj,mr nd hi]
 have WI : ∀ o,posOf lT o=none→M2.loc o=M.loc o:=fun o hp=>by rw[← QJ];simp only[yj,hp]
 have mo : ∀ (i o:Nat),lT[i]? = some o→M2.mu o=yk.mu i:=fun i o hi=>congrArg Prod.fst (lo i o hi)
 have I6 : ∀ o,posOf lT o=none→M2.mu o=M.mu o:=fun o hp=>congrArg Prod.fst (WI o hp)
 have mt : ∀ (i t:Nat),o7[i]? = some t→M2.be t=yk.be i:=fun i t hi=>by rw[← QJ];simp only[yj,mr ndt hi]
 have I7 : ∀ t,posOf o7 t=none→M2.be t=M.be t:=fun t hp=>by rw[← QJ];simp only[yj,hp]
 have le:Le M s M2 s2:=by
  refine⟨fun b o v hg=>by rw[← mG];exact e.le.G b o v hg,by rw[so,I4];omega,fun o hD=>?_,by rw[st,I5];omega,fun t n' hD qX=>?_⟩
  ·cases hp:posOf lT o with
   |none=>rw[WI o hp];exact .refl _
   | some i=>
    have hi:=iR hp
    rw[lo i o hi]
    obtain⟨_,_,_,h1,h2⟩:=fo i o hi
    have qJ:i<os.length:=by
     rcases Nat.lt_or_ge i os.length with h|h
     ·exact h
     ·have:=h2 h;omega
    have h3:=e.le.loc i (by omega)
    rw[loc i o (h1 qJ).2]at h3
    exact h3
  ·cases hp:posOf o7 t with
   |none=>
    obtain⟨_,_,h3⟩:=ut t (by rw[st,I5];omega) hp
    rw[h3]at qX
    exact⟨n',qX,Nat.le_refl _,fun _=>I7 t hp⟩
   | some i=>
    have hi:=iR hp
    obtain⟨_,g1,_,h1,h2⟩:=ft i t hi
    have qJ:i<ts.length:=by
     rcases Nat.lt_or_ge i ts.length with h|h
     ·exact h
     ·have:=h2 h;omega
    rw[g1]at qX
    obtain⟨n,h3,h4,h5⟩:=e.le.tk i n' (by omega) qX
    refine⟨n,by rw[← tH i t (h1 qJ).2];exact h3,h4,fun eq=>?_⟩
    rw[mt i t hi,h5 eq,be i t (h1 qJ).2]
 have abh : ∀ {d:D} {v:Value},RD yk s' d v→RD M2 s2 (d.cW lT o7) v:=fun hd=>RD.cW mG
  (fun i hi=>by
   obtain⟨o,ho⟩ : ∃ o,lT[i]? = some o:=by
    rw[Nr];split
    ·rename_i h1;exact⟨_,List.getElem?_eq_getElem h1⟩
    ·exact⟨_,rfl⟩
   exact⟨o,ho,(fo i o ho).1,lo i o ho⟩)
  (fun i hi=>by
   obtain⟨t,ht⟩ : ∃ t,o7[i]? = some t:=by
    rw[Ns];split
    ·rename_i h1;exact⟨_,List.getElem?_eq_getElem h1⟩
    ·exact⟨_,rfl⟩
   exact⟨t,ht,(ft i t ht).1,(ft i t ht).2.1,mt i t ht⟩) hd
 -- blocks that the callee did not know
 have Ig : ∀ i,s0.live i→∃ t,ts[i]? = some t∧s.live t:=fun i ⟨n,hn⟩=>by
  have hD:=(List.getElem?_eq_some_iff.1 hn).1
  have e1:ts[i]? = some ts[i]:=List.getElem?_eq_getElem (by omega)
  exact⟨_,e1,n,by rw[← tH i _ e1];exact hn⟩
 have Nt : ∀ b,b<w.heap.size→(∀ (i o:Nat),os[i]? = some o→M.mu o≠b)→(∀ (i t:Nat) c z,ts[i]? = some t→s.live t→M.be t≠some (b,c,z))→
  w'.heap[b]? = w.heap[b]? ∧∀ off,yk.G b off=M.G b off:=by
  intro b hb h1 h2
  refine⟨e.kept b hb (fun i hi=>?_) (fun i c z hl=>?_),fun off=>?_⟩
  ·have e1:os[i]? = some os[i]:=List.getElem?_eq_getElem (by omega)
   rw[mu i _ e1];exact h1 i _ e1
  ·obtain⟨t,e1,hD⟩:=Ig i hl
   rw[be i t e1];exact h2 i t c z e1 hD
  ·apply Classical.byContradiction
   intro eQ
   rcases e.rZ b off eQ with h3|⟨i,c,z,hl,h3⟩
   ·omega
   ·obtain⟨t,e1,hD⟩:=Ig i hl
    rw[be i t e1]at h3
    exact h2 i t c z e1 hD h3
 have WJ : ∀ o,o<s.ah.length→o∉os→w'.heap[M.mu o]? = w.heap[M.mu o]? ∧∀ off,yk.G (M.mu o) off=M.G (M.mu o) off:=fun o hD nY=>
  Nt _ (r.qj hD) (fun i o' h1 h2=>nY (by rw[← r.inj o' o (jl o' (List.mem_of_getElem? h1)) hD h2];exact List.mem_of_getElem? h1))
   (fun i t c z _ hl h2=>r.fj t _ c z o hl h2 hD rfl)
 have afn : ∀ t b c z,s.live t→t∉ts→M.be t=some (b,c,z)→w'.heap[b]? = w.heap[b]? ∧∀ off,yk.G b off=M.G b off:=fun t b c z hl nY hb=>
  Nt b (r.sB hl hb) (fun i o h1=>r.fj t b c z o hl hb (jl o (List.mem_of_getElem? h1)))
   (fun i t' c' z' h1 l9 h2=>nY (by rw[r.fS t t' b c z c' z' hl l9 hb h2];exact List.mem_of_getElem? h1))
 have lv : ∀ t,s2.live t→(∃ i,o7[i]? = some t∧s'.live i)∨(posOf o7 t=none∧s.live t∧t∉ts):=by
  rintro t ⟨n,hn⟩
  cases hp:posOf o7 t with
  |none=>
   obtain⟨h1,h2,h3⟩:=ut t (List.getElem?_eq_some_iff.1 hn).1 hp
   exact .inr ⟨rfl,⟨n,by rw[← h3];exact hn⟩,h2⟩
  |some i=>
   have hi:=iR hp
   exact .inl ⟨i,hi,n,by rw[← (ft i t hi).2.1];exact hn⟩
 -- where a framed object lies
 have WK : ∀ (i o:Nat),lT[i]? = some o→(o<s.ah.length∧o∈os∧yk.mu i=M.mu o)∨w.heap.size≤yk.mu i:=by
  intro i o hi
  obtain⟨_,_,h1,h2,h3⟩:=fo i o hi
  rcases e.mo h1 with ⟨h4,h5⟩|h4
  ·have h:i<os.length:=by omega
   exact .inl ⟨(h2 h).1,List.mem_of_getElem? (h2 h).2,by rw[h5,mu i o (h2 h).2]⟩
  ·exact .inr h4
 have WL : ∀ (i t b c z:Nat),o7[i]? = some t→s'.live i→yk.be i=some (b,c,z)→(s.live t∧t∈ts∧∃ c' z',M.be t=some (b,c',z'))∨w.heap.size≤b:=by
  intro i t b c z hi hl hb
  rcases e.qs i b c z hl hb with ⟨h1,c',z',h2⟩|h1
  ·obtain⟨t',e1,hD⟩:=Ig i h1
   have qJ:=(List.getElem?_eq_some_iff.1 e1).1
   obtain⟨_,_,_,h3,_⟩:=ft i t hi
   have:=(h3 qJ).2
   rw[e1]at this;cases this
   rw[be i _ e1]at h2
   exact .inl ⟨hD,List.mem_of_getElem? e1,c',z',h2⟩
  ·exact .inr h1
 refine⟨M2,d.cW lT o7,v,s2,rfl,mM, ?_, ?_,abh hv⟩
 ·-- Ext
  refine⟨le,fun b hb h1 h2=>?_,fun o h1 h2=>?_,fun t b c z hl hb=>?_,fun b off eQ=>?_,e.size,e.os,e.tape,e.output⟩
  ·exact(Nt b hb (fun i o h3=>h1 o (jl o (List.mem_of_getElem? h3))) (fun i t c z _ hl=>h2 t c z hl)).1
  ·cases hp:posOf lT o with
   |none=>
    have:=(uo o h2 hp).1
    rcases h1 with h1|h1
    ·omega
    ·exact(h1 (I6 o hp)).elim
   | some i=>
    have hi:=iR hp
    rw[mo i o hi]at h1 ⊢
    rcases WK i o hi with ⟨h3,_,h5⟩|h3
    ·rcases h1 with h1 | h1
     ·omega
     ·exact(h1 h5).elim
    ·exact h3
  ·rcases lv t hl with ⟨i,hi,l9⟩ | ⟨hp,l9,_⟩
   ·rw [mt i t hi]at hb
    rcases WL i t b c z hi l9 hb with ⟨h1,_,h2⟩|h1
    ·exact .inl ⟨h1,h2⟩
    ·exact .inr h1
   ·rw [I7 t hp]at hb
    exact .inl ⟨l9,c,z,hb⟩
  ·rw [← mG]at eQ
   rcases e.rZ b off eQ with h1|⟨i,c,z,hl,hb⟩
   ·exact .inl h1
   ·obtain⟨t,e1,hD⟩:=Ig i hl
    rw[be i t e1]at hb
    exact .inr ⟨t,c,z,hD,hb⟩
 ·-- Rel
  refine⟨fun b o v hg=>r'.comm b o v (by rw[mG];exact hg),fun o ds Bg=>?_,fun o hD off=>?_,fun o o' hD Am heq=>?_,fun t n hn=>?_,fun t b c z o hl hb hD=>?_,fun t t' b c z c' z' hl l9 hb rU=>?_⟩
  ·cases hp:posOf lT o with
   |some i=>
    have hi:=iR hp
    obtain⟨_,g1,_⟩:=fo i o hi
    rw[g1]at Bg
    obtain⟨nL,h1,rfl⟩:=Option.map_eq_some_iff.1 Bg
    obtain⟨vs,T,h2,h3,h4,h5⟩:=r'.obj i nL h1
    refine⟨vs,T,by rw[lo i o hi];exact h2,by rw[fP];simpa using h3,⟨h4.1,by rw[show M2.ty o=yk.ty i from congrArg (fun x=>x.2.ty?) (lo i o hi)];exact h4.2⟩,fun j d v e1 e2=>?_⟩
    rw[fP]at e1
    simp only[List.getElem?_map,Option.map_eq_some_iff]at e1
    obtain⟨d',e1,rfl⟩:=e1
    exact abh (h5 j d' v e1 e2)
   |none=>
    obtain⟨h1,h2,h3⟩:=uo o (List.getElem?_eq_some_iff.1 Bg).1 hp
    rw[h3]at Bg
    obtain⟨vs,T,g1,g2,g3,g4⟩:=r.obj o ds Bg
    exact⟨vs,T,by rw[WI o hp];exact g1.keep (WJ o h1 h2).1,g2,⟨g3.1,by rw[show M2.ty o=M.ty o from congrArg (fun x=>x.2.ty?) (WI o hp)];exact g3.2⟩,fun j d v e1 e2=>(g4 j d v e1 e2).mono le⟩
  ·cases hp:posOf lT o with
   |some i=>
    have hi:=iR hp
    rw[mo i o hi, ← mG];exact r'.jN i (fo i o hi).2.2.1 off
   |none=>
    obtain⟨h1,h2,h3⟩:=uo o hD hp
    rw[I6 o hp, ← mG,(WJ o h1 h2).2 off];exact r.jN o h1 off
  ·cases hp:posOf lT o with
   | some i=>
    have hi:=iR hp
    rw[mo i o hi]at heq
    cases mV:posOf lT o' with
    |some i'=>
     have ib:=iR mV
     rw[mo i' o' ib]at heq
     have:=r'.inj i i' (fo i o hi).2.2.1 (fo i' o' ib).2.2.1 heq
     subst this
     rw[hi]at ib;cases ib;rfl
    | none=>
     obtain⟨h1,h2,_⟩:=uo o' Am mV
     rw[I6 o' mV]at heq
     rcases WK i o hi with ⟨h3,h4,h5⟩|h3
     ·rw [h5]at heq
      have:=r.inj o o' h3 h1 heq
      subst this;exact(h2 h4).elim
     ·have:=r.qj h1;omega
   | none=>
    obtain⟨h1,h2,_⟩:=uo o hD hp
    rw[I6 o hp]at heq
    cases mV:posOf lT o' with
    | some i'=>
     have ib:=iR mV
     rw[mo i' o' ib]at heq
     rcases WK i' o' ib with ⟨h3,h4,h5⟩|h3
     ·rw [h5]at heq
      have:=r.inj o o' h1 h3 heq
      subst this;exact(h2 h4).elim
     ·have:=r.qj h1;omega
    |none=>
     obtain⟨rW,_,_⟩:=uo o' Am mV
     rw[I6 o' mV]at heq
     exact r.inj o o' h1 rW heq
  ·rcases lv t ⟨n,hn⟩with ⟨i,hi,hl⟩ | ⟨hp,hl,nY⟩
   ·rw [mt i t hi, ← mG]
    exact r'.tok i n (by rw[← (ft i t hi).2.1];exact hn)
   ·obtain⟨_,_,h3⟩:=ut t (List.getElem?_eq_some_iff.1 hn).1 hp
    rw[h3]at hn
    rw[I7 t hp]
    rcases r.tok t n hn with h4|⟨b,cap,size,vs,T,g1,g2,g3,g4,g5⟩
    ·exact .inl h4
    ·obtain⟨k1,k2⟩:=afn t b cap size hl nY g1
     exact .inr ⟨b,cap,size,vs,T,g1,by rw[k1];exact g2,g3,g4,fun off ho=>by rw[← mG,k2 off];exact g5.1 off ho,g5.2⟩
  ·rcases lv t hl with ⟨i,hi,l9⟩ | ⟨hp,l9,nY⟩
   ·rw [mt i t hi]at hb
    cases I8:posOf lT o with
    |some j=>
     have hj:=iR I8
     rw[mo j o hj]
     exact r'.fj i b c z j l9 hb (fo j o hj).2.2.1
    |none=>
     obtain⟨h1,h2,_⟩:=uo o hD I8
     rw[I6 o I8]
     rcases WL i t b c z hi l9 hb with ⟨h3,_,c',z',h4⟩|h3
     ·exact r.fj t b c' z' o h3 h4 h1
     ·have:=r.qj h1;omega
   ·rw [I7 t hp]at hb
    cases I8:posOf lT o with
    |some j=>
     have hj:=iR I8
     rw[mo j o hj]
     rcases WK j o hj with ⟨h3,_,h5⟩|h3
     ·rw[h5];exact r.fj t b c z o l9 hb h3
     ·have:=r.sB l9 hb;omega
    |none=>
     obtain⟨h1,_,_⟩:=uo o hD I8
     rw[I6 o I8];exact r.fj t b c z o l9 hb h1
  ·rcases lv t hl with ⟨i,hi,Ao⟩ | ⟨hp,hD,nY⟩
   ·rw [mt i t hi]at hb
    rcases lv t' l9 with ⟨i',ib,TK⟩|⟨mV,Am,WM⟩
    ·rw [mt i' t' ib]at rU
     have:=r'.fS i i' b c z c' z' Ao TK hb rU
     subst this
     rw[hi]at ib;cases ib;rfl
    ·rw [I7 t' mV]at rU
     rcases WL i t b c z hi Ao hb with ⟨h3,h4,c2,z2,h5⟩|h3
     ·have:=r.fS t t' b c2 z2 c' z' h3 Am h5 rU
      subst this;exact(WM h4).elim
     ·have:=r.sB Am rU;omega
   ·rw [I7 t hp]at hb
    rcases lv t' l9 with ⟨i',ib,TK⟩|⟨mV,Am,WM⟩
    ·rw [mt i' t' ib]at rU
     rcases WL i' t' b c' z' ib TK rU with ⟨h3,h4,c2,z2,h5⟩|h3
     ·have:=r.fS t t' b c z c2 z2 hD h3 hb h5
      subst this;exact(nY h4).elim
     ·have:=r.sB hD hb;omega
    ·rw [I7 t' mV]at rU
     exact r.fS t t' b c z c' z' hD Am hb rU
end Go.Abs
namespace Go.Abs
def Wk (d d':D):Prop:=∀ (M:Map) (s:St) (v:Value),RD M s d v→RD M s d' v
inductive jr:List D→List D→Prop where
 |nil:jr [] []
 |cons {d d':D} {l l':List D} (h:Wk d d') (t:jr l l'):jr (d::l) (d'::l')
inductive gE:List (List D)→List (List D)→Prop where
 |nil:gE [] []
 |cons {r r':List D} {l l':List (List D)} (h:jr r r') (t:gE l l'):gE (r::l) (r'::l')
theorem Wk.refl (d:D):Wk d d:=fun _ _ _ h=>h
theorem Wk.trans {a b c:D} (h:Wk a b) (k:Wk b c):Wk a c:=fun M s v r=>k M s v (h M s v r)
theorem Wk.junk (d:D):Wk d .junk:=fun _ _ v _=> .junk v
theorem jr.refl : ∀ l,jr l l
 | []=> .nil
 |d::l=> .cons (Wk.refl d) (jr.refl l)
theorem gE.refl : ∀ l,gE l l
 | []=> .nil
 |d::l=> .cons (jr.refl d) (gE.refl l)
theorem jr.len {l l':List D} (h:jr l l'):l.length=l'.length:=by
 induction h with
 |nil=>rfl
 |cons _ _ ih=>simp[ih]
theorem gE.len {l l':List (List D)} (h:gE l l'):l.length=l'.length:=by
 induction h with
 |nil=>rfl
 |cons _ _ ih=>simp[ih]
theorem jr.get {l l':List D} (h:jr l l') : ∀ {i:Nat} {d':D},l'[i]? = some d'→∃ d,l[i]? = some d∧Wk d d':=by
 induction h with
 |nil=>intro i d' e;simp at e
 |cons hd _ ih=>
  intro i d' e
  cases i with
  |zero=>simp at e;subst e;exact⟨_,rfl,hd⟩
  |succ i=>simp at e;simpa using ih e
theorem gE.get {l l':List (List D)} (h:gE l l') : ∀ {i:Nat} {d':List D},l'[i]? = some d'→∃ d,l[i]? = some d∧jr d d':=by
 induction h with
 |nil=>intro i d' e;simp at e
 |cons hd _ ih=>
  intro i d' e
  cases i with
  |zero=>simp at e;subst e;exact⟨_,rfl,hd⟩
  |succ i=>simp at e;simpa using ih e
theorem jr.append {a a' b b':List D} (h:jr a a') (k:jr b b'):jr (a++b) (a'++b'):=by
 induction h with
 |nil=>exact k
 |cons hd _ ih=>exact .cons hd ih
theorem gE.append {a a' b b':List (List D)} (h:gE a a') (k:gE b b'):gE (a++b) (a'++b'):=by
 induction h with
 |nil=>exact k
 |cons hd _ ih=>exact .cons hd ih
theorem Wk.agg {l l':List D} (h:jr l l'):Wk (.agg l) (.agg l'):=by
 intro M s v r
 cases r with
 |agg _ vs hl h1 hr=>
  refine .agg _ vs (by rw[← hl,h.len]) h1 fun i d' u e e2=>?_
  obtain⟨d,e1,hw⟩:=h.get e
  exact hw M s u (hr i d u e1 e2)
theorem Wk.tuple {l l':List D} (h:jr l l'):Wk (.tuple l) (.tuple l'):=by
 intro M s v r
 cases r with
 |tuple _ vs hl hr=>
  refine .tuple _ vs (by rw[← hl,h.len]) fun i d' u e e2=>?_
  obtain⟨d,e1,hw⟩:=h.get e
  exact hw M s u (hr i d u e1 e2)
theorem Wk.rows {g:Tag} {z:Nat} {l l':List (List D)} (h:gE l l'):Wk (.slice g z l) (.slice g z l'):=by
 intro M s v r
 cases r with
 |iO _ _ cap hc ht=>cases h;exact .iO _ _ _ hc ht
 |lD _ a cap=>cases h;exact .lD _ a cap
 | slice _ _ _ b k cap hl hs h1 h2 ht=>
  rw[h.len]
  refine .slice g z l' b k cap (by rw[← h.len];exact hl) (fun row hm=>?_) (fun i row j d e e2=>?_) (fun i row j d u e e2 eu=>?_) (by rw[← h.len];exact ht)
  ·obtain⟨i,hi,he⟩:=List.mem_iff_getElem.1 hm
   obtain⟨r0,g1,g2⟩:=h.get (i:=i) (by rw[List.getElem?_eq_getElem hi,he])
   rw[← g2.len];exact hs r0 (List.mem_of_getElem? g1)
  ·obtain⟨r0,g1,g2⟩:=h.get e
   obtain⟨d0,g3,_⟩:=g2.get e2
   exact h1 i r0 j d0 g1 g3
  ·obtain⟨r0,g1,g2⟩:=h.get e
   obtain⟨d0,g3,g4⟩:=g2.get e2
   exact g4 M s u (h2 i r0 j d0 u g1 g3 eu)
theorem Wk.shared (g:Tag) (z:Nat) (l:List (List D)):Wk (.slice g z l) (.slice .shared z l):=by
 intro M s v r
 cases r with
 |iO _ _ cap hc ht=>exact .iO _ _ _ hc trivial
 |lD _ a cap=>exact .lD _ a cap
 |slice _ _ _ b k cap hl hs h1 h2 ht=>exact .slice _ _ _ b k cap hl hs h1 h2 trivial
theorem Wk.slice {g:Tag} {z:Nat} {l l':List (List D)} (h:gE l l'):Wk (.slice g z l) (.slice .shared z l'):=(Wk.shared g z l).trans (Wk.rows h)
theorem Wk.nil (g:Tag) (z z':Nat):Wk (.slice g z []) (.slice .shared z' []):=by
 intro M s v r
 cases r with
 |iO _ _ cap hc ht=>exact .iO _ _ _ hc trivial
 |lD _ a cap=>exact .lD _ a cap
 |slice _ _ _ b k cap hl hs h1 h2 ht=>exact .slice _ _ [] b k cap hl (by simp) (by simp) (by simp) trivial
theorem Wk.ajC (z z':Nat):Wk (.slice .full z []) (.slice .full z' []):=by
 intro M s v r
 cases r with
 |iO _ _ cap hc ht=>exact .iO _ _ _ hc ht
 |slice _ _ _ b k cap hl hs h1 h2 ht=>exact .slice _ _ [] b k cap hl (by simp) (by simp) (by simp) ht
theorem Rel.q9 {M:Map} {s:St} {w:World} {ah:List (List D)} (r:Rel M s w) (h:gE s.ah ah):Rel M ⟨ah,s.aw⟩ w∧Le M s M ⟨ah,s.aw⟩:=by
 have le:Le M s M ⟨ah,s.aw⟩:=⟨fun _ _ _ h=>h,Nat.le_of_eq h.len,fun _ _=> .refl _,Nat.le_refl _,fun t n' _ e=>⟨n',e,Nat.le_refl _,fun _=>rfl⟩⟩
 have hl:=h.len
 refine⟨⟨r.comm,fun o ds e=>?_,fun o ho=>r.jN o (by rw[hl];exact ho),fun o o' ho nM=>r.inj o o' (by rw[hl];exact ho) (by rw[hl];exact nM),r.tok,
  fun t b c z o hv e ho=>r.fj t b c z o hv e (by rw[hl];exact ho),r.fS⟩,le⟩
 obtain⟨ds0,g1,g2⟩:=h.get e
 obtain⟨vs,T,h1,h2,h3,h4⟩:=r.obj o ds0 g1
 refine⟨vs,T,h1,by rw[h2,g2.len],h3,fun i d v e1 e2=>?_⟩
 obtain⟨d0,k1,k2⟩:=g2.get e1
 exact(k2 _ _ _ (h4 i d0 v k1 e2)).mono le
theorem Rel.blank {M:Map} {s:St} {w:World} (r:Rel M s w) :
 Rel (M.eZ s.aw.length none) {s with aw:=s.aw++ [some 0]} w∧Le M s (M.eZ s.aw.length none) {s with aw:=s.aw++ [some 0]}:=by
 have iH : ∀ t,St.live {s with aw:=s.aw++ [some 0]} t→s.live t∨t=s.aw.length:=by
  rintro t ⟨k,hk⟩
  rcases Nat.lt_or_ge t s.aw.length with h|h
  ·rw[List.getElem?_append_left h]at hk;exact .inl ⟨k,hk⟩
  ·have:=(List.getElem?_eq_some_iff.1 hk).1
   simp at this;exact .inr (by omega)
 have hD : ∀ t,s.live t→t<s.aw.length:=fun t ⟨k,hk⟩=>(List.getElem?_eq_some_iff.1 hk).1
 have hold : ∀ t,t<s.aw.length→(M.eZ s.aw.length none).be t=M.be t:=fun t h=>by simp[Map.eZ];omega
 have dj:(M.eZ s.aw.length none).be s.aw.length=none:=by simp[Map.eZ]
 have le:Le M s (M.eZ s.aw.length none) {s with aw:=s.aw++ [some 0]}:=
  ⟨fun _ _ _ h=>h,Nat.le_refl _,fun _ _=> .refl _,by simp,fun t k h e=>by
   rw[List.getElem?_append_left h]at e
   exact⟨k,e,Nat.le_refl _,fun _=>hold t h⟩⟩
 refine⟨⟨r.comm,fun o ds e=>?_,r.jN,r.inj,fun t k e=>?_,fun t b' c z o hl e nM=>?_,fun t t' b' c z c' z' h h' e e'=>?_⟩,le⟩
 ·obtain⟨fG,T',h3,h4,h5,h6⟩:=r.obj o ds e
  exact⟨fG,T',h3,h4,h5,fun i d v e1 e2=>(h6 i d v e1 e2).mono le⟩
 ·rcases Nat.lt_or_ge t s.aw.length with h | h
  ·rw [List.getElem?_append_left h]at e
   rw[hold t h];exact r.tok t k e
  ·have:=(List.getElem?_eq_some_iff.1 e).1
   simp at this
   have:t=s.aw.length:=by omega
   subst this
   simp at e;subst e
   exact .inl ⟨dj,rfl⟩
 ·rcases iH t hl with h | h
  ·rw[hold t (hD t h)]at e;exact r.fj t b' c z o h e nM
  ·subst h;rw[dj]at e;cases e
 ·rcases iH t h with h | h <;> rcases iH t' h' with h' | h'
  ·rw[hold t (hD t h)]at e;rw[hold t' (hD t' h')]at e';exact r.fS t t' b' c z c' z' h h' e e'
  ·subst h';rw[dj]at e';cases e'
  ·subst h;rw[dj]at e;cases e
  ·omega
theorem RD.own {M:Map} {s:St} {z z':Nat} {v:Value} (h:RD M s (.slice .full z []) v):RD (M.eZ s.aw.length none) {s with aw:=s.aw++ [some 0]} (.slice (.tok s.aw.length) z' []) v:=by
 have key : ∀ base:Option (Nat×Nat),iQ (M.eZ s.aw.length none) {s with aw:=s.aw++ [some 0]} (.tok s.aw.length) z' 0 base 0:=by
  intro base
  refine⟨by simp,fun n e=>?_⟩
  simp at e
  subst e
  exact⟨Nat.le_refl _,fun _=> .inl ⟨by simp[Map.eZ],rfl,fun h=>by cases h⟩⟩
 cases h with
 |iO _ _ cap hc ht=>subst hc;exact .iO _ _ _ rfl (key none)
 |slice _ _ _ b k cap hl hs h1 h2 ht=>
  have:cap=0:=ht
  subst this
  exact .slice _ _ [] b k 0 (Nat.le_refl _) (by simp) (by simp) (by simp) (key _)
section
variable {P:Program} {B:fW} {nt:Nat} {Q:Exit→Tm→St→Prop} {tm:Tm} {s:St}
theorem Sem.wkO {ac:AC} (ah:List (List D)) (hw:gE s.ah ah) (h:Sem P B nt ac Q tm ⟨ah,s.aw⟩):Sem P B nt ac Q tm s:=by
 intro c hc act w ⟨M,e,r,ht,h1,h2⟩
 obtain⟨r',le⟩:=r.q9 hw
 refine h c hc act w ⟨M,e.trans ⟨le,fun _ _ _ _=>rfl,fun o h1 h2=>?_,fun t b c z hl e=> .inl ⟨hl,c,z,e⟩,fun _ _ h=>(h rfl).elim,Nat.le_refl _,rfl,rfl,rfl⟩,r',fun k=>(ht k).mono le,h1,h2⟩
 simp only[← hw.len]at h2
 exact h1.elim (fun h1=>absurd h2 (Nat.not_lt.2 h1)) fun h1=>(h1 rfl).elim
theorem GR {M0 M:Map} {s0 s:St} {w0 w:World} (e:Ext M0 s0 w0 M s w) (le:Le M s (M.eZ s.aw.length none) {s with aw:=s.aw++ [some 0]}) :
 Ext M0 s0 w0 (M.eZ s.aw.length none) {s with aw:=s.aw++ [some 0]} w:=by
 refine e.trans ⟨le,fun _ _ _ _=>rfl,fun o h1 h2=>h1.elim (fun h1=>absurd h2 (Nat.not_lt.2 h1)) (fun h1=>(h1 rfl).elim),fun t b c z hl eq=>?_,fun _ _ h=>(h rfl).elim,Nat.le_refl _,rfl,rfl,rfl⟩
 obtain⟨k,hk⟩:=hl
 rcases Nat.lt_or_ge t s.aw.length with h|h
 ·refine .inl ⟨⟨k,by rw [List.getElem?_append_left h]at hk;exact hk⟩,c,z, ?_⟩
  have:(M.eZ s.aw.length none).be t=M.be t:=by simp[Map.eZ];omega
  rw[← this];exact eq
 ·have:=(List.getElem?_eq_some_iff.1 hk).1
  simp at this
  have:t=s.aw.length:=by omega
  subst this
  simp[Map.eZ]at eq
end
def aF (P:Program) (f:Nat) (args:List D) (s:St) (d:D) (s':St):Prop:=bM P f args s fun x y=>x=d∧y=s'
def pT (n m:Nat) (res:List (Nat×Option (Bool×Nat))) (d:D) (s':St):Exit→Tm→St→Prop
 | .normal,tm,s| .ret,tm,s=>∃ l,aT res tm s=some l∧Wk ((aW l).fg n m) d∧gE (s.cut n m).ah s'.ah∧(s.cut n m).aw=s'.aw
 |_,_,_=>False
theorem bM.q9 {P:Program} {f:FuncId} {args En:List D} {s:St} {Q:D→St→Prop} (ha:jr args En) (h:bM P f En s Q):bM P f args s Q:=
 fun M w fK r kC hl hr=>h M w fK r kC (by rw[hl,ha.len]) fun i d v e1 e2=>by
  obtain⟨d0,g1,g2⟩:=ha.get e1
  exact g2 _ _ _ (hr i d0 v g1 e2)
theorem bM.Ih {P:Program} {f:FuncId} {args:List D} {s:St} {Q Q':D→St→Prop} (h:bM P f args s Q) (hq : ∀ d s1,Q d s1→∃ d' s',Wk d d'∧gE s1.ah s'.ah∧s1.aw=s'.aw∧Q' d' s'):bM P f args s Q':=
 fun M w fK r kC hl ha=>(h M w fK r kC hl ha).mono fun _ _ ⟨M',d,v,s1,h1,h2,h3,h4,h5⟩=>by
  obtain⟨d',s',g1,g2,g3,g4⟩:=hq d s1 h2
  obtain⟨r',le⟩:=h4.q9 g2
  have hs:(⟨s'.ah,s1.aw⟩:St)=s':=by rw[g3]
  rw[hs]at r' le
  refine⟨M',d',v,s',h1,g4,h3.trans ⟨le,fun _ _ _ _=>rfl,fun o h1 h2=>?_,fun t b c z hl e=> .inl ⟨by obtain⟨n,hn⟩:=hl;exact⟨n,by rw[g3];exact hn⟩,c,z,e⟩,fun _ _ h=>(h rfl).elim,Nat.le_refl _,rfl,rfl,rfl⟩,r',(g1 _ _ _ h5).mono le⟩
  rw[← g2.len]at h2
  exact h1.elim (fun h1=>absurd h2 (Nat.not_lt.2 h1)) fun h1=>(h1 rfl).elim
theorem aF.intro {P:Program} {f:FuncId} {af:AF} {args:List D} {s:St} {d:D} {s':St} (h0 : ∃ fn,P.funcs[f]? = some fn∧cF P fn=some af) (hl:args.length≤af.ntmps)
 (h : ∀ B:fW,B.s=s→Sem P B af.ntmps af.body (pT s.ah.length s.aw.length af.results d s') (mT 0 args) s):aF P f args s d s':=by
 obtain⟨fn,hf,hc⟩:=h0
 refine bM.Ih (bM.intro (Q:=fun d1 s1=>Wk d1 d∧gE s1.ah s'.ah∧s1.aw=s'.aw) hf hc hl fun B hB=>(h B hB).mono fun e tm s1 hr=>?_) fun d1 s1 ⟨h1,h2,h3⟩=>⟨d,s',h1,h2,h3,rfl,rfl⟩
 subst hB
 cases e with
 |normal=>obtain⟨l,h1,h2,h3,h4⟩:=hr;exact⟨l,h1,_,_,Nat.le_refl _,Nat.le_refl _,h2,h3,h4⟩
 |ret=>obtain⟨l,h1,h2,h3,h4⟩:=hr;exact⟨l,h1,_,_,Nat.le_refl _,Nat.le_refl _,h2,h3,h4⟩
 |exit id=>exact hr.elim
 |goto l=>exact hr.elim
 |panic ch=>exact hr.elim
 |outgrown=>exact hr.elim
theorem aF.use {P:Program} {f:FuncId} {args:List D} {s:St} {d:D} {s':St} {Q:D→St→Prop} (h:aF P f args s d s') (hq:Q d s'):bM P f args s Q:=
 bM.mono h fun x y ⟨h1,h2⟩=>by subst h1;subst h2;exact hq
mutual
theorem qx (os ts:List Nat) : ∀ d,D.ok 0 0 d=true→D.cW os ts d=d
 | .junk,_=>by simp[D.cW]
 | .int k n,_=>by simp[D.cW]
 | .bool b,_=>by simp[D.cW]
 | .str l,_=>by simp[D.cW]
 | .dS,_=>by simp[D.cW]
 | .val v,_=>by simp[D.cW]
 | .fv T o,h=>by simp[D.ok]at h
 | .fR o,h=>by simp[D.ok]at h
 | .eA z o g len,h=>by simp[D.ok]at h
 | .fw o g off,h=>by simp[D.ok]at h
 | .ep z,_=>by simp[D.cW]
 | .gh f cs,h=>by
  simp only[D.ok]at h
  simp only[D.cW,fD os ts cs h]
 | .ptr o f,h=>by simp[D.ok]at h
 | .dB r f,h=>by
  simp only[D.ok]at h
  simp only[D.cW,fD os ts r h]
 | .slice g z rows,h=>by
  simp only[D.ok,Bool.and_eq_true]at h
  simp only[D.cW,jm os ts rows h.2]
  cases g with
  |tok t y=>simp[Tag.ok]at h
  |full=>rfl
  |shared=>rfl
 | .agg cs,h=>by
  simp only[D.ok]at h
  simp only[D.cW,fD os ts cs h]
 | .tuple cs,h=>by
  simp only[D.ok]at h
  simp only[D.cW,fD os ts cs h]
theorem fD (os ts:List Nat) : ∀ l,D.bK 0 0 l=true→D.e9 os ts l=l
 | [],_=>by simp[D.e9]
 |d::r,h=>by
  simp only[D.bK,Bool.and_eq_true]at h
  simp only[D.e9,qx os ts d h.1,fD os ts r h.2]
theorem jm (os ts:List Nat) : ∀ l,D.gU 0 0 l=true→D.nX os ts l=l
 | [],_=>by simp[D.nX]
 |d::r,h=>by
  simp only[D.gU,Bool.and_eq_true]at h
  simp only[D.nX,fD os ts d h.1,jm os ts r h.2]
end
mutual
theorem FI {n m n' m':Nat} (hn:n≤n') (hm:m≤m') : ∀ d,D.ok n m d=true→D.ok n' m' d=true
 | .junk,_=>rfl
 | .int k n,_=>rfl
 | .bool b,_=>rfl
 | .str l,_=>rfl
 | .dS,_=>rfl
 | .val v,_=>rfl
 | .fv T o,h=>by simp[D.ok]at h ⊢;omega
 | .fR o,h=>by simp[D.ok]at h ⊢;omega
 | .eA z o g len,h=>by simp[D.ok]at h ⊢;omega
 | .fw o g off,h=>by simp[D.ok]at h ⊢;omega
 | .ep z,_=>rfl
 | .gh f cs,h=>by
  simp only[D.ok]at h ⊢
  exact iD hn hm cs h
 | .ptr o f,h=>by simp only[D.ok,decide_eq_true_eq]at h ⊢;omega
 | .dB r f,h=>by
  simp only[D.ok]at h ⊢
  exact iD hn hm r h
 | .slice g z rows,h=>by
  simp only[D.ok,Bool.and_eq_true]at h ⊢
  refine⟨?_,mD hn hm rows h.2⟩
  cases g with
  |tok t y=>simp only[Tag.ok,decide_eq_true_eq]at h ⊢;omega
  |full=>rfl
  |shared=>rfl
 | .agg cs,h=>by
  simp only[D.ok]at h ⊢
  exact iD hn hm cs h
 | .tuple cs,h=>by
  simp only[D.ok]at h ⊢
  exact iD hn hm cs h
theorem iD {n m n' m':Nat} (hn:n≤n') (hm:m≤m') : ∀ l,D.bK n m l=true→D.bK n' m' l=true
 | [],_=>rfl
 |d::r,h=>by
  simp only[D.bK,Bool.and_eq_true]at h ⊢
  exact⟨FI hn hm d h.1,iD hn hm r h.2⟩
theorem mD {n m n' m':Nat} (hn:n≤n') (hm:m≤m') : ∀ l,D.gU n m l=true→D.gU n' m' l=true
 | [],_=>rfl
 |d::r,h=>by
  simp only[D.gU,Bool.and_eq_true]at h ⊢
  exact⟨iD hn hm d h.1,mD hn hm r h.2⟩
end
def S0:St:=⟨[],[]⟩
section
variable {P:Program} {f:Nat}
theorem aF.pure {args:List D} {d:D} (h:aF P f args S0 d S0) (ha:D.bK 0 0 args=true) (hd:D.ok 0 0 d=true) (s:St):aF P f args s d s:=by
 refine bM.frame [] [] h List.nodup_nil List.nodup_nil (by simp) (by simp) rfl (by simp) rfl (by simp) (by rw[fD _ _ _ ha]) ha ?_
 rintro _ _ ⟨rfl,rfl⟩
 refine⟨qx _ _ _ hd, ?_⟩
 simp[St.back,kH,S0]
theorem aF.TL {args row kv:List D} {d:D} (h:aF P f (.ptr 0 0::args) ⟨[row],[]⟩ d ⟨[kv],[]⟩) (ha:D.bK 0 0 args=true) (hr:D.bK 0 0 row=true) (Qo:D.bK 0 0 kv=true) (hd:D.ok 0 0 d=true)
 {s:St} {o:Nat} (ho:s.ah[o]? = some row):aF P f (.ptr o 0::args) s d ⟨s.ah.set o kv,s.aw⟩:=by
 refine bM.frame [o] [] h (by simp) List.nodup_nil (by simpa using (List.getElem?_eq_some_iff.1 ho).1) (by simp) rfl (fun i o' ds e1 e2=>?_) rfl (by simp) (by simp[D.e9,D.cW,fD _ _ _ ha])
  (by simp[D.bK,D.ok,iD (Nat.zero_le 1) (Nat.le_refl 0) _ ha]) ?_
 ·cases i with
  |zero=>simp at e1 e2;subst e1;subst e2;exact⟨by rw[fD _ _ _ hr];exact ho,iD (Nat.zero_le 1) (Nat.le_refl 0) _ hr⟩
  |succ i=>simp at e1
 ·rintro _ _ ⟨rfl,rfl⟩
  refine⟨qx _ _ _ hd, ?_⟩
  simp[St.back,kH,fD _ _ _ Qo]
end
end Go.Abs
namespace Go.Abs
theorem X.bZ {x:X} {tm bx:Tm} (h : ∀ t∈x.reads,tm.get t=bx.get t):x.ev tm=x.ev bx:=by
 cases x with
 |s t=>exact h t (by simp[X.reads])
 |k d=>rfl
theorem rf {t:Nat} {x:X} : ∀ {l:List X},x∈l→t∈x.reads→t∈oe l
 | [],h,_=>by cases h
 |y::r,h,ht=>by
  simp only[oe,List.mem_append]
  rcases List.mem_cons.1 h with rfl|h
  ·exact .inl ht
  ·exact .inr (rf h ht)
theorem wA {x:Option X} {tm bx:Tm} (h : ∀ t∈AZ x,tm.get t=bx.get t):x.map (·.ev tm)=x.map (·.ev bx):=by
 cases x with
 |none=>rfl
 |some y=>simp only[Option.map_some];rw[X.bZ h]
theorem C4 {o:AO} {tm bx:Tm} {s:St} (h : ∀ t∈o.reads,tm.get t=bx.get t):aJ o tm s=aJ o bx s:=by
 cases o with
 |mv x=>
  have hx:x.ev tm=x.ev bx:=X.bZ fun t ht=>h t (by simp[AO.reads,ht])
  simp only[aJ,hx]
 |pick c a b=>
  have hc:c.ev tm=c.ev bx:=X.bZ fun t ht=>h t (by simp[AO.reads,ht])
  have ha:a.ev tm=a.ev bx:=X.bZ fun t ht=>h t (by simp[AO.reads,ht])
  have hb:b.ev tm=b.ev bx:=X.bZ fun t ht=>h t (by simp[AO.reads,ht])
  simp only[aJ,hc,ha,hb]
 |alloc z=>
  rfl
 |sT z T=>rfl
 |AW x T=>
  have hx:x.ev tm=x.ev bx:=X.bZ fun t ht=>h t (by simp[AO.reads,ht])
  simp only[aJ,hx]
 |AX x y=>
  have hx:x.ev tm=x.ev bx:=X.bZ fun t ht=>h t (by simp[AO.reads,ht])
  have hy:y.ev tm=y.ev bx:=X.bZ fun t ht=>h t (by simp[AO.reads,ht])
  simp only[aJ,hx,hy]
 |apps x y=>
  have hx:x.ev tm=x.ev bx:=X.bZ fun t ht=>h t (by simp[AO.reads,ht])
  have hy:y.ev tm=y.ev bx:=X.bZ fun t ht=>h t (by simp[AO.reads,ht])
  simp only[aJ,hx,hy]
 |box x=>
  have hx:x.ev tm=x.ev bx:=X.bZ fun t ht=>h t (by simp[AO.reads,ht])
  simp only[aJ,hx]
 |AT x=>
  have hx:x.ev tm=x.ev bx:=X.bZ fun t ht=>h t (by simp[AO.reads,ht])
  simp only[aJ,hx]
 |load x g n=>
  have hx:x.ev tm=x.ev bx:=X.bZ fun t ht=>h t (by simp[AO.reads,ht])
  simp only[aJ,hx]
 |store p x n=>
  have hp:p.ev tm=p.ev bx:=X.bZ fun t ht=>h t (by simp[AO.reads,ht])
  have hx:x.ev tm=x.ev bx:=X.bZ fun t ht=>h t (by simp[AO.reads,ht])
  simp only[aJ,hp,hx]
 |bV x=>
  have hx:x.ev tm=x.ev bx:=X.bZ fun t ht=>h t (by simp[AO.reads,ht])
  simp only[aJ,hx]
 |bin op x y=>
  have hx:x.ev tm=x.ev bx:=X.bZ fun t ht=>h t (by simp[AO.reads,ht])
  have hy:y.ev tm=y.ev bx:=X.bZ fun t ht=>h t (by simp[AO.reads,ht])
  simp only[aJ,hx,hy]
 |Gw n x y=>
  have hx:x.ev tm=x.ev bx:=X.bZ fun t ht=>h t (by simp[AO.reads,ht])
  have hy:y.ev tm=y.ev bx:=X.bZ fun t ht=>h t (by simp[AO.reads,ht])
  simp only[aJ,hx,hy]
 |eqs n ks x y=>
  have hx:x.ev tm=x.ev bx:=X.bZ fun t ht=>h t (by simp[AO.reads,ht])
  have hy:y.ev tm=y.ev bx:=X.bZ fun t ht=>h t (by simp[AO.reads,ht])
  simp only[aJ,hx,hy]
 |Gx n x y=>
  have hx:x.ev tm=x.ev bx:=X.bZ fun t ht=>h t (by simp[AO.reads,ht])
  have hy:y.ev tm=y.ev bx:=X.bZ fun t ht=>h t (by simp[AO.reads,ht])
  simp only[aJ,hx,hy]
 |un op x=>
  have hx:x.ev tm=x.ev bx:=X.bZ fun t ht=>h t (by simp[AO.reads,ht])
  simp only[aJ,hx]
 |conv k x=>
  have hx:x.ev tm=x.ev bx:=X.bZ fun t ht=>h t (by simp[AO.reads,ht])
  simp only[aJ,hx]
 |D4 x=>
  have hx:x.ev tm=x.ev bx:=X.bZ fun t ht=>h t (by simp[AO.reads,ht])
  simp only[aJ,hx]
 |xU x=>
  have hx:x.ev tm=x.ev bx:=X.bZ fun t ht=>h t (by simp[AO.reads,ht])
  simp only[aJ,hx]
 |aq x n=>
  have hx:x.ev tm=x.ev bx:=X.bZ fun t ht=>h t (by simp[AO.reads,ht])
  simp only[aJ,hx]
 |CT x n g m=>
  have hx:x.ev tm=x.ev bx:=X.bZ fun t ht=>h t (by simp[AO.reads,ht])
  simp only[aJ,hx]
 |cf x i n=>
  have hx:x.ev tm=x.ev bx:=X.bZ fun t ht=>h t (by simp[AO.reads,ht])
  have hi:i.ev tm=i.ev bx:=X.bZ fun t ht=>h t (by simp[AO.reads,ht])
  simp only[aJ,hx,hi]
 |AV x i=>
  have hx:x.ev tm=x.ev bx:=X.bZ fun t ht=>h t (by simp[AO.reads,ht])
  have hi:i.ev tm=i.ev bx:=X.bZ fun t ht=>h t (by simp[AO.reads,ht])
  simp only[aJ,hx,hi]
 |ext x i=>
  have hx:x.ev tm=x.ev bx:=X.bZ fun t ht=>h t (by simp[AO.reads,ht])
  simp only[aJ,hx]
 |len x=>
  have hx:x.ev tm=x.ev bx:=X.bZ fun t ht=>h t (by simp[AO.reads,ht])
  simp only[aJ,hx]
 |vb x=>
  have hx:x.ev tm=x.ev bx:=X.bZ fun t ht=>h t (by simp[AO.reads,ht])
  simp only[aJ,hx]
 |app a b x y=>
  have hx:x.ev tm=x.ev bx:=X.bZ fun t ht=>h t (by simp[AO.reads,ht])
  have hy:y.ev tm=y.ev bx:=X.bZ fun t ht=>h t (by simp[AO.reads,ht])
  simp only[aJ,hx,hy]
 |mm b x y=>
  have hx:x.ev tm=x.ev bx:=X.bZ fun t ht=>h t (by simp[AO.reads,ht])
  have hy:y.ev tm=y.ev bx:=X.bZ fun t ht=>h t (by simp[AO.reads,ht])
  simp only[aJ,hx,hy]
 | build z ps=>
  have hp:(ps.map fun p=>(p.1,p.2.1,p.2.2.ev tm))=ps.map fun p=>(p.1,p.2.1,p.2.2.ev bx):=List.map_congr_left fun p hp=>by
   have:p.2.2.ev tm=p.2.2.ev bx:=X.bZ fun t ht=>h t (by simp only[AO.reads];exact rf (List.mem_map_of_mem hp) ht)
   rw[this]
  simp only[aJ,hp]
 | dA z m n ps=>
  have hp:(ps.map fun p=>(p.1,p.2.ev tm))=ps.map fun p=>(p.1,p.2.ev bx):=List.map_congr_left fun p hp=>by
   have:p.2.ev tm=p.2.ev bx:=X.bZ fun t ht=>h t (by simp only[AO.reads];exact rf (List.mem_map_of_mem hp) ht)
   rw[this]
  simp only[aJ,hp]
 | va z m n ps=>
  have hp:(ps.map fun p=>(p.1,p.2.ev tm))=ps.map fun p=>(p.1,p.2.ev bx):=List.map_congr_left fun p hp=>by
   have:p.2.ev tm=p.2.ev bx:=X.bZ fun t ht=>h t (by simp only[AO.reads];exact rf (List.mem_map_of_mem hp) ht)
   rw[this]
  simp only[aJ,hp]
 |AU n x lo hi=>
  have hx:x.ev tm=x.ev bx:=X.bZ fun t ht=>h t (by simp[AO.reads,ht])
  have hl:lo.map (·.ev tm)=lo.map (·.ev bx):=wA fun t ht=>h t (by simp[AO.reads,ht])
  have hh:hi.map (·.ev tm)=hi.map (·.ev bx):=wA fun t ht=>h t (by simp[AO.reads,ht])
  simp only[aJ,hx,hl,hh]
 |Iy x lo hi=>
  have hx:x.ev tm=x.ev bx:=X.bZ fun t ht=>h t (by simp[AO.reads,ht])
  have hl:lo.map (·.ev tm)=lo.map (·.ev bx):=wA fun t ht=>h t (by simp[AO.reads,ht])
  have hh:hi.map (·.ev tm)=hi.map (·.ev bx):=wA fun t ht=>h t (by simp[AO.reads,ht])
  simp only[aJ,hx,hl,hh]
 |uK f xs=>
  have hp:(xs.map fun x=>x.ev tm)=xs.map fun x=>x.ev bx:=List.map_congr_left fun x hx=>X.bZ fun t ht=>h t (by simp only[AO.reads];exact rf hx ht)
  simp only[aJ,hp]
 |uL=>rfl
 |yP m k v=>
  have hm:m.ev tm=m.ev bx:=X.bZ fun t ht=>h t (by simp[AO.reads,ht])
  have hk:k.ev tm=k.ev bx:=X.bZ fun t ht=>h t (by simp[AO.reads,ht])
  have hv:v.ev tm=v.ev bx:=X.bZ fun t ht=>h t (by simp[AO.reads,ht])
  simp only[aJ,hm,hk,hv]
 |AY a b z l c=>
  have hl:l.ev tm=l.ev bx:=X.bZ fun t ht=>h t (by simp[AO.reads,ht])
  have hk:c.ev tm=c.ev bx:=X.bZ fun t ht=>h t (by simp[AO.reads,ht])
  simp only[aJ,hl,hk]
 |qO o x y=>
  have hx:x.ev tm=x.ev bx:=X.bZ fun t ht=>h t (by simp[AO.reads,ht])
  have hy:y.ev tm=y.ev bx:=X.bZ fun t ht=>h t (by simp[AO.reads,ht])
  simp only[aJ,hx,hy]
 |wj m k z=>
  have hm:m.ev tm=m.ev bx:=X.bZ fun t ht=>h t (by simp[AO.reads,ht])
  have hk:k.ev tm=k.ev bx:=X.bZ fun t ht=>h t (by simp[AO.reads,ht])
  simp only[aJ,hm,hk]
theorem KW {x d:D} {agg:Bool} {size:Nat} {s s':St} (h:yR x agg size s=some (d,s')):s'=s:=by
 unfold yR at h
 (repeat' (split at h))<;>first|(cases h;rfl)|cases h
theorem KX {o:AO} (ho:gK o.kind=false) {tm:Tm} {s s':St} {d:D} (h:aJ o tm s=some (d,s')):s'=s:=by
 cases o<;>simp only[AO.kind,gK]at ho<;>first|cases ho|skip
 all_goals
  simp only[aJ]at h
  first
   |(cases h;rfl)
   |(repeat' (split at h))<;>first|exact KW h|(cases h;rfl)|cases h
theorem Nu {o:AO} (ho:o.kind = .pure) {tm:Tm} {s s':St} : (aJ o tm s).map (·.1)=(aJ o tm s').map (·.1):=by
 cases o<;>simp only[AO.kind]at ho<;>first|cases ho|skip
 all_goals
  simp only[aJ]
  first
   |rfl
   |(repeat' split)<;>rfl
def jU (ai:AI) (tm:Tm) (s:St):Option D:=
 match ai with
 | .op _ none o=>(aJ o tm s).map (·.1)
 | .op _ (some (t,want)) o=>
  match tm.get t with
  | .bool b=>if b=want then(aJ o tm s).map (·.1)else some (.tuple [])
  | .tuple _=>some (.tuple [])
  |_=>none
 |_=>none
def sF (P:Program) (ai:AI) (tm:Tm) (s:St) (d:D) (s':St):Prop:=
 match ai with
 | .op _ g o=>guarded g tm (aJ o tm s=some (d,s')) (d = .tuple []∧s'=s)
 | .call _ g f xs=>guarded g tm (bM P f (xs.map (·.ev tm)) s fun x y=>x=d∧y=s') (d = .tuple []∧s'=s)
 | .nil .. =>False
 | .jt .. =>False
def kU (P:Program) (is:List AI) (K:Tm→St→Prop):List (Nat×Nat)→List St→Tm→St→Prop
 | [],_,tm,s=>K tm s
 | (q,b)::r,bI,tm,s=>
  match is[q]? with
  |none=>False
  |some ai=>
   match gK ai.kind with
   |true=>∃ d s',sF P ai tm s d s'∧kU P is K r (s::bI) (tm.put ai.dst d) s'
   |false=>∃ d,jU ai tm s=some d∧(ai.kind = .load→∀ s'∈bI.take b,jU ai tm s'=some d)∧kU P is K r bI (tm.put ai.dst d) s
def Tm.eqv (a b:Tm):Prop:=∀ t,a.get t=b.get t
theorem Tm.lB (tm:Tm) (dst:Option Nat) (d:D) (t:Nat):(tm.put dst d).get t=if dst=some t then d else tm.get t:=by
 cases dst with
 |none=>simp[Tm.put]
 |some u=>
  simp only[Tm.put,Tm.FD,Option.some.injEq]
  by_cases h:t=u
  ·subst h;simp
  ·rw[if_neg h,if_neg (fun e=>h e.symm)]
theorem Tm.eqv.put {a b:Tm} (h:a.eqv b) (dst:Option Nat) (d:D):(a.put dst d).eqv (b.put dst d):=fun t=>by
 rw[Tm.lB,Tm.lB,h t]
theorem Tm.I9 (tm:Tm) {x y:Option Nat} (h : ∀ t,x=some t→y≠some t) (d e:D):((tm.put x d).put y e).eqv ((tm.put y e).put x d):=fun t=>by
 simp only[Tm.lB]
 by_cases h1:x=some t
 ·simp only[h1,h t h1,if_true,if_false]
 ·simp only[h1,if_false]
theorem Ap {g:Option (Nat×Bool)} {tm bx:Tm} {A A' C:Prop} (h : ∀ t∈ve g,tm.get t=bx.get t) (ha:A→A') (hh:guarded g tm A C):guarded g bx A' C:=by
 cases g with
 |none=>exact ha hh
 | some p=>
  obtain⟨t,want⟩:=p
  unfold guarded at *
  simp only at *
  rw[← h t (by simp[ve])]
  split
  ·rename_i b hb
   rw[hb]at hh
   exact⟨fun e=>ha (hh.1 e),hh.2⟩
  ·rename_i hb
   rw[hb]at hh
   exact hh
  ·rename_i x h1 h2
   split at hh
   ·exact h1 _ ‹_›
   ·exact h2 _ ‹_›
   ·exact hh
theorem GU {tm bx:Tm} : ∀ {l:List X},(∀ t∈oe l,tm.get t=bx.get t)→l.map (·.ev tm)=l.map (·.ev bx)
 | [],_=>rfl
 |x::r,h=>by
  simp only[List.map_cons]
  rw[X.bZ fun t ht=>h t (by simp[oe,ht]),GU (l:=r) fun t ht=>h t (by simp[oe,ht])]
theorem xn {P:Program} {ai:AI} {tm bx:Tm} {s s':St} {d:D} (h : ∀ t∈ai.reads,tm.get t=bx.get t) (hh:sF P ai tm s d s'):sF P ai bx s d s':=by
 cases ai with
 |op dst g o=>
  simp only[AI.reads,List.mem_append]at h
  exact Ap (fun t ht=>h t (.inl ht)) (fun e=>by rw[← C4 fun t ht=>h t (.inr ht)];exact e) hh
 |call dst g f xs=>
  simp only[AI.reads,List.mem_append]at h
  exact Ap (fun t ht=>h t (.inl ht)) (fun e=>by rw[← GU fun t ht=>h t (.inr ht)];exact e) hh
 |nil dst g n x=>exact hh
 |jt dst g t xs=>exact hh
theorem qK {ai:AI} {tm bx:Tm} {s:St} (h : ∀ t∈ai.reads,tm.get t=bx.get t):jU ai tm s=jU ai bx s:=by
 cases ai with
 | op dst g o=>
  simp only[AI.reads,List.mem_append]at h
  have he:=C4 (s:=s) fun t ht=>h t (.inr ht)
  cases g with
  |none=>simp only[jU,he]
  |some p=>
   obtain⟨t,want⟩:=p
   simp only[jU,he,h t (.inl (by simp[ve]))]
 |call dst g f xs=>rfl
 |nil dst g n x=>rfl
 |jt dst g t xs=>rfl
theorem LL {dst:Option Nat} {g:Option (Nat×Bool)} {o:AO} (h:gK (AI.op dst g o).kind=false):(AI.op dst g o).kind=o.kind:=by
 unfold AI.kind at *
 split at h
 ·cases h
 ·rename_i heq;cases heq;rfl
 ·cases h
theorem TN {ai:AI} (hk:ai.kind = .pure) {tm:Tm} {s s':St} : jU ai tm s=jU ai tm s':=by
 cases ai with
 |op dst g o=>
  have ho:o.kind = .pure:=by rw[← hk];exact(LL (by rw[hk];rfl)).symm
  have he:=Nu ho (tm:=tm) (s:=s) (s':=s')
  cases g with
  |none=>simp only[jU,he]
  |some p=>simp only[jU,he]
 |call dst g f xs=>rfl
 |nil dst g n x=>rfl
 |jt dst g t xs=>rfl
theorem apart_spec {a q:AI} (h:a.apart q=true):(∀ t,a.dst=some t→t∉q.reads)∧(∀ t,q.dst=some t→t∉a.reads)∧(∀ t,a.dst=some t→q.dst≠some t):=by
 unfold AI.apart at h
 simp only[Bool.and_eq_true]at h
 obtain⟨⟨h1,h2⟩,h3⟩:=h
 refine⟨fun t e=>?_,fun t e=>?_,fun t e e'=>?_⟩
 ·rw[e]at h1;simpa[D6]using h1
 ·rw[e]at h2;simpa[D6]using h2
 ·rw[e,e']at h3;simp at h3
theorem sG {tm:Tm} {dst:Option Nat} {d:D} {l:List Nat} (h : ∀ t,dst=some t→t∉l) : ∀ t∈l,tm.get t=(tm.put dst d).get t:=fun t ht=>by
 rw[Tm.lB,if_neg fun e=>h t e ht]
section
variable {P:Program} {is:List AI} {K:Tm→St→Prop}
theorem sH (hK : ∀ tm bx s,Tm.eqv tm bx→K tm s→K bx s) : ∀ (R:List (Nat×Nat)) (bI:List St) (tm bx:Tm) (s:St),tm.eqv bx→kU P is K R bI tm s→kU P is K R bI bx s
 | [],_,tm,bx,s,e,h=>hK tm bx s e h
 | (q,b)::R,bI,tm,bx,s,e,h=>by
  unfold kU at *
  split at h
  ·exact h.elim
  ·rename_i ai wz
   split at h
   ·rename_i hc
    obtain⟨d,s',h1,h2⟩:=h
    exact⟨d,s',xn (fun t _=>e t) h1,sH hK R _ _ _ _ (e.put _ d) h2⟩
   ·rename_i hc
    obtain⟨d,h1,h2,h3⟩:=h
    refine⟨d, ?_,fun hl s' nc=>?_,sH hK R _ _ _ _ (e.put _ d) h3⟩
    ·rw[← qK fun t _=>e t];exact h1
    ·rw[← qK fun t _=>e t];exact h2 hl s' nc
theorem Ja (i:Nat) (l:List Nat):jI is (i::l)=(if gK (ju is i)then 1 else 0)+jI is l:=by
 unfold jI
 rw[List.filter_cons]
 split<;>simp<;>omega
theorem xo (hK : ∀ tm bx s,Tm.eqv tm bx→K tm s→K bx s) {q b:Nat} {ai:AI} (hq:is[q]? = some ai) (hm:gK ai.kind=false) (Y:List (Nat×Nat)) :
 ∀ (X:List (Nat×Nat)) (bI:List St) (tm:Tm) (s:St),(∀ a∈X,lr is a.1 q=true)→(ai.kind = .load→jI is (X.map (·.1))≤b)→
  kU P is K (X++(q,b)::Y) bI tm s→
  ∃ d,jU ai tm s=some d∧(ai.kind = .load→∀ s'∈bI.take (b - jI is (X.map (·.1))),jU ai tm s'=some d)∧kU P is K (X++Y) bI (tm.put ai.dst d) s
 | [],bI,tm,s,_,_,h=>by
  simp only[List.nil_append,kU,hq,hm]at h
  obtain⟨d,h1,h2,h3⟩:=h
  exact⟨d,h1,fun hl s' nc=>h2 hl s' (by simpa[jI]using nc),h3⟩
 | (a,c)::X,bI,tm,s,eR,hb,h=>by
  have Nv:=eR (a,c) (by simp)
  unfold lr at Nv
  split at Nv
  ·rename_i ia iq hia uB
   rw[hq]at uB
   cases uB
   obtain⟨p1,p2,p3⟩:=apart_spec Nv
   have Qx:ju is a=ia.kind:=by simp[ju,hia]
   have Ie : ∀ x∈X,lr is x.1 q=true:=fun x hx=>eR x (List.mem_cons_of_mem _ hx)
   rw[List.map_cons,Ja,Qx]at hb ⊢
   simp only[List.cons_append,kU,hia]at h ⊢
   cases hc:gK ia.kind
   ·simp only [hc,Bool.false_eq_true,if_false,Nat.zero_add]at h hb ⊢
    obtain⟨d,h1,h2,h3⟩:=h
    obtain⟨e,g1,g2,g3⟩:=xo hK hq hm Y X bI _ s Ie hb h3
    have cg : ∀ s,jU ai tm s=jU ai (tm.put ia.dst d) s:=fun s=>qK (sG p1)
    have cg' : ∀ s,jU ia tm s=jU ia (tm.put ai.dst e) s:=fun s=>qK (sG p2)
    refine⟨e,by rw[cg];exact g1,fun hl s' nc=>by rw[cg];exact g2 hl s' nc,d,by rw[← cg'];exact h1,fun hl s' nc=>by rw[← cg'];exact h2 hl s' nc, ?_⟩
    exact sH hK _ _ _ _ _ (Tm.I9 tm p3 d e) g3
   ·simp only [hc,if_true]at h hb ⊢
    obtain⟨d,s1,h1,h3⟩:=h
    obtain⟨e,g1,g2,g3⟩:=xo hK hq hm Y X (s::bI) _ s1 Ie (fun hl=>by have:=hb hl;omega) h3
    have cg : ∀ s,jU ai tm s=jU ai (tm.put ia.dst d) s:=fun s=>qK (sG p1)
    have ql:jU ai tm s=some e:=by
     cases hk:ai.kind with
     |pure=>rw[cg,TN hk (s':=s1)];exact g1
     |load=>
      have:=hb hk
      rw[cg]
      refine g2 hk s ?_
      rw[show b - jI is (X.map (·.1))=(b - (1+jI is (X.map (·.1))))+1 by omega,List.take_succ_cons]
      exact List.mem_cons_self
     |alloc=>rw[hk]at hm;cases hm
     |core=>rw[hk]at hm;cases hm
    refine⟨e,ql,fun hl s' nc=>?_,d,s1,xn (sG p2) h1,sH hK _ _ _ _ _ (Tm.I9 tm p3 d e) g3⟩
    have:=hb hl
    rw[cg]
    refine g2 hl s' ?_
    rw[show b - jI is (X.map (·.1))=(b - (1+jI is (X.map (·.1))))+1 by omega,List.take_succ_cons]
    exact List.mem_cons_of_mem _ nc
  ·cases Nv
end
end Go.Abs
namespace Go.Abs
section
variable {P:Program}
theorem QL {o:Oper} {z:List D} (h:D8 P o=some (.alloc z)) : ∃ t,o.op = .alloc t∧zeroOf P t=some z:=by
 obtain⟨dst,op,type,pos,after,guard⟩:=o
 unfold D8 at h
 simp only at h
 split at h
 case h_4 t=>
  split at h
  ·obtain⟨z',h1,h2⟩:=map_some h;cases h2
  ·obtain⟨z',h1,h2⟩:=map_some h;cases h2;exact⟨t,rfl,h1⟩
 all_goals
  first
   |(rw[Option.map_eq_some_iff]at h;obtain⟨_,_,h⟩:=h;cases h)
   |skip
 all_goals
  (repeat' (split at h))<;>first|(cases h;done)|(rw[Option.map_eq_some_iff]at h;obtain⟨_,_,h⟩:=h;cases h)
theorem Bn {nt:Nat} {ops:Array Oper} {o:Oper} {ai:AI} (h:cI P nt ops o=some ai) :
 ∃ g,vf ops o.guard=some g∧(∀ t,o.dst=some t→t<nt)∧sA P ops o g=some ai:=by
 have h2:=yh h
 unfold cI at h
 split at h
 ·cases h
 ·rename_i g hg
  split at h
  ·exact⟨g,hg,h2,h⟩
  ·cases h
theorem s8 {ops:Array Oper} {o:Oper} {g:Option (Nat×Bool)} {ai:AI} (h:sA P ops o g=some ai):ai.dst=o.dst:=by
 unfold sA at h
 split at h
 ·split at h
  ·obtain⟨xs,_,rfl⟩:=map_some h;rfl
  ·cases h
 ·obtain⟨xs,_,rfl⟩:=map_some h;rfl
 ·split at h
  ·cases h;rfl
  ·split at h
   ·cases h;rfl
   ·cases h;rfl
   ·cases h
theorem s9 {nt:Nat} {ops:Array Oper} {o:Oper} {ai:AI} (h:cI P nt ops o=some ai):ai.dst=o.dst:=by
 obtain⟨g,_,_,h⟩:=Bn h
 exact s8 h
theorem xp {nt:Nat} {ops:Array Oper} {i:Nat} {o:Oper} {ai:AI} (hi:ops[i]? = some o) (hc:cI P nt ops o=some ai)
 {M:Map} {s:St} {w:World} {tm:Tm} {act:Act} (r:Rel M s w) (kC:Laid M s w) (ht:l8 M s tm act.tmps) {K':Tm→St→Prop} (h:iZ P [ai] K' tm s)
 {K:Act→World→Prop} {Q:Exit→Act→World→Prop}
 (hK : ∀ d v s1 w1 M1,K' (tm.put ai.dst d) s1→Ext M s w M1 s1 w1→Rel M1 s1 w1→RD M1 s1 d v→K (act.put o.dst v) w1):wpOp P ops Q i K act w:=by
 obtain⟨g,hg,_,hb⟩:=Bn hc
 rw[s8 hb]at hK
 simp only[wpOp,hi]
 have skip:K' (tm.put o.dst (.tuple [])) s→K (act.put o.dst Go.undef) w:=fun hk=>hK _ _ _ _ _ hk (Ext.refl M s w) r .undef
 unfold sA at hb
 split at hb
 ·rename_i f args mO mN
  split at hb
  ·rename_i zc
   obtain⟨xs,oP,rfl⟩:=map_some hb
   simp only[iZ]at h
   rcases kn hg ht h with ⟨hw,hA⟩|⟨hw,hB⟩
   ·simp only [hw,if_true]
    left
    have hex:(execOp act.eval o).run P w = .ok (.enter f (args.map act.eval)) w:=by
     obtain⟨dst,op,type,pos,after,guard⟩:=o
     simp only at mN
     subst mN
     exact xk act.eval dst f args mO type pos after guard rfl zc w
    obtain⟨c1,c2⟩:=wy ht oP
    unfold Oper.wp
    rw[hex,Oper.upon_enter]
    refine(hA M w (args.map act.eval) r kC (by simp[c1]) (fun i d v e1 e2=>c2 i d v e1 (by simpa using e2))).mono ?_
    rintro en w' ⟨M',d,v,s',rfl,hk,e',r',hv⟩
    exact hK _ _ _ _ _ hk e' r' hv
   ·simp only [hw]
    exact skip hB
  ·cases hb
 ·rename_i t args mO mN
  obtain⟨xs,oP,rfl⟩:=map_some hb
  simp only[iZ]at h
  rcases kn hg ht h with ⟨hw,hA⟩|⟨hw,hB⟩
  ·simp only [hw,if_true]
   left
   split at hA
   ·rename_i f nR oO
    obtain⟨zc,hA⟩:=hA
    have QA:=ht t
    rw[oO]at QA
    obtain⟨vs,o5,hlen,Ej⟩:=QA.LG
    have hex:(execOp act.eval o).run P w = .ok (.enter f (args.map act.eval++vs)) w:=by
     obtain⟨dst,op,type,pos,after,guard⟩:=o
     simp only at mN
     subst mN
     exact Bi act.eval dst (.tmp t) f vs args mO type pos after guard o5 zc w
    have cc:=GO oP ht hlen Ej
    unfold Oper.wp
    rw[hex,Oper.upon_enter]
    refine(hA M w (args.map act.eval++vs) r kC cc.1 cc.2).mono ?_
    rintro en w' ⟨M',d,v,s',rfl,hk,e',r',hv⟩
    exact hK _ _ _ _ _ hk e' r' hv
   ·exact hA.elim
  ·simp only [hw]
   exact skip hB
 ·split at hb
  ·rename_i neg x Dt
   cases hb
   simp only[iZ]at h
   rcases kn hg ht h with ⟨hw,hA⟩|⟨hw,hB⟩
   ·simp only [hw,if_true]
    left
    split at hA
    ·rename_i g' z rows hx
     obtain⟨b,hb,hex⟩:=Al (w:=w) Dt ht hx
     unfold Oper.wp
     rw[hex,Oper.upon_value]
     exact hK _ _ _ _ _ (hA b hb) (Ext.refl M s w) r (.bool _)
    ·exact hA.elim
   ·simp only [hw]
    exact skip hB
  ·have fin : ∀ ao,ai = .op o.dst g ao→(∀ d s',aJ ao tm s=some (d,s')→cT P M s w (execOp act.eval o) d s')→
    (if Region.wanted o (yielded ops act.tmps)=true then o.wp P act w K Q∨(o.asks P act w∧LetsOut Q)else K (act.put o.dst Go.undef) w):=by
    intro ao wz hdo
    subst wz
    simp only[iZ]at h
    rcases kn hg ht h with ⟨hw,hA⟩|⟨hw,hB⟩
    ·simp only [hw,if_true]
     left
     split at hA
     ·rename_i d s' qI
      obtain⟨v,w',M',dI,r',hv,e'⟩:=hdo d s' qI
      unfold Oper.wp
      rcases dI with dI|⟨dI,rfl⟩
      ·rw [dI,Oper.upon_value]
       exact hK _ _ _ _ _ hA e' r' hv
      ·rw [dI,Oper.upon_skip]
       exact hK _ _ _ _ _ hA e' r' hv
     ·exact hA.elim
    ·simp only [hw]
     exact skip hB
   split at hb
   ·rename_i z k n ps oh
    cases hb
    refine fin _ rfl (fun d s' qI=>?_)
    split at qI
    ·exact zb oh r ht qI
    ·exact sE oh r ht qI
   ·rename_i ao oh
    cases hb
    exact fin _ rfl (fun d s' qI=>sE oh r ht qI)
   ·cases hb
structure LM (M:Map) (s:St) (b:Nat):Prop where
 o : ∀ o,o<s.ah.length→M.mu o≠b
 t : ∀ t c z,s.live t→M.be t≠some (b,c,z)
 g : ∀ off,M.G b off=none
theorem LM.mono {M M':Map} {s s':St} {w w':World} {b:Nat} (h:LM M s b) (e:Ext M s w M' s' w') (hb:b<w.heap.size):LM M' s' b:=by
 refine⟨fun o ho=>?_,fun t c z hl he=>?_,fun off=>?_⟩
 ·rcases e.mo ho with ⟨h1,h2⟩ | h1
  ·rw[h2];exact h.o o h1
  ·omega
 ·rcases e.qs t b c z hl he with ⟨h1,c',z',h2⟩ | h1
  ·exact h.t t c' z' h1 h2
  ·omega
 ·by_cases hg:M'.G b off=M.G b off
  ·rw[hg];exact h.g off
  ·rcases e.rZ b off hg with h1 | ⟨t,c,z,h1,h2⟩
   ·omega
   ·exact(h.t t c z h1 h2).elim
theorem Rel.idle {M:Map} {s:St} {w:World} (r:Rel M s w) (x:Obj):Rel M s (w.alloc x)∧Ext M s w M s (w.alloc x)∧LM M s w.heap.size:=by
 refine⟨⟨fun b o v e=>?_,fun o ds e=>?_,r.jN,r.inj,fun t n e=>?_,r.fj,r.fS⟩, ?_,⟨fun o ho=>?_,fun t c z hl e=>?_,fun off=>r.MM (Nat.le_refl _) off⟩⟩
 ·obtain⟨h3,h4⟩:=r.comm b o v e
  refine⟨?_,h4⟩
  rw[World.cell?_alloc_lt]
  ·exact h3
  ·exact r.A4 e
 ·obtain⟨vs,T,h3,h4,h5,h6⟩:=r.obj o ds e
  exact⟨vs,T,h3.keep (heap_alloc_old w _ _ h3.lt),h4,h5,h6⟩
 ·rcases r.tok t n e with h3 | ⟨b,cap,size,fG,T',h3,h4,h5⟩
  ·exact .inl h3
  ·exact .inr ⟨b,cap,size,fG,T',h3,by rw[heap_alloc_old w _ _ (kj h4)];exact h4,h5⟩
 ·exact⟨Le.refl M s,fun b hb _ _=>heap_alloc_old w _ b hb,fun o h3 h4=>by rcases h3 with h3|h3;omega;exact(h3 rfl).elim,fun t b c z h e=> .inl ⟨h,c,z,e⟩,fun _ _ h=>(h rfl).elim,by simp,rfl,rfl,rfl⟩
 ·have:=r.qj ho;omega
 ·have:=r.sB hl e;omega
theorem Rel.afo {M:Map} {s:St} {w:World} (r:Rel M s w) {B:fW} (e:Ext B.M B.s B.w M s w) {b:Nat} (u:LM M s b) (hb:B.w.heap.size≤b)
 (ds:List D) (vs:Array Value) (T:TypeId) (hh:w.heap[b]? = some (.cells vs T (0,0))) (hl:vs.size=ds.length) (h1 : ∀ v∈vs,v.oneCell'=true)
 (h2 : ∀ (i:Nat) (d:D) (v:Value),ds[i]? = some d→vs[i]? = some v→RD M s d v) :
 Rel (M.dO s.ah.length b) {s with ah:=s.ah++ [ds]} w∧Ext B.M B.s B.w (M.dO s.ah.length b) {s with ah:=s.ah++ [ds]} w∧
 Le M s (M.dO s.ah.length b) {s with ah:=s.ah++ [ds]}:=by
 have le:=sb (M:=M) s b ds
 have mY : ∀ o,o<s.ah.length→(M.dO s.ah.length b).mu o=M.mu o:=fun o ho=>congrArg Prod.fst (sW M b .any ho)
 have dj:(M.dO s.ah.length b).mu s.ah.length=b:=by simp[Map.dO,Map.mu]
 refine⟨⟨r.comm,fun o nL e'=>?_,fun o ho off=>?_,fun o o' ho nM e'=>?_,r.tok,fun t b' c z o hl e' ho=>?_,r.fS⟩, ?_,le⟩
 ·rcases Nat.lt_or_ge o s.ah.length with ho | ho
  ·rw [List.getElem?_append_left ho]at e'
   obtain⟨fG,T',h3,h4,h5,h6⟩:=r.obj o nL e'
   refine⟨fG,T', ?_,h4,⟨h5.1,by rw[le.ty o ho];exact h5.2⟩,fun i d v e1 e2=>(h6 i d v e1 e2).mono le⟩
   rw[sW M b .any ho];exact h3
  ·rw [List.getElem?_append_right ho]at e'
   have:o=s.ah.length:=by
    have:=(List.getElem?_eq_some_iff.1 e').1
    simp at this;omega
   subst this
   simp at e';subst e'
   refine⟨vs,T, ?_,hl,⟨h1,fun T' h=>by simp[Map.dO,Map.ty,Ob.ty?]at h⟩,fun i d v e1 e2=>(h2 i d v e1 e2).mono le⟩
   have hl:(M.dO s.ah.length b).loc s.ah.length=(b, .any):=by simp[Map.dO]
   rw[hl];exact iG.of hh trivial
 ·simp at ho
  rcases Nat.lt_or_ge o s.ah.length with h3|h3
  ·rw[mY o h3];exact r.jN o h3 off
  ·have:o=s.ah.length:=by omega
   subst this
   rw[dj];exact u.g off
 ·simp at ho nM
  rcases Nat.lt_or_ge o s.ah.length with h3|h3<;>rcases Nat.lt_or_ge o' s.ah.length with h4|h4
  ·rw[mY o h3,mY o' h4]at e';exact r.inj o o' h3 h4 e'
  ·have:o'=s.ah.length:=by omega
   subst this
   rw[mY o h3,dj]at e'
   exact(u.o o h3 e').elim
  ·have:o=s.ah.length:=by omega
   subst this
   rw[mY o' h4,dj]at e'
   exact(u.o o' h4 e'.symm).elim
  ·omega
 ·simp at ho
  rcases Nat.lt_or_ge o s.ah.length with h3|h3
  ·rw[mY o h3];exact r.fj t b' c z o hl e' h3
  ·have:o=s.ah.length:=by omega
   subst this
   rw[dj]
   intro he
   subst he
   exact u.t t c z hl e'
 ·refine⟨e.le.trans le,e.kept,fun o h3 h4=> ?_,e.qs,e.rZ,e.size,e.os,e.tape,e.output⟩
  simp at h4
  rcases Nat.lt_or_ge o s.ah.length with h5|h5
  ·rw[mY o h5]at h3 ⊢;exact e.tF o h3 h5
  ·have:o=s.ah.length:=by omega
   subst this
   rw[dj];exact hb
theorem KY {nt:Nat} {ops:Array Oper} {i:Nat} {o:Oper} {t:Nat} {z:List D} (hi:ops[i]? = some o) (hc:cI P nt ops o=some (.op (some t) none (.alloc z)))
 {w:World} {act:Act} {K:Act→World→Prop} {Q:Exit→Act→World→Prop}
 (hK : ∀ vs T,vs.size=z.length→(∀ v∈vs,v.oneCell'=true)→(∀ (M:Map) (s:St) (i:Nat) (d:D) (v:Value),z[i]? = some d→vs[i]? = some v→RD M s d v)→
  K (act.put (some t) (.pointer (some ⟨w.heap.size,0,none⟩))) (w.alloc (.cells vs T))):wpOp P ops Q i K act w:=by
 obtain⟨g,hg,_,hb⟩:=Bn hc
 have qw:=s8 hb
 simp only[AI.dst]at qw
 simp only[wpOp,hi]
 have mN:g=none∧D8 P o=some (.alloc z):=by
  unfold sA at hb
  split at hb
  ·split at hb
   ·obtain⟨xs,_,h⟩:=map_some hb;cases h
   ·cases hb
  ·obtain⟨xs,_,h⟩:=map_some hb;cases h
  ·split at hb
   ·cases hb
   ·split at hb
    ·rename_i oh
     simp only[Option.some.injEq,AI.op.injEq]at hb
     obtain⟨_,_,h⟩:=hb
     split at h<;>cases h
    ·rename_i ao oh
     simp only[Option.some.injEq,AI.op.injEq]at hb
     obtain⟨_,h1,h2⟩:=hb
     subst h2
     exact⟨h1,oh⟩
    ·cases hb
 obtain⟨rfl,oh⟩:=mN
 obtain⟨T,hT,hz⟩:=QL oh
 have hw:Region.wanted o (yielded ops act.tmps)=true:=by
  have:o.guard=none:=by
   cases GC:o.guard with
   |none=>rfl
   |some p=>
    obtain⟨j,b⟩:=p
    rw[GC]at hg
    unfold vf at hg
    simp only at hg
    split at hg<;>cases hg
  simp[Region.wanted,this]
 simp only[hw,if_true]
 left
 unfold zeroOf at hz
 split at hz
 ·rename_i inf Nj
  split at hz
  ·rename_i v hv
   split at hz
   ·have dI:(execOp act.eval o).run P w = .ok (.value (.pointer (some ⟨w.heap.size,0,none⟩))) (w.alloc (.cells v.cells T)):=by
     obtain⟨dst,op,type,pos,after,guard⟩:=o
     simp only at hT
     subst hT
     simp[execOp,Instr.alloc,zeroValue,fV P Nj,hv,newVar,newRow]
    have h3:=fun M s=>ly (M:=M) (s:=s) hz
    obtain⟨h1,h2,_⟩:=h3 ⟨fun _ _=>none,fun _=>(0, .any),fun _=>none⟩ ⟨[],[]⟩
    unfold Oper.wp
    rw[dI,Oper.upon_value, ← qw]
    exact hK _ _ (by rw[h1];simp) (fun u hu=>h2 u (by simpa using hu)) (fun M s i d u e1 e2=>(h3 M s).2.2 i d u e1 (by simpa using e2))
   ·cases hz
  ·cases hz
 ·cases hz
end
end Go.Abs
namespace Go.Abs
section
variable {is:List AI} {af pt:List (List Nat)}
theorem Aq {pq:List Nat} {l l':List Nat} (h:l'.Sublist l) (hb:lf is pq l=true):lf is pq l'=true:=by
 induction h with
 |slnil=>rfl
 |cons a h ih=>
  simp only[lf,Bool.and_eq_true]at hb
  exact ih hb.2
 |cons_cons a h ih=>
  simp only[lf,Bool.and_eq_true,Bool.or_eq_true]at hb ⊢
  refine⟨hb.1.imp id fun h1=>?_,ih hb.2⟩
  rw[List.all_eq_true]at h1 ⊢
  exact fun x hx=>h1 x (h.subset hx)
theorem Cg {f:Nat→Bool} {l l':List Nat} (h:l'.Sublist l) (ha:l.all f=true):l'.all f=true:=by
 rw[List.all_eq_true]at ha ⊢
 exact fun x hx=>ha x (h.subset hx)
theorem KZ {l l':List Nat} (h:l'.Sublist l):jI is l'≤jI is l:=(h.filter _).length_le
theorem Nw {pre FJ:List Nat} {q b:Nat} (h:FJ.Sublist pre) (hs:oY is pt pre q b=true):oY is pt FJ q b=true:=by
 unfold oY at *
 split at hs
 ·exact Cg h hs
 ·exact Cg h hs
 ·simp only [Bool.and_eq_true]at hs ⊢
  exact⟨Cg h hs.1,Aq h hs.2⟩
 ·simp only [Bool.and_eq_true,decide_eq_true_eq]at hs ⊢
  exact⟨⟨Cg h hs.1.1,Aq h hs.1.2⟩,Nat.le_trans (KZ (h.filter _)) hs.2⟩
theorem Jb : ∀ {R:List (Nat×Nat)} {pre FJ:List Nat},FJ.Sublist pre→uw is af pt pre R=true→uw is af pt FJ R=true
 | [],_,_,_,_=>rfl
 |(q,b)::R,pre,FJ,h,ho=>by
  simp only[uw,Bool.and_eq_true,Bool.not_eq_true']at ho ⊢
  obtain⟨⟨⟨h1,h2⟩,h3⟩,h4⟩:=ho
  refine⟨⟨⟨Nw h h1, ?_⟩,h3⟩,Jb (h.cons_cons q) h4⟩
  rw[← Bool.not_eq_true,List.contains_iff_mem]at h2 ⊢
  exact fun hm=>h2 (h.subset hm)
theorem FK : ∀ {X:List (Nat×Nat)} {e:Nat×Nat} {Y:List (Nat×Nat)} {pre:List Nat},uw is af pt pre (X++e::Y)=true→uw is af pt pre (X++Y)=true
 | [],(q,b),Y,pre,h=>by
  simp only[List.nil_append,uw,Bool.and_eq_true]at h
  exact Jb (List.sublist_cons_self q pre) h.2
 |(a,c)::X,e,Y,pre,h=>by
  simp only[List.cons_append,uw,Bool.and_eq_true]at h ⊢
  obtain⟨⟨⟨h1,h2⟩,h3⟩,h4⟩:=h
  refine⟨⟨⟨h1,h2⟩, ?_⟩,FK h4⟩
  rw[List.all_eq_true]at h3 ⊢
  intro j hj
  have:=h3 j hj
  simp only[Bool.and_eq_true,Bool.not_eq_true']at this ⊢
  refine⟨this.1, ?_⟩
  have h5:=this.2
  rw[← Bool.not_eq_true,List.contains_iff_mem]at h5 ⊢
  refine fun hm=>h5 ?_
  simp only[List.map_append,List.map_cons,List.mem_append,List.mem_cons]at hm ⊢
  exact hm.imp id .inr
theorem ta : ∀ {X:List (Nat×Nat)} {q b:Nat} {Y:List (Nat×Nat)} {pre:List Nat},uw is af pt pre (X++(q,b)::Y)=true→
 oY is pt ((X.map (·.1)).reverse++pre) q b=true∧q∉X.map (·.1)∧q∉pre∧(∀ j∈gY af q,j≠q∧j∉Y.map (·.1))∧uw is af pt (q::((X.map (·.1)).reverse++pre)) Y=true
 | [],q,b,Y,pre,h=>by
  simp only[List.nil_append,uw,Bool.and_eq_true,Bool.not_eq_true']at h
  obtain⟨⟨⟨h1,h2⟩,h3⟩,h4⟩:=h
  rw[← Bool.not_eq_true,List.contains_iff_mem]at h2
  refine⟨h1,by simp,h2,fun j hj=>?_,h4⟩
  rw[List.all_eq_true]at h3
  have:=h3 j hj
  simp only[Bool.and_eq_true,bne_iff_ne,Bool.not_eq_true', ← Bool.not_eq_true,List.contains_iff_mem]at this
  exact this
 |(a,c)::X,q,b,Y,pre,h=>by
  simp only[List.cons_append,uw,Bool.and_eq_true]at h
  obtain⟨_,h4⟩:=h
  obtain⟨g1,g2,g3,g4,g5⟩:=ta h4
  simp only[List.map_cons,List.reverse_cons,List.append_assoc,List.singleton_append]
  refine⟨g1, ?_,fun h=>g3 (List.mem_cons_of_mem _ h),g4,g5⟩
  intro hm
  rcases List.mem_cons.1 hm with rfl|hm
  ·exact g3 (by simp)
  ·exact g2 hm
theorem Ch : ∀ {Y:List (Nat×Nat)} {pre:List Nat},uw is af pt pre Y=true→∀ x∈Y,x.1∉pre∧(ju is x.1 = .alloc→∀ a∈pre,lr is a x.1=true)
 | [],_,_,x,hx=>by cases hx
 | (q,b)::Y,pre,h,x,hx=>by
  simp only[uw,Bool.and_eq_true,Bool.not_eq_true']at h
  obtain⟨⟨⟨h1,h2⟩,_⟩,h4⟩:=h
  rw[← Bool.not_eq_true,List.contains_iff_mem]at h2
  rcases List.mem_cons.1 hx with rfl|hx
  ·refine⟨h2,fun hk a ha=> ?_⟩
   unfold oY at h1
   simp only[hk]at h1
   rw[List.all_eq_true]at h1
   exact h1 a ha
  ·obtain⟨g1,g2⟩:=Ch h4 x hx
   exact⟨fun h=>g1 (List.mem_cons_of_mem _ h),fun hk a ha=>g2 hk a (List.mem_cons_of_mem _ ha)⟩
theorem C5 : ∀ {n:Nat},xV af pt n=true→∀ i,i<n→∀ j∈gY pt i,j∈gY af i∨∃ k∈gY af i,j∈gY pt k
 | 0,_,i,hi=>by omega
 | n+1,h,i,hi=>by
  simp only[xV,Bool.and_eq_true]at h
  rcases Nat.lt_or_ge i n with h1|h1
  ·exact C5 h.2 i h1
  ·have:i=n:=by omega
   subst this
   intro j hj
   have:=h.1
   rw[List.all_eq_true]at this
   have:=this j hj
   simp only[Bool.or_eq_true,List.contains_iff_mem,List.any_eq_true]at this
   exact this
theorem yl {pq:List Nat} : ∀ {l:List Nat},lf is pq l=true→∀ (x:Nat) (l1 l2:List Nat),l=l1++x::l2→ju is x = .alloc→x∈pq→∀ y∈l2,y∈pq
 | [],_,x,l1,l2,h=>by simp at h
 | a::l,hb,x,l1,l2,h=>by
  simp only[lf,Bool.and_eq_true,Bool.or_eq_true,Bool.not_eq_true',Bool.and_eq_false_iff]at hb
  intro hk hx y hy
  cases l1 with
  | nil=>
   simp only[List.nil_append,List.cons.injEq]at h
   obtain⟨rfl,rfl⟩:=h
   rcases hb.1 with h1|h1
   ·rcases h1 with h1 | h1
    ·simp[hk]at h1
    ·rw [← Bool.not_eq_true,List.contains_iff_mem]at h1
     exact(h1 hx).elim
   ·rw [List.all_eq_true]at h1
    have:=h1 y hy
    rwa [List.contains_iff_mem]at this
  |cons b l1=>
   simp only[List.cons_append,List.cons.injEq]at h
   exact yl hb.2 x l1 l2 h.2 hk hx y hy
end
structure Pd where
 q:Nat
 t:Nat
 z:List D
 b:Nat
structure abi (is:List AI) (R:List (Nat×Nat)) (B:fW) (M:Map) (s:St) (act:Act) (w:World) (p:Pd):Prop where
 mem:p.q∈R.map (·.1)
 ai:is[p.q]? = some (.op (some p.t) none (.alloc p.z))
 cells : ∃ (vs:Array Value) (T:TypeId),w.heap[p.b]? = some (.cells vs T (0,0))∧vs.size=p.z.length∧(∀ v∈vs,v.oneCell'=true)∧
  ∀ (M:Map) (s:St) (i:Nat) (d:D) (v:Value),p.z[i]? = some d→vs[i]? = some v→RD M s d v
 unk:LM M s p.b
 base:B.w.heap.size≤p.b
 slot:act.tmps.getD p.t Go.undef = .pointer (some ⟨p.b,0,none⟩)
def zi (P:Program) (is:List AI) (K:Tm→St→Prop) (B:fW) (nt:Nat) (R:List (Nat×Nat)) (ej:List Pd) (act:Act) (w:World):Prop:=
 ∃ (M:Map) (s:St) (tm tc:Tm) (bI:List St),Ext B.M B.s B.w M s w∧Rel M s w∧l8 M s tc act.tmps∧(∀ t,(∀ p∈ej,p.t≠t)→tc.get t=tm.get t)∧
  act.tmps.size=nt∧act.defers = []∧kU P is K R bI tm s∧(∀ p∈ej,abi is R B M s act w p)∧
  (∀ p∈ej,∀ p'∈ej,p.q=p'.q∨p.t=p'.t∨p.b=p'.b→p=p')
structure rh (is:List AI) (af pt:List (List Nat)) (dw:Array Bool) (R:List (Nat×Nat)) (ej:List Pd):Prop where
 ok:uw is af pt [] R=true
 GV : ∀ i,i<is.length→(dw.getD i false=true↔(i∉R.map (·.1)∨∃ p∈ej,p.q=i))
 cl : ∀ i,i<is.length→dw.getD i false=true→∀ j∈gY pt i,dw.getD j false=true
 size:dw.size=is.length
 lt : ∀ x∈R,x.1<is.length
section
variable {P:Program} {is:List AI} {af pt:List (List Nat)} {K:Tm→St→Prop} {B:fW} {nt:Nat}
theorem abj {dw:Array Bool} {q b:Nat} {R:List (Nat×Nat)} {ej:List Pd} {act:Act} {w:World} (hs:rh is af pt dw ((q,b)::R) ej) (h:zi P is K B nt ((q,b)::R) ej act w)
 {p:Pd} (hp:p∈ej) (uC:p.q=q) :
 rh is af pt dw R (ej.filter fun p'=>decide (p'.q≠q))∧zi P is K B nt R (ej.filter fun p'=>decide (p'.q≠q)) act w:=by
 have gF : ∀ p',p'∈(ej.filter fun p'=>decide (p'.q≠q))↔p'∈ej∧p'.q≠q:=fun p'=>by simp
 constructor
 ·have pM:=hs.ok
  have Dw:=ta (X:= []) pM
  refine⟨FK (X:= []) pM,fun i hi=>?_,hs.cl,hs.size,fun x hx=>hs.lt x (List.mem_cons_of_mem _ hx)⟩
  rw[hs.GV i hi]
  simp only[List.map_cons,List.mem_cons,not_or]
  have hqR:q∉R.map (·.1):=fun hm=>by
   obtain⟨x,hx,rfl⟩:=List.mem_map.1 hm
   exact(Ch Dw.2.2.2.2 x hx).1 (by simp)
  constructor
  ·rintro(⟨h1,h2⟩ | ⟨p',h1,h2⟩)
   ·exact .inl h2
   ·by_cases hq:i=q
    ·subst hq;exact .inl hqR
    ·exact .inr ⟨p',(gF p').2 ⟨h1,by rw[h2];exact hq⟩,h2⟩
  ·rintro(h1 | ⟨p',h1,h2⟩)
   ·by_cases hq:i=q
    ·subst hq;exact .inr ⟨p,hp,uC⟩
    ·exact .inl ⟨hq,h1⟩
   ·exact .inr ⟨p',((gF p').1 h1).1,h2⟩
 ·obtain⟨M,s,tm,tc,bI,e,r,ht,ql,hn,hd,hg,wB,sI⟩:=h
  have hk:=wB p hp
  obtain⟨vs,T,hh,hl,h1,h2⟩:=hk.cells
  have wz:=hk.ai
  rw[uC]at wz
  simp only[kU,wz,AI.kind,gK]at hg
  obtain⟨d,s',jj,hg⟩:=hg
  have qI:aJ (.alloc p.z) tm s=some (d,s'):=jj
  simp only[aJ,Option.some.injEq,Prod.mk.injEq]at qI
  obtain⟨rfl,rfl⟩:=qI
  obtain⟨r',e',le⟩:=r.afo e hk.unk hk.base p.z vs T hh hl h1 (h2 M s)
  refine⟨_,_,_,tc.put (some p.t) (.ptr s.ah.length 0),_,e',r',fun u=>?_,fun t LN=>?_,hn,hd,hg,fun p' mV=>?_,fun p1 h1 p2 h2=>sI p1 ((gF p1).1 h1).1 p2 ((gF p2).1 h2).1⟩
  ·rw [Tm.lB]
   split
   ·rename_i heq
    cases heq
    rw[hk.slot]
    have:(M.dO s.ah.length p.b).mu s.ah.length=p.b:=by simp[Map.dO,Map.mu]
    have h5:=RD.ptr (M:=M.dO s.ah.length p.b) (s:= {s with ah:=s.ah++ [p.z]}) s.ah.length 0 (by simp) (by simp[Map.dO,Map.ob,Ob.plain])
    rw[this]at h5
    exact h5
   ·exact(ht u).mono le
  ·simp only [AI.dst]
   rw[Tm.lB,Tm.lB]
   split
   ·rfl
   ·rename_i eQ
    refine ql t fun p' mV=>?_
    by_cases hq:p'.q=q
    ·have:=sI p' mV p hp (.inl (hq.trans uC.symm))
     subst this
     exact fun h=>eQ (by rw[h])
    ·exact LN p' ((gF p').2 ⟨mV,hq⟩)
  ·obtain⟨hp1,hp2⟩:=(gF p').1 mV
   have uv:=wB p' hp1
   refine⟨?_,uv.ai,uv.cells,⟨fun o ho=>?_,uv.unk.t,uv.unk.g⟩,uv.base,uv.slot⟩
   ·have:=uv.mem
    simp only[List.map_cons,List.mem_cons]at this
    exact this.resolve_left hp2
   ·simp at ho
    rcases Nat.lt_or_ge o s.ah.length with h5|h5
    ·rw[show(M.dO s.ah.length p.b).mu o=M.mu o from congrArg Prod.fst (sW M p.b .any h5)];exact uv.unk.o o h5
    ·have:o=s.ah.length:=by omega
     subst this
     have:(M.dO s.ah.length p.b).mu s.ah.length=p.b:=by simp[Map.dO,Map.mu]
     rw[this]
     intro hb
     have:=sI p hp p' hp1 (.inr (.inr hb))
     subst this
     exact hp2 uC
theorem norm {dw:Array Bool} {act:Act} {w:World} : ∀ (R:List (Nat×Nat)) (ej:List Pd),rh is af pt dw R ej→zi P is K B nt R ej act w→
 ∃ R' wC,rh is af pt dw R' wC∧zi P is K B nt R' wC act w∧∀ x l,R'=x::l→∀ p∈wC,p.q≠x.1
 | [],ej,hs,h=>⟨[],ej,hs,h,fun _ _ he=>by cases he⟩
 | (q,b)::R,ej,hs,h=>by
  by_cases hp : ∃ p∈ej,p.q=q
  ·obtain⟨p,hp,uC⟩:=hp
   obtain⟨h1,h2⟩:=abj hs h hp uC
   exact norm R _ h1 h2
  ·refine⟨(q,b)::R,ej,hs,h,fun x l he p hpm uC=>hp ⟨p,hpm, ?_⟩⟩
   cases he
   exact uC
theorem WN {ops:Array Oper} {q:Nat} {o:Oper} {ai:AI} (hi:ops[q]? = some o) (hc:cI P nt ops o=some ai) {R R':List (Nat×Nat)} {ej:List Pd} {act:Act} {w:World} {M:Map} {s s1:St} {tm tc:Tm} {d:D} {WO:List St}
 (e:Ext B.M B.s B.w M s w) (r:Rel M s w) (ht:l8 M s tc act.tmps) (ql : ∀ t,(∀ p∈ej,p.t≠t)→tc.get t=tm.get t) (hn:act.tmps.size=nt) (hd:act.defers = [])
 (wB : ∀ p∈ej,abi is R B M s act w p) (sI : ∀ p∈ej,∀ p'∈ej,p.q=p'.q∨p.t=p'.t∨p.b=p'.b→p=p')
 (hv:iZ P [ai] (fun a b=>a=tc.put ai.dst d∧b=s1) tc s) (hg:kU P is K R' WO (tm.put ai.dst d) s1)
 (gF : ∀ p∈ej,p.q∈R'.map (·.1)) (qw : ∀ p∈ej,ai.dst≠some p.t) {Q:Exit→Act→World→Prop} :
 wpOp P ops Q q (zi P is K B nt R' ej) act w:=by
 refine xp hi hc r (B.laid.ext e) ht hv fun d' v s2 w1 M1 hk e1 r1 jv=>?_
 obtain⟨wo,rfl⟩:=hk
 have hde:=s9 hc
 have hD : ∀ t,o.dst=some t→t<act.tmps.size:=fun t h=>by rw[hn];exact yh hc t h
 refine⟨M1,s2,tm.put ai.dst d,tc.put ai.dst d,WO,e.trans e1,r1, ?_,fun t LN=>?_, ?_, ?_,hg,fun p hp=>?_,sI⟩
 ·rw [← wo,hde]
  exact(ht.mono e1.le).put hD jv
 ·rw[Tm.lB,Tm.lB,ql t LN]
 ·cases ho:o.dst<;>simp[Act.put,hn]
 ·cases ho:o.dst<;>simp[Act.put,hd]
 ·have hk:=wB p hp
  obtain⟨vs,T,hh,hl,h1,h2⟩:=hk.cells
  have hb:=kj hh
  refine⟨gF p hp,hk.ai,⟨vs,T,by rw[e1.kept p.b hb hk.unk.o hk.unk.t];exact hh,hl,h1,h2⟩,hk.unk.mono e1 hb,hk.base, ?_⟩
  rw[← hk.slot]
  have:=qw p hp
  rw[hde]at this
  cases ho:o.dst with
  |none=>rfl
  |some t=>
   rw[ho]at this
   have eQ:t≠p.t:=fun h=>this (by rw[h])
   simp[Act.put,Array.getElem?_setIfInBounds_ne eQ]
theorem Nx {ai:AI} (hm:gK ai.kind=false) {tm:Tm} {s:St} {d:D} (h:jU ai tm s=some d):iZ P [ai] (fun a b=>a=tm.put ai.dst d∧b=s) tm s:=by
 cases ai with
 | op dst g o=>
  have hko:=LL hm
  have key : ∀ {d},(aJ o tm s).map (·.1)=some d→aJ o tm s=some (d,s):=by
   intro d h
   cases he:aJ o tm s with
   |none=>rw[he]at h;cases h
   |some p=>
    obtain⟨d',s'⟩:=p
    rw[he]at h
    simp only[Option.map_some,Option.some.injEq]at h
    subst h
    rw[KX (by rw[← hko];exact hm) he]
  simp only[iZ,AI.dst]
  cases g with
  |none=>
   simp only[jU]at h
   simp only[guarded,key h,and_self]
  | some p=>
   obtain⟨t,want⟩:=p
   simp only[jU]at h
   simp only[guarded]
   split at h
   ·rename_i b hb
    simp only[hb]
    split at h
    ·rename_i heq
     refine⟨fun _=>by simp only[key h,and_self],fun eQ=>?_⟩
     subst heq
     cases b<;>cases eQ
    ·rename_i eQ
     cases h
     exact⟨fun heq=>(eQ heq).elim,fun _=>by simp⟩
   ·rename_i ds hb
    cases h
    simp only[hb,and_self]
   ·cases h
 |call dst g f xs=>cases hm
 |nil dst g n x=>cases hm
 |jt dst g t xs=>cases hm
theorem Bo {g:Option (Nat×Bool)} {tm:Tm} {A A' C C':Prop} (ha:A→A') (hc:C→C') (hh:guarded g tm A C):guarded g tm A' C':=by
 cases g with
 |none=>exact ha hh
 | some p=>
  obtain⟨t,want⟩:=p
  unfold guarded at *
  simp only at *
  split
  ·rename_i b hb;rw[hb]at hh;exact⟨fun e=>ha (hh.1 e),fun e=>hc (hh.2 e)⟩
  ·rename_i hb;rw[hb]at hh;exact hc hh
  ·rename_i x h1 h2
   split at hh
   ·exact h1 _ ‹_›
   ·exact h2 _ ‹_›
   ·exact hh
theorem Jc {ai:AI} {tm:Tm} {s s1:St} {d:D} (h:sF P ai tm s d s1):iZ P [ai] (fun a b=>a=tm.put ai.dst d∧b=s1) tm s:=by
 cases ai with
 |op dst g o=>
  refine Bo (fun e=>?_) (fun e=>?_) h
  ·rw[e];exact⟨rfl,rfl⟩
  ·obtain⟨rfl,rfl⟩:=e;exact⟨rfl,rfl⟩
 |call dst g f xs=>
  refine Bo (fun e=>?_) (fun e=>?_) h
  ·exact e.mono fun x y hxy=>by obtain⟨rfl,rfl⟩:=hxy;exact⟨rfl,rfl⟩
  ·obtain⟨rfl,rfl⟩:=e;exact⟨rfl,rfl⟩
 |nil dst g n x=>exact h.elim
 |jt dst g t xs=>exact h.elim
end
end Go.Abs
namespace Go.Abs
section
variable {P:Program} {is:List AI} {af pt:List (List Nat)} {K:Tm→St→Prop} {B:fW} {nt:Nat}
theorem Ci {ops:Array Oper} : ∀ {ol:List Oper} {is:List AI},qR P nt ops ol=some is→is.length=ol.length∧∀ (i:Nat) (o:Oper),ol[i]? = some o→∃ ai,is[i]? = some ai∧cI P nt ops o=some ai
 | [],is,h=>by cases h;exact⟨rfl,by simp⟩
 | o::ol,is,h=>by
  unfold qR at h
  split at h
  ·rename_i ai Qz h1 h2
   cases h
   obtain⟨g1,g2⟩:=Ci h2
   refine⟨by simp[g1],fun i o' ho=>?_⟩
   cases i with
   |zero=>simp at ho;subst ho;exact⟨ai,rfl,h1⟩
   |succ i=>exact g2 i o' (by simpa using ho)
  ·cases h
theorem sJ {dw:Array Bool} {i:Nat} (h:i<dw.size):dw.getD i true=dw.getD i false:=by
 simp[h]
theorem rh.done {dw:Array Bool} {X Y:List (Nat×Nat)} {q b:Nat} {ej:List Pd} (hs:rh is af pt dw (X++(q,b)::Y) ej) (hq:q<is.length)
 (GX : ∀ j∈gY pt q,dw.getD j false=true):rh is af pt (dw.setIfInBounds q true) (X++Y) ej:=by
 obtain⟨g1,g2,g3,g4,g5⟩:=ta hs.ok
 have hqY:q∉Y.map (·.1):=fun hm=>by
  obtain⟨x,hx,rfl⟩:=List.mem_map.1 hm
  exact(Ch g5 x hx).1 (by simp)
 refine⟨FK hs.ok,fun i hi=>?_,fun i hi hl j hj=>?_,by simp[hs.size],fun x hx=>hs.lt x (by simp at hx ⊢;exact hx.imp id .inr)⟩
 ·by_cases uB:i=q
  ·subst uB
   have:i<dw.size:=by rw[hs.size];exact hq
   simp only[List.map_append,List.mem_append,g2,hqY,or_self,not_false_eq_true,true_or,iff_true]
   simp[this]
  ·rw [getD_set_ne false (Ne.symm uB),hs.GV i hi]
   simp[uB]
 ·by_cases uB:i=q
  ·subst uB;exact getD_set_true (GX j hj)
  ·rw [getD_set_ne false (Ne.symm uB)]at hl
   exact getD_set_true (hs.cl i hi hl j hj)
theorem rh.flag {dw:Array Bool} {R:List (Nat×Nat)} {ej:List Pd} (hs:rh is af pt dw R ej) {p:Pd} (hq:p.q<is.length)
 (GX : ∀ j∈gY pt p.q,dw.getD j false=true):rh is af pt (dw.setIfInBounds p.q true) R (p::ej):=by
 refine⟨hs.ok,fun i hi=>?_,fun i hi hl j hj=>?_,by simp[hs.size],hs.lt⟩
 ·by_cases uB:i=p.q
  ·subst uB
   have:p.q<dw.size:=by rw[hs.size];exact hq
   simp[this]
  ·rw [getD_set_ne false (Ne.symm uB),hs.GV i hi]
   have eQ:p.q≠i:=fun h=>uB h.symm
   simp[eQ]
 ·by_cases uB:i=p.q
  ·subst uB;exact getD_set_true (GX j hj)
  ·rw [getD_set_ne false (Ne.symm uB)]at hl
   exact getD_set_true (hs.cl i hi hl j hj)
theorem Ny {ai:AI} (h:ai.kind = .alloc) : ∃ t z,ai = .op (some t) none (.alloc z):=by
 cases ai with
 | op dst g o=>
  unfold AI.kind at h
  split at h
  ·rename_i heq;cases heq;exact⟨_,_,rfl⟩
  ·rename_i heq
   cases heq
   exfalso
   revert h
   cases o<;>simp[AO.kind]
  ·cases h
 |call dst g f xs=>cases h
 |nil dst g n x=>cases h
 |jt dst g t xs=>cases h
theorem Nz {ops:Array Oper} (xq:qR P nt ops ops.toList=some is) (NA:xV af pt is.length=true)
 (hK : ∀ tm bx s,Tm.eqv tm bx→K tm s→K bx s) {dw:Array Bool} {R:List (Nat×Nat)} {ej:List Pd} {act:Act} {w:World} (hs:rh is af pt dw R ej) (h:zi P is K B nt R ej act w)
 (afq : ∀ x l,R=x::l→∀ p∈ej,p.q≠x.1) {q:Nat} (hq:q<is.length) (Ep:dw.getD q false=false) (jv : ∀ j∈gY af q,j<is.length∧dw.getD j false=true)
 {Q:Exit→Act→World→Prop} {K2:Act→World→Prop} (hK2 : ∀ R' wC a' w',rh is af pt (dw.setIfInBounds q true) R' wC→zi P is K B nt R' wC a' w'→K2 a' w'):wpOp P ops Q q K2 act w:=by
 obtain⟨hlen,hY⟩:=Ci xq
 have vl:q<ops.size:=by rw[hlen]at hq;simpa using hq
 obtain⟨ai,wz,QN⟩:=hY q ops[q] (by simp[vl])
 have hi:ops[q]? = some ops[q]:=by simp[vl]
 have GX : ∀ j∈gY pt q,dw.getD j false=true:=fun j hj=>by
  rcases C5 NA q hq j hj with h1|⟨k,h1,h2⟩
  ·exact(jv j h1).2
  ·exact hs.cl k (jv k h1).1 (jv k h1).2 j h2
 have QO : ∀ p∈ej,p.q≠q:=fun p hp uC=>by
  have:=(hs.GV q hq).2 (.inr ⟨p,hp,uC⟩)
  rw[Ep]at this;cases this
 have hqR:q∈R.map (·.1):=by
  by_cases hm:q∈R.map (·.1)
  ·exact hm
  ·have:=(hs.GV q hq).2 (.inl hm)
   rw[Ep]at this;cases this
 obtain⟨⟨q',b⟩,hx,hqq⟩:=List.mem_map.1 hqR
 simp only at hqq
 subst hqq
 obtain⟨X,Y,rfl⟩:=List.append_of_mem hx
 obtain⟨g1,g2,g3,g4,g5⟩:=ta hs.ok
 rw[List.append_nil]at g1 g5
 obtain⟨M,s,tm,tc,bI,e,r,ht,ql,hn,hd,hg,wB,sI⟩:=h
 have QP:ju is q'=ai.kind:=by simp[ju,wz]
 -- what must have come up ahead of it, is not here any more, but for what was allocated early
 have WQ : ∀ a∈X.map (·.1),a∈gY pt q'→∃ p∈ej,p.q=a:=fun a ha eR=>by
  have h1:=GX a eR
  obtain⟨x,hxX,rfl⟩:=List.mem_map.1 ha
  rcases(hs.GV x.1 (hs.lt x (by simp[hxX]))).1 h1 with h2|h2
  ·exact(h2 (by simp;exact .inl ⟨x.2,hxX⟩)).elim
  ·exact h2
 have WR : ∀ x l,X=x::l→x.1∉gY pt q':=fun x l hX hxp=>by
  obtain⟨p,hp,uC⟩:=WQ x.1 (by simp[hX]) hxp
  exact afq x (l++(q',b)::Y) (by simp[hX]) p hp uC
 have hpk : ∀ p∈ej,ju is p.q = .alloc:=fun p hp=>by simp[ju,(wB p hp).ai,AI.kind]
 have Dw : ∀ p∈ej,(p.q∈X.map (·.1)→lr is p.q q'=true)→(∀ t,ai.dst=some t→t≠p.t)∧p.t∉ai.reads:=fun p hp hX=>by
  have hk:=wB p hp
  have hm:=hk.mem
  simp only[List.map_append,List.map_cons,List.mem_append,List.mem_cons]at hm
  rcases hm with hm|hm|hm
  ·have:=hX hm
   simp only[lr,hk.ai,wz]at this
   obtain⟨p1,p2,p3⟩:=apart_spec this
   exact⟨fun t ht he=>p3 p.t rfl (by rw[ht,he]),p1 p.t rfl⟩
  ·exact(QO p hp hm).elim
  ·obtain⟨x,hxY,WS⟩:=List.mem_map.1 hm
   have:=(Ch g5 x hxY).2 (by rw[WS];exact hpk p hp) q' (by simp)
   rw[WS]at this
   simp only[lr,hk.ai,wz]at this
   obtain⟨p1,p2,p3⟩:=apart_spec this
   exact⟨fun t ht he=>p3 t ht (by rw[he];rfl),p2 p.t rfl⟩
 have QQ:(∀ p∈ej,p.t∉ai.reads)→∀ t∈ai.reads,tm.get t=tc.get t:=fun hp t ht=>(ql t fun p hpm he=>hp p hpm (by rw[he];exact ht)).symm
 have WT : ∀ p∈ej,p.q∈(X++Y).map (·.1):=fun p hp=>by
  have hm:=(wB p hp).mem
  have:=QO p hp
  simp only[List.map_append,List.map_cons,List.mem_append,List.mem_cons]at hm ⊢
  rcases hm with hm|hm|hm
  ·exact .inl hm
  ·exact(this hm).elim
  ·exact .inr hm
 by_cases ym:ai.kind = .alloc
 ·-- an allocation
  obtain⟨t,z,rfl⟩:=Ny ym
  have eR : ∀ a∈X.map (·.1),lr is a q'=true:=fun a ha=>by
   unfold oY at g1
   rw[QP,ym]at g1
   simp only[List.all_reverse,List.all_eq_true]at g1
   exact g1 a ha
  have rX:=fun p hp=>Dw p hp (eR p.q)
  refine KY hi QN fun vs T hl h1 h2=>?_
  obtain⟨r1,e1,u1⟩:=r.idle (.cells vs T)
  have abo:t<act.tmps.size:=by
   rw[hn]
   exact yh QN t (by rw[← s9 QN];rfl)
  have:=hs.flag (p:=⟨q',t,z,w.heap.size⟩) hq GX
  refine hK2 _ _ _ _ this ⟨M,s,tm,tc.put (some t) .junk,bI,e.trans e1,r1,l8.put ht (dst:=some t) (fun u hu=>by cases hu;exact abo) (.junk _),fun u hu=>?_,by simp[Act.put,hn],by simp[Act.put,hd],hg,fun p hp=>?_,fun p hp p' mV he=>?_⟩
  ·have h3:=hu ⟨q',t,z,w.heap.size⟩ (by simp)
   rw[Tm.lB,if_neg (by simpa using h3)]
   exact ql u fun p hp=>hu p (List.mem_cons_of_mem _ hp)
  ·rcases List.mem_cons.1 hp with rfl | hp
   ·refine⟨by simp,wz,⟨vs,T,heap_alloc_new w _,hl,h1,h2⟩,u1,e.size, ?_⟩
    simp[Act.put,abo]
   ·have hk:=wB p hp
    obtain⟨fG,T',kh,l9,rW,uA⟩:=hk.cells
    refine⟨hk.mem,hk.ai,⟨fG,T',by rw[heap_alloc_old w _ _ (kj kh)];exact kh,l9,rW,uA⟩,hk.unk,hk.base, ?_⟩
    rw[← hk.slot]
    have eQ:t≠p.t:=(rX p hp).1 t rfl
    simp[Act.put,Array.getElem?_setIfInBounds_ne eQ]
  ·have dj : ∀ p∈ej,¬ (q'=p.q∨t=p.t∨w.heap.size=p.b):=fun p hp h=>by
    rcases h with h|h|h
    ·exact QO p hp h.symm
    ·exact(rX p hp).1 t rfl h
    ·obtain⟨fG,T',kh,_⟩:=(wB p hp).cells
     have:=kj kh
     omega
   rcases List.mem_cons.1 hp with rfl|hp<;>rcases List.mem_cons.1 mV with rfl|mV
   ·rfl
   ·exact(dj p' mV he).elim
   ·exact(dj p hp (he.imp Eq.symm (Or.imp Eq.symm Eq.symm))).elim
   ·exact sI p hp p' mV he
 ·by_cases oh:gK ai.kind=true
  ·-- a step that changes something: it stands first
   have hkc:ai.kind = .core:=by
    cases hk:ai.kind<;>simp_all [gK]
   have hX:X = []:=by
    cases X with
    |nil=>rfl
    |cons x l=>
     refine(WR x l rfl ?_).elim
     unfold oY at g1
     rw[QP,hkc]at g1
     simp only[List.all_reverse,List.all_eq_true]at g1
     have:=g1 x.1 (by simp)
     rwa [List.contains_iff_mem]at this
   subst hX
   have rX:=fun p hp=>Dw p hp (fun h=>by simp at h)
   simp only[List.nil_append,kU,wz,oh]at hg
   obtain⟨d,s1,jj,hg⟩:=hg
   have ajD:=xn (QQ fun p hp=>(rX p hp).2) jj
   refine wpOp_mono (fun a' w' hr=>hK2 _ _ _ _ (hs.done hq GX) hr) ?_
   exact WN hi QN e r ht ql hn hd wB sI (Jc ajD) hg WT (fun p hp he=>(rX p hp).1 _ he rfl)
  ·-- a step that changes nothing
   have hm:gK ai.kind=false:=by simpa using oh
   have nY : ∀ a∈X.map (·.1),a∉gY pt q':=fun a ha eR=>by
    obtain⟨p,hp,uC⟩:=WQ a ha eR
    have Qx:ju is a = .alloc:=by rw[← uC];exact hpk p hp
    have kO:lf is (gY pt q') (X.map (·.1)).reverse=true:=by
     unfold oY at g1
     rw[QP]at g1
     cases hk:ai.kind with
     |pure=>simp only[hk,Bool.and_eq_true]at g1;exact g1.2
     |load=>simp only[hk,Bool.and_eq_true]at g1;exact g1.1.2
     |alloc=>exact(ym hk).elim
     |core=>rw[hk]at hm;cases hm
    cases X with
    |nil=>simp at ha
    | cons x l=>
     have ha2:a∈((x::l).map (·.1)).reverse:=List.mem_reverse.2 ha
     obtain⟨l1,l2,C6⟩:=List.append_of_mem ha2
     have zj:=yl kO a l1 l2 C6 Qx eR
     refine WR x l rfl ?_
     cases iY:l2.reverse with
     |nil=>
      have h3:l2 = []:=by simpa using iY
      subst h3
      have:=congrArg List.reverse C6
      simp at this
      rw[this.1];exact eR
     |cons y l3=>
      have:=congrArg List.reverse C6
      simp only[List.reverse_reverse,List.map_cons,List.reverse_append,List.reverse_cons,List.reverse_nil,List.append_assoc,iY,List.cons_append,List.nil_append,List.cons.injEq]at this
      rw[this.1]
      exact zj y (by rw[← List.mem_reverse,iY];simp)
   have eR : ∀ a∈X,lr is a.1 q'=true:=fun a ha=>by
    have h3 : ∀ x∈(X.map (·.1)).reverse,((gY pt q').contains x ||lr is x q')=true:=by
     unfold oY at g1
     rw[QP]at g1
     cases hk:ai.kind with
     |pure=>simp only[hk,Bool.and_eq_true]at g1;exact List.all_eq_true.1 g1.1
     |load=>simp only[hk,Bool.and_eq_true]at g1;exact List.all_eq_true.1 g1.1.1
     |alloc=>exact(ym hk).elim
     |core=>rw[hk]at hm;cases hm
    have:=h3 a.1 (List.mem_reverse.2 (List.mem_map_of_mem ha))
    simp only[Bool.or_eq_true,List.contains_iff_mem]at this
    exact this.resolve_left (nY a.1 (List.mem_map_of_mem ha))
   have abp:ai.kind = .load→jI is (X.map (·.1))≤b:=fun hk=>by
    unfold oY at g1
    rw[QP,hk]at g1
    simp only[Bool.and_eq_true,decide_eq_true_eq]at g1
    have h3:=g1.2
    have h4:(X.map (·.1)).reverse.filter (fun a=> !(gY pt q').contains a)=(X.map (·.1)).reverse:=by
     rw[List.filter_eq_self]
     intro a ha
     have:=nY a (List.mem_reverse.1 ha)
     simpa using this
    rw[h4]at h3
    unfold jI at h3 ⊢
    rw[List.filter_reverse,List.length_reverse]at h3
    exact h3
   have rX:=fun p hp=>Dw p hp (fun h=>by
    obtain⟨x,hx,WS⟩:=List.mem_map.1 h
    rw[← WS];exact eR x hx)
   obtain⟨d,h1,_,C1⟩:=xo hK wz hm Y X bI tm s eR abp hg
   have rW:jU ai tc s=some d:=by rw[← qK (QQ fun p hp=>(rX p hp).2)];exact h1
   refine wpOp_mono (fun a' w' hr=>hK2 _ _ _ _ (hs.done hq GX) hr) ?_
   exact WN hi QN e r ht ql hn hd wB sI (Nx hm rW) C1 WT (fun p hp he=>(rX p hp).1 _ he rfl)
theorem C7 {o:Oper} {j:Nat} : j∈mW o↔∃ e∈o.after,Region.binds .any e=true∧e.on=j:=by
 simp only[mW,List.mem_map,List.mem_filter,Array.mem_toList_iff]
 constructor
 ·rintro⟨e,⟨h1,h2⟩,h3⟩;exact⟨e,h1,h2,h3⟩
 ·rintro⟨e,h1,h2,h3⟩;exact⟨e,⟨h1,h2⟩,h3⟩
theorem NB {ops:Array Oper} (xq:qR P nt ops ops.toList=some is) (NA:xV (ops.toList.map mW) pt is.length=true)
 (abq : ∀ i,i<is.length→∀ j∈gY (ops.toList.map mW) i,j<is.length) {Q:Exit→Tm→St→Prop} (hK : ∀ tm bx s,Tm.eqv tm bx→K tm s→K bx s)
 (hKQ : ∀ tm s act w,K tm s→Holds B nt tm s act w→pS B nt Q .normal act w) :
 ∀ (fuel:Nat) (dw:Array Bool) (R:List (Nat×Nat)) (ej:List Pd) (act:Act) (w:World) (U:List Nat),U.length≤fuel→(∀ j,j<is.length→dw.getD j false=false→j∈U)→
  rh is (ops.toList.map mW) pt dw R ej→zi P is K B nt R ej act w→wpAny P .any ops (pS B nt Q) fuel dw act w:=by
 obtain⟨hlen,_⟩:=Ci xq
 have sD:is.length=ops.size:=by rw[hlen];simp
 have abr : ∀ (j:Nat) (o:Oper),ops[j]? = some o→gY (ops.toList.map mW) j=mW o:=fun j o h=>by
  simp[gY,List.getD,h]
 have fin : ∀ {dw:Array Bool} {ej:List Pd} {act:Act} {w:World},zi P is K B nt [] ej act w→pS B nt Q .normal act w:=by
  intro dw ej act w h
  obtain⟨M,s,tm,tc,bI,e,r,ht,ql,hn,hd,hg,wB,sI⟩:=h
  have Dt : ∀ p∈ej,False:=fun p hp=>by have:=(wB p hp).mem;simp at this
  exact hKQ tc s act w (hK tm tc s (fun t=>(ql t fun p hp=>(Dt p hp).elim).symm) hg) ⟨M,e,r,ht,hn,hd⟩
 have QR : ∀ {dw:Array Bool} {R:List (Nat×Nat)} {ej:List Pd} {x:Nat×Nat} {l:List (Nat×Nat)},rh is (ops.toList.map mW) pt dw R ej→R=x::l→(∀ p∈ej,p.q≠x.1)→
  x.1∈Region.ready .any ops dw:=by
  intro dw R ej x l hs hR QO
  subst hR
  have hx:=hs.lt x (by simp)
  rw[mem_ready]
  have Ep:dw.getD x.1 false=false:=by
   cases hl:dw.getD x.1 false with
   |false=>rfl
   |true=>
    rcases(hs.GV x.1 hx).1 hl with h1|⟨p,hp,uC⟩
    ·exact(h1 (by simp)).elim
    ·exact(QO p hp uC).elim
  have hxo:x.1<ops.size:=by rw[← sD];exact hx
  refine⟨by rw[sJ (by rw[hs.size];exact hx)];exact Ep,ops[x.1],by simp[hxo],fun e he hb=>?_⟩
  have hm:e.on∈gY (ops.toList.map mW) x.1:=by rw[abr x.1 ops[x.1] (by simp[hxo])];exact C7.2 ⟨e,he,hb,rfl⟩
  obtain⟨_,_,_,g4,_⟩:=ta (X:= []) (q:=x.1) (b:=x.2) hs.ok
  obtain⟨h1,h2⟩:=g4 _ hm
  refine(hs.GV e.on (abq x.1 hx _ hm)).2 (.inl ?_)
  simp only[List.map_cons,List.mem_cons,not_or]
  exact⟨h1,h2⟩
 intro fuel
 induction fuel with
 | zero=>
  intro dw R ej act w U hU Ep hs h
  obtain⟨R',wC,nc,h',hn⟩:=norm R ej hs h
  have hUn:U = []:=List.length_eq_zero_iff.1 (by omega)
  have zj : ∀ j,j<is.length→dw.getD j false=true:=fun j hj=>by
   cases hl:dw.getD j false with
   |true=>rfl
   |false=>have:=Ep j hj hl;rw[hUn]at this;cases this
  have hR:R' = []:=by
   cases hR:R' with
   |nil=>rfl
   |cons x l=>
    have hx:=nc.lt x (by simp[hR])
    have:=QR nc hR (hn x l hR)
    rw[mem_ready,sJ (by rw[nc.size];exact hx),zj x.1 hx]at this
    cases this.1
  subst hR
  refine⟨?_,fin (dw:=dw) h'⟩
  cases hr:Region.ready .any ops dw with
  |nil=>rfl
  |cons j js=>
   have hj:j∈Region.ready .any ops dw:=by rw[hr];simp
   rw[mem_ready]at hj
   obtain⟨h1,o,ho,_⟩:=hj
   have WU:j<is.length:=by rw[sD];exact(Array.getElem?_eq_some_iff.1 ho).1
   rw[sJ (by rw[hs.size];exact WU),zj j WU]at h1
   cases h1
 | succ fuel ih=>
  intro dw R ej act w U hU Ep hs h
  obtain⟨R',wC,nc,h',hn⟩:=norm R ej hs h
  refine⟨fun hr=>?_,fun i hi=>?_⟩
  ·cases hR:R' with
   |nil=>subst hR;exact fin (dw:=dw) h'
   |cons x l=>
    have:=QR nc hR (hn x l hR)
    rw[hr]at this
    cases this
  ·rw [mem_ready]at hi
   obtain⟨h1,o,ho,ajE⟩:=hi
   have qJ:i<is.length:=by rw[sD];exact(Array.getElem?_eq_some_iff.1 ho).1
   rw[sJ (by rw[hs.size];exact qJ)]at h1
   refine Nz xq NA hK nc h' hn qJ h1 (fun j hj=>⟨abq i qJ j hj, ?_⟩) fun R2 aft a2 w2 Aj h2=>?_
   ·rw [abr i o ho]at hj
    obtain⟨e,he,hb,rfl⟩:=C7.1 hj
    exact ajE e he hb
   ·refine ih _ R2 aft a2 w2 (U.erase i) ?_ (fun j hj hl=> ?_) Aj h2
    ·have:=List.length_erase_of_mem (Ep i qJ h1)
     omega
    ·have hji:j≠i:=fun e=>by
      subst e
      have:j<dw.size:=by rw[hs.size];exact qJ
      simp[this]at hl
     rw[getD_set_ne false (Ne.symm hji)]at hl
     exact(List.mem_erase_of_ne hji).2 (Ep j hj hl)
theorem Sem.par {is:List AI} {lU:List (Nat×Nat)} {Q:Exit→Tm→St→Prop} {tm:Tm} {s:St} (h:kU P is (Q .normal) lU [] tm s):Sem P B nt (.par is lU) Q tm s:=by
 intro c hc act w hh
 obtain⟨id,ops,rfl,hi,hm,pt,hp⟩:=lI hc
 simp only[Iz,Bool.and_eq_true,List.all_eq_true,List.mem_range,List.contains_iff_mem,decide_eq_true_eq]at hp
 obtain⟨⟨⟨⟨h1,h2⟩,h3⟩,h4⟩,h5⟩:=hp
 obtain⟨hlen,_⟩:=Ci hi
 have sD:is.length=ops.size:=by rw[hlen];simp
 refine wp_region_any hm ?_
 obtain⟨M,e,r,ht,hn,hd⟩:=hh
 have key : ∀ (R:List (Nat×Nat)) (bI:List St) (tm:Tm) (s:St),kU P is (Q .normal) R bI tm s→kU P is (fun tm s=>∃ bx,tm.eqv bx∧Q .normal bx s) R bI tm s:=by
  intro R
  induction R with
  |nil=>intro bI tm s h;exact⟨tm,fun _=>rfl,h⟩
  | cons x R ih=>
   obtain⟨q,b⟩:=x
   intro bI tm s h
   unfold kU at h ⊢
   split at h
   ·exact h.elim
   ·split at h
    ·obtain⟨d,s',h1,h2⟩:=h;exact⟨d,s',h1,ih _ _ _ h2⟩
    ·obtain⟨d,h1,h2,h3⟩:=h;exact⟨d,h1,h2,ih _ _ _ h3⟩
 have hg:=key _ _ _ _ h
 refine NB (K:=fun tm s=>∃ bx,tm.eqv bx∧Q .normal bx s) hi h1 h5 (fun tm bx s he ⟨t2,h3,h4⟩=>⟨t2,fun t=>(he t).symm.trans (h3 t),h4⟩)
  (fun tm s act w ⟨t2,h3,h4⟩ ⟨M,e,r,ht,hn,hd⟩=>⟨t2,s,h4,M,e,r,fun t=>by rw[← h3 t];exact ht t,hn,hd⟩) ops.size _ lU [] act _ (List.range is.length) (by simp[sD]) (fun j hj _=>by simpa using hj)
  ⟨h2,fun i hi=>?_,fun i hi hl=>?_,by simp[sD],h4⟩ ⟨M,s,tm,tm,[],⟨e.le,e.kept,e.tF,e.qs,e.rZ,e.size,e.os,e.tape,e.output⟩,r.of_heap rfl,ht,fun _ _=>rfl,hn,hd,hg,by simp,by simp⟩
 ·have:i<ops.size:=by rw [← sD];exact hi
  have h6:=h3 i hi
  simp only[List.not_mem_nil,false_and,exists_false,or_false]
  rw[show(Array.replicate ops.size false).getD i false=false by simp[this]]
  simp[h6]
 ·have:i<ops.size:=by rw [← sD];exact hi
  rw[show(Array.replicate ops.size false).getD i false=false by simp[this]]at hl
  cases hl
end
end Go.Abs
namespace Go.Abs
theorem YB (k:IntKind) (n:Int):D.row (.int k n)=some [.int k n]:=rfl
theorem TO (b:Bool):D.row (.bool b)=some [.bool b]:=rfl
theorem YC (l:List UInt8):D.row (.str l)=some [.str l]:=rfl
theorem TP:D.row .dS=some [.dS]:=rfl
theorem YD (o f:Nat):D.row (.ptr o f)=some [.ptr o f]:=rfl
theorem TQ (r:List D) (f:Nat):D.row (.dB r f)=some [.dB r f]:=rfl
theorem QS (g:Tag) (z:Nat) (r:List (List D)):D.row (.slice g z r)=some [.slice g z r]:=rfl
theorem YE (cs:List D):D.row (.agg cs)=some cs:=rfl
theorem YF (v:Value):D.row (.val v)=some [.val v]:=rfl
theorem QT (T:TypeId) (o:Nat):D.row (.fv T o)=some [.fv T o]:=rfl
theorem YG (f:Nat) (cs:List D):D.row (.gh f cs)=some [.gh f cs]:=rfl
theorem TR (o:Nat):D.row (.fR o)=some [.fR o]:=rfl
theorem TS (w:Bool):Tag.cut .full w=if w then .full else .shared:=rfl
theorem NC (w:Bool):Tag.cut .shared w = .shared:=rfl
theorem TT (t:Nat) (y:Bool) (w:Bool):Tag.cut (.tok t y) w = .tok t y:=rfl
section
variable {P:Program}
def KC (P:Program) (r:List AI) (K:Tm→St→Prop) (tm:Tm) (dst:Option Nat) (d:D) (s:St):Prop:=iZ P r K (tm.put dst d) s
def GI (P:Program) (g:D) (want:Bool) (i:AI) (r:List AI) (K:Tm→St→Prop) (tm:Tm) (s:St):Prop:=
 match g with
 | .bool b=>(b=want→iZ P (i::r) K tm s)∧(b=(!want)→iZ P r K (tm.put i.dst (.tuple [])) s)
 | .tuple _=>iZ P r K (tm.put i.dst (.tuple [])) s
 |_=>False
def NI (P:Program) (dst:Option Nat) (neg:Bool) (x:D) (r:List AI) (K:Tm→St→Prop) (tm:Tm) (s:St):Prop:=
 match x with
 | .slice _ _ rows=>∀ b:Bool,(rows≠ []→b=false)→iZ P r K (tm.put dst (.bool (if neg then !b else b))) s
 |_=>False
def uO (d:D) (A C:Prop):Prop:=
 match d with
 | .bool b=>(b=true→A)∧(b=false→C)
 |_=>False
theorem Sem.afu {B:fW} {nt:Nat} {Q:Exit→Tm→St→Prop} {tm:Tm} {s:St} {x:X} {a b:AC} (h:uO (x.ev tm) (Sem P B nt a Q tm s) (Sem P B nt b Q tm s)):Sem P B nt (.cond x a b) Q tm s:=by
 unfold uO at h
 split at h
 ·rename_i t ht
  exact Sem.cond ht h.1 h.2
 ·exact h.elim
def gM (P:Program) (K:Tm→St→Prop):List (AI×Nat)→List St→Tm→St→Prop
 | [],_,tm,s=>K tm s
 |(ai,b)::r,bI,tm,s=>
  match gK ai.kind with
  |true=>∃ d s',sF P ai tm s d s'∧gM P K r (s::bI) (tm.put ai.dst d) s'
  |false=>∃ d,jU ai tm s=some d∧(ai.kind = .load→∀ s'∈bI.take b,jU ai tm s'=some d)∧gM P K r bI (tm.put ai.dst d) s
def nh (is:List AI):List (Nat×Nat)→Option (List (AI×Nat))
 | []=>some []
 |(q,b)::r=>match is[q]?,nh is r with
  |some ai,some l=>some ((ai,b)::l)
  |_,_=>none
theorem FL {is:List AI} {K:Tm→St→Prop} : ∀ {lU:List (Nat×Nat)} {items:List (AI×Nat)} {bI:List St} {tm:Tm} {s:St},nh is lU=some items→gM P K items bI tm s→kU P is K lU bI tm s
 | [],items,bI,tm,s,h,g=>by cases h;exact g
 | (q,b)::r,items,bI,tm,s,h,g=>by
  simp only[nh]at h
  split at h
  ·rename_i ai l h1 h2
   cases h
   simp only[gM]at g
   simp only[kU,h1]
   split at g
   ·rename_i hk
    obtain⟨d,s',g1,g2⟩:=g
    try simp only[hk]
    exact⟨d,s',g1,FL h2 g2⟩
   ·rename_i hk
    obtain⟨d,g1,g2,g3⟩:=g
    try simp only[hk]
    exact⟨d,g1,g2,FL h2 g3⟩
  ·cases h
theorem Sem.ajF {B:fW} {nt:Nat} {Q:Exit→Tm→St→Prop} {tm:Tm} {s:St} {is:List AI} {lU:List (Nat×Nat)} {items:List (AI×Nat)} (hi:nh is lU=some items) (h:gM P (Q .normal) items [] tm s):Sem P B nt (.par is lU) Q tm s:=
 Sem.par (FL hi h)
def AI.free:AI→AI
 | .op d _ o=> .op d none o
 | .call d _ f xs=> .call d none f xs
 | .nil d _ n x=> .nil d none n x
 | .jt d _ t xs=> .jt d none t xs
def GL (P:Program) (g:D) (want:Bool) (i:AI) (b:Nat) (r:List (AI×Nat)) (K:Tm→St→Prop) (bI:List St) (tm:Tm) (s:St):Prop:=
 match g with
 | .bool v=>(v=want→gM P K ((i,b)::r) bI tm s)∧(v=(!want)→gM P K r (if gK i.kind then s::bI else bI) (tm.put i.dst (.tuple [])) s)
 | .tuple _=>gM P K r (if gK i.kind then s::bI else bI) (tm.put i.dst (.tuple [])) s
 |_=>False
def CL (one:Bool) (P:Program) (f:Nat) (args:List D) (s:St) (K:D→St→Prop):Prop:=
 match one with
 |true=>∃ d s',aF P f args s d s'∧K d s'
 |false=>bM P f args s K
def KL (P:Program) (K:Tm→St→Prop) (r:List (AI×Nat)) (bI:List St) (tm:Tm) (dst:Option Nat) (d:D) (s:St):Prop:=gM P K r bI (tm.put dst d) s
def oi (i:AI) (tm:Tm) (d:D):List St→Prop
 | []=>True
 |s::r=>jU i tm s=some d∧oi i tm d r
theorem Er {i:AI} {tm:Tm} {d:D} : ∀ {l:List St},oi i tm d l→∀ s∈l,jU i tm s=some d
 | [],_,s,h=>by cases h
 |a::l,h,s,hs=>by
  rcases List.mem_cons.1 hs with rfl|hs
  ·exact h.1
  ·exact Er h.2 s hs
def PL (P:Program) (o:AO) (dst:Option Nat) (b:Nat) (r:List (AI×Nat)) (K:Tm→St→Prop) (bI:List St) (tm:Tm) (s:St):Prop:=
 match aJ o tm s with
 |some (d,_)=>oi (.op dst none o) tm d (bI.take b)∧gM P K r bI (tm.put dst d) s
 |none=>False
def ML (P:Program) (o:AO) (dst:Option Nat) (r:List (AI×Nat)) (K:Tm→St→Prop) (bI:List St) (tm:Tm) (s:St):Prop:=
 match aJ o tm s with
 |some (d,s')=>gM P K r (s::bI) (tm.put dst d) s'
 |none=>False
def AO.core:AO→Bool
 | .alloc _=>true
 | .box _=>true
 | .va .. =>true
 | .AT _=>true
 | .store .. =>true
 | .app .. =>true
 | .sT .. =>true
 | .AW .. =>true
 | .AX .. =>true
 | .apps .. =>true
 | .uL=>true
 | .yP .. =>true
 | .AY .. =>true
 |_=>false
theorem tf (dst:Option Nat) (g:Option (Nat×Bool)) (o:AO):gK (AI.op dst g o).kind=o.core:=by
 cases dst<;>cases g<;>cases o<;>rfl
def OL (P:Program) (o:AO) (dst:Option Nat) (b:Nat) (r:List (AI×Nat)) (K:Tm→St→Prop) (bI:List St) (tm:Tm) (s:St):Prop:=
 match o.core with
 |true=>ML P o dst r K bI tm s
 |false=>PL P o dst b r K bI tm s
theorem Jd {K:Tm→St→Prop} {dst:Option Nat} {o:AO} {b:Nat} {r:List (AI×Nat)} {bI:List St} {tm:Tm} {s:St} (h:OL P o dst b r K bI tm s) :
 gM P K ((.op dst none o,b)::r) bI tm s:=by
 unfold OL at h
 simp only[gM,tf]
 cases hc:o.core with
 | true=>
  simp only[hc,ML]at h
  simp only[]
  split at h
  ·rename_i d s' he
   exact⟨d,s',by simpa[sF,guarded]using he,h⟩
  ·exact h.elim
 | false=>
  simp only[hc,PL]at h
  simp only[]
  split at h
  ·rename_i d s' he
   exact⟨d,by simp[jU,he],fun _=>Er h.1,h.2⟩
  ·exact h.elim
theorem ND {K:Tm→St→Prop} {dst:Option Nat} {f:Nat} {xs:List X} {b:Nat} {r:List (AI×Nat)} {bI:List St} {tm:Tm} {s:St} (h:CL true P f (xs.map (·.ev tm)) s (KL P K r (s::bI) tm dst)) :
 gM P K ((.call dst none f xs,b)::r) bI tm s:=by
 obtain⟨d,s',h1,h2⟩:=h
 exact⟨d,s',h1,h2⟩
theorem abt {K:Tm→St→Prop} {i:AI} {t:Nat} {w:Bool} {b:Nat} {r:List (AI×Nat)} {bI:List St} {tm:Tm} {s:St} {j:AI} (hf:(∃ d o,i = .op d none o∧j = .op d (some (t,w)) o)∨(∃ d f xs,i = .call d none f xs∧j = .call d (some (t,w)) f xs))
 (hg:tm.get t = .bool w) (h:gM P K ((i,b)::r) bI tm s):gM P K ((j,b)::r) bI tm s:=by
 rcases hf with ⟨d,o,rfl,rfl⟩|⟨d,f,xs,rfl,rfl⟩
 ·simp only [gM,tf]at h ⊢
  cases hc:o.core<;>simp only[hc]at h ⊢
  ·obtain⟨x,h1,h2,h3⟩:=h
   refine⟨x,by simpa[jU,hg]using h1,fun hk s' nc=>?_,h3⟩
   have uv:(AI.op d none o).kind = .load:=by
    cases d<;>cases o<;>first|exact hk|(cases hc;done)|(cases hk;done)
   simpa[jU,hg]using h2 uv s' nc
  ·obtain⟨x,s',h1,h2⟩:=h
   exact⟨x,s',by simpa[sF,guarded,hg]using h1,h2⟩
 ·obtain⟨x,s',h1,h2⟩:=h
  exact⟨x,s',by simpa[sF,guarded,hg]using h1,h2⟩
theorem QU {K:Tm→St→Prop} {i:AI} {t:Nat} {w:Bool} {b:Nat} {r:List (AI×Nat)} {bI:List St} {tm:Tm} {s:St} {j:AI} (hf:(∃ d o,i = .op d none o∧j = .op d (some (t,w)) o)∨(∃ d f xs,i = .call d none f xs∧j = .call d (some (t,w)) f xs))
 (hg:tm.get t = .bool (!w)∨∃ l,tm.get t = .tuple l) (h:gM P K r (if gK i.kind then s::bI else bI) (tm.put i.dst (.tuple [])) s):gM P K ((j,b)::r) bI tm s:=by
 rcases hf with ⟨d,o,rfl,rfl⟩|⟨d,f,xs,rfl,rfl⟩
 ·simp only [gM,tf]at h ⊢
  cases hc:o.core<;>simp only[hc]at h ⊢
  ·refine⟨.tuple [], ?_,fun hk s' nc=> ?_,h⟩
   ·rcases hg with hg|⟨l,hg⟩<;>simp[jU,hg]
   ·rcases hg with hg|⟨l,hg⟩<;>simp[jU,hg]
  ·refine⟨.tuple [],s, ?_,h⟩
   rcases hg with hg|⟨l,hg⟩<;>simp[sF,guarded,hg]
 ·refine⟨.tuple [],s, ?_,h⟩
  rcases hg with hg|⟨l,hg⟩<;>simp[sF,guarded,hg]
theorem LO {K:Tm→St→Prop} {i j:AI} {t:Nat} {w:Bool} {b:Nat} {r:List (AI×Nat)} {bI:List St} {tm:Tm} {s:St} (hf:(∃ d o,i = .op d none o∧j = .op d (some (t,w)) o)∨(∃ d f xs,i = .call d none f xs∧j = .call d (some (t,w)) f xs))
 (h:GL P (tm.get t) w i b r K bI tm s):gM P K ((j,b)::r) bI tm s:=by
 unfold GL at h
 split at h
 ·rename_i v hv
  by_cases e:v=w
  ·exact abt hf (by rw[hv,e]) (h.1 e)
  ·exact QU hf (.inl (by rw[hv];cases v<;>cases w<;>simp_all)) (h.2 (by cases v<;>cases w<;>simp_all))
 ·rename_i l hl
  exact QU hf (.inr ⟨l,hl⟩) h
 ·exact h.elim
theorem GY {K:Tm→St→Prop} {dst:Option Nat} {o:AO} {t:Nat} {w:Bool} {b:Nat} {r:List (AI×Nat)} {bI:List St} {tm:Tm} {s:St} (h:GL P (tm.get t) w (.op dst none o) b r K bI tm s) :
 gM P K ((.op dst (some (t,w)) o,b)::r) bI tm s:=LO (.inl ⟨dst,o,rfl,rfl⟩) h
theorem K0 {K:Tm→St→Prop} {dst:Option Nat} {f:Nat} {xs:List X} {t:Nat} {w:Bool} {b:Nat} {r:List (AI×Nat)} {bI:List St} {tm:Tm} {s:St} (h:GL P (tm.get t) w (.call dst none f xs) b r K bI tm s) :
 gM P K ((.call dst (some (t,w)) f xs,b)::r) bI tm s:=LO (.inr ⟨dst,f,xs,rfl,rfl⟩) h
theorem CL.use {one:Bool} {f:Nat} {args:List D} {s:St} {d:D} {s':St} {K:D→St→Prop} (h:aF P f args s d s') (hk:K d s'):CL one P f args s K:=
 match one with
 |true=>⟨d,s',h,hk⟩
 |false=>h.use hk
theorem CU {one:Bool} {f:Nat} {args:List D} {s:St} {d:D} {s':St} {K:D→St→Prop} (h:aF P f args s d s') (hk:K d s'):CL one P f args s K:=CL.use h hk
theorem CR {f:Nat} {args:List D} {s:St} {Q K:D→St→Prop} (h:bM P f args s Q) (hk : ∀ d s',Q d s'→K d s'):CL false P f args s K:=bM.mono h hk
end
end Go.Abs
namespace Go.Abs
theorem nd {α:Type} {a b:α} (h:a=b):a=b:=h
def GJ (g:D) (w:Bool) (A C:Prop):Prop:=
 match g with
 | .bool b=>(b=w→A)∧(b=(!w)→C)
 | .tuple _=>C
 |_=>False
class Two where
 a:Prop
 c:Prop
def CB (d:D) [b:Two] : Prop:=uO d b.a b.c
def GB (d:D) (w:Bool) [b:Two] : Prop:=GJ d w b.a b.c
def ni (g:Option (Nat×Bool)) (tm:Tm) (A C:Prop):Prop:=
 match g with
 |none=>A
 |some (t,w)=>GJ (tm.get t) w A C
def kx (P:Program):List AI→(Tm→St→Prop)→Tm→St→Prop
 | [],K,tm,s=>K tm s
 | .op dst g o::r,K,tm,s=>ni g tm (match aJ o tm s with|some (d,s')=>kx P r K (tm.put dst d) s'|none=>False) (kx P r K (tm.put dst (.tuple [])) s)
 | .call dst g f xs::r,K,tm,s=>ni g tm (CL false P f (xs.map (·.ev tm)) s fun d s'=>kx P r K (tm.put dst d) s') (kx P r K (tm.put dst (.tuple [])) s)
 | .nil dst g neg x::r,K,tm,s=>
  ni g tm (match x.ev tm with
   | .slice _ _ rows=>∀ b:Bool,(rows≠ []→b=false)→kx P r K (tm.put dst (.bool (if neg then !b else b))) s
   |_=>False) (kx P r K (tm.put dst (.tuple [])) s)
 | .jt dst g t xs::r,K,tm,s=>
  ni g tm (match tm.get t with
   | .gh f nR=>enters P f=true∧CL false P f (xs.map (·.ev tm)++nR) s fun d s'=>kx P r K (tm.put dst d) s'
   |_=>False) (kx P r K (tm.put dst (.tuple [])) s)
theorem sK {g:Option (Nat×Bool)} {tm:Tm} {A C A' C':Prop} (h:ni g tm A C) (ha:A→A') (hc:C→C'):guarded g tm A' C':=by
 unfold ni at h
 unfold guarded
 cases g with
 |none=>exact ha h
 | some p=>
  obtain⟨t,w⟩:=p
  simp only[GJ]at h ⊢
  split at h
  ·rename_i hb;try simp only [hb]
   exact⟨fun e=>ha (h.1 e),fun e=>hc (h.2 e)⟩
  ·rename_i hb;try simp only [hb]
   exact hc h
  ·exact h.elim
theorem ox {P:Program} {K:Tm→St→Prop} : ∀ {is:List AI} {tm:Tm} {s:St},kx P is K tm s→iZ P is K tm s
 | [],tm,s,h=>h
 | .op dst g o::r,tm,s,h=>by
  refine sK h (fun h=>?_) ox
  split at h
  ·rename_i he;try simp only [he]
   exact ox h
  ·exact h.elim
 | .call dst g f xs::r,tm,s,h=>sK h (fun h=>bM.mono h fun _ _ h=>ox h) ox
 | .nil dst g neg x::r,tm,s,h=>by
  refine sK h (fun h=>?_) ox
  split at h
  ·rename_i he;try simp only [he]
   exact fun b hb=>ox (h b hb)
  ·exact h.elim
 | .jt dst g t xs::r,tm,s,h=>by
  refine sK h (fun h=>?_) ox
  split at h
  ·rename_i he;try simp only [he]
   exact⟨h.1,bM.mono h.2 fun _ _ h=>ox h⟩
  ·exact h.elim
def gk (P:Program) (K:Tm→St→Prop):List (AI×Nat)→List St→Tm→St→Prop
 | [],_,tm,s=>K tm s
 |(.op dst g o,b)::r,bI,tm,s=>
  match o.core with
  |true=>ni g tm (match aJ o tm s with|some (d,s')=>gk P K r (s::bI) (tm.put dst d) s'|none=>False) (gk P K r (s::bI) (tm.put dst (.tuple [])) s)
  |false=>ni g tm (match aJ o tm s with|some (d,_)=>oi (.op dst none o) tm d (bI.take b)∧gk P K r bI (tm.put dst d) s|none=>False) (gk P K r bI (tm.put dst (.tuple [])) s)
 |(.call dst g f xs,_)::r,bI,tm,s=>ni g tm (CL true P f (xs.map (·.ev tm)) s fun d s'=>gk P K r (s::bI) (tm.put dst d) s') (gk P K r (s::bI) (tm.put dst (.tuple [])) s)
 |(.nil ..,_)::_,_,_,_=>False
 |(.jt ..,_)::_,_,_,_=>False
theorem Bq {P:Program} {t:Nat} {w:Bool} {tm:Tm} {i:AI} {b:Nat} {r:List (AI×Nat)} {K:Tm→St→Prop} {bI:List St} {s:St} {A C:Prop} (h:ni (some (t,w)) tm A C) (ha:A→gM P K ((i,b)::r) bI tm s)
 (hc:C→gM P K r (if gK i.kind then s::bI else bI) (tm.put i.dst (.tuple [])) s):GL P (tm.get t) w i b r K bI tm s:=by
 simp only[ni,GJ]at h
 unfold GL
 split at h
 ·rename_i hb;try simp only [hb]
  exact⟨fun e=>ha (h.1 e),fun e=>hc (h.2 e)⟩
 ·rename_i hb;try simp only [hb]
  exact hc h
 ·exact h.elim
theorem mF {P:Program} {K:Tm→St→Prop} : ∀ {l:List (AI×Nat)} {bI:List St} {tm:Tm} {s:St},gk P K l bI tm s→gM P K l bI tm s
 | [],bI,tm,s,h=>h
 | (.op dst g o,b)::r,bI,tm,s,h=>by
  simp only[gk]at h
  cases hc:o.core with
  | true=>
   simp only[hc]at h
   have ha:(match aJ o tm s with|some (d,s')=>gk P K r (s::bI) (tm.put dst d) s'|none=>False)→gM P K ((.op dst none o,b)::r) bI tm s:=by
    intro h
    refine Jd ?_
    simp only[OL,hc,ML]
    split at h
    ·rename_i he;try simp only [he]
     exact mF h
    ·exact h.elim
   cases g with
   |none=>exact ha h
   |some p=>
    obtain⟨t,w⟩:=p
    refine GY (Bq h ha fun h=>?_)
    simp only[tf,hc,if_true]
    exact mF h
  | false=>
   simp only[hc]at h
   have ha:(match aJ o tm s with|some (d,_)=>oi (.op dst none o) tm d (bI.take b)∧gk P K r bI (tm.put dst d) s|none=>False)→gM P K ((.op dst none o,b)::r) bI tm s:=by
    intro h
    refine Jd ?_
    simp only[OL,hc,PL]
    split at h
    ·rename_i he;try simp only [he]
     exact⟨h.1,mF h.2⟩
    ·exact h.elim
   cases g with
   |none=>exact ha h
   |some p=>
    obtain⟨t,w⟩:=p
    refine GY (Bq h ha fun h=>?_)
    simp only[tf,hc]
    exact mF h
 | (.call dst g f xs,b)::r,bI,tm,s,h=>by
  simp only[gk]at h
  have ha:(CL true P f (xs.map (·.ev tm)) s fun d s'=>gk P K r (s::bI) (tm.put dst d) s')→gM P K ((.call dst none f xs,b)::r) bI tm s:=
   fun⟨d,s',h1,h2⟩=>ND ⟨d,s',h1,mF h2⟩
  cases g with
  |none=>exact ha h
  |some p=>
   obtain⟨t,w⟩:=p
   exact K0 (Bq h ha fun h=>mF h)
 |(.nil ..,_)::_,bI,tm,s,h=>h.elim
 |(.jt ..,_)::_,bI,tm,s,h=>h.elim
section
variable {P:Program} {B:fW} {nt:Nat}
def ki (P:Program) (B:fW) (nt:Nat):AC→(Exit→Tm→St→Prop)→Tm→St→Prop
 | .skip,Q,tm,s=>Q .normal tm s
 | .run is,Q,tm,s=>kx P is (Q .normal) tm s
 | .par is lU,Q,tm,s=>match nh is lU with|some l=>gk P (Q .normal) l [] tm s|none=>False
 | .seq a b,Q,tm,s=>ki P B nt a (nV (ki P B nt b Q) Q) tm s
 | .cond x a b,Q,tm,s=>uO (x.ev tm) (ki P B nt a Q tm s) (ki P B nt b Q tm s)
 | .block id a,Q,tm,s=>ki P B nt a (kG id Q) tm s
 | .loop a,Q,tm,s=>bu P B nt a Q tm s
 | .exit id,Q,tm,s=>Q (.exit id) tm s
 | .scope a,Q,tm,s=>lJ P B nt a a Q tm s
 | .label _,Q,tm,s=>Q .normal tm s
 | .goto l,Q,tm,s=>Q (.goto l) tm s
 | .ret,Q,tm,s=>Q .ret tm s
theorem iJ : ∀ {ac:AC} {Q:Exit→Tm→St→Prop} {tm:Tm} {s:St},ki P B nt ac Q tm s→Sem P B nt ac Q tm s:=by
 intro ac
 induction ac with
 |skip=>exact fun h=>Sem.skip h
 |run is=>exact fun h=>Sem.run (ox h)
 |par is lU=>
  intro Q tm s h
  simp only[ki]at h
  split at h
  ·exact Sem.ajF ‹_› (mF h)
  ·exact h.elim
 |seq a b QC QD=>
  intro Q tm s h
  refine Sem.seq ((QC h).mono fun e tm s hq=>?_)
  cases e with
  |normal=>exact QD hq
  |_=>exact hq
 |cond x a b QC QD=>
  intro Q tm s h
  refine Sem.afu ?_
  simp only[ki]at h
  unfold uO at h ⊢
  split at h
  ·exact⟨fun e=>QC (h.1 e),fun e=>QD (h.2 e)⟩
  ·exact h.elim
 |block id a ih=>exact fun h=>Sem.block (ih h)
 |loop a ih=>exact fun h=>Sem.loop h
 |exit id=>exact fun h=>Sem.exit h
 |scope a ih=>exact fun h=>Sem.scope h
 |label l=>exact fun h=>Sem.label h
 |goto l=>exact fun h=>Sem.goto h
 |ret=>exact fun h=>Sem.ret h
section
variable (Q:Exit→Tm→St→Prop) (N:Tm→St→Prop) (tm:Tm) (s:St) (a b:AC) (is:List AI) (x:X)
theorem TU:ki P B nt .skip Q tm s=Q .normal tm s:=nd rfl
theorem YI:ki P B nt (.run is) Q tm s=kx P is (Q .normal) tm s:=nd rfl
theorem YJ (lU:List (Nat×Nat)):ki P B nt (.par is lU) Q tm s=match nh is lU with|some l=>gk P (Q .normal) l [] tm s|none=>False:=nd rfl
theorem YK:ki P B nt (.seq a b) Q tm s=ki P B nt a (nV (ki P B nt b Q) Q) tm s:=nd rfl
theorem TV:ki P B nt (.cond x a b) Q tm s = @CB (x.ev tm) ⟨ki P B nt a Q tm s,ki P B nt b Q tm s⟩:=nd rfl
theorem QV (id:Nat):ki P B nt (.block id a) Q tm s=ki P B nt a (kG id Q) tm s:=nd rfl
theorem TW:ki P B nt (.loop a) Q tm s=bu P B nt a Q tm s:=nd rfl
theorem QW:ki P B nt (.scope a) Q tm s=lJ P B nt a a Q tm s:=nd rfl
theorem TX (id:Nat):ki P B nt (.exit id) Q tm s=Q (.exit id) tm s:=nd rfl
theorem QX (id:Nat):ki P B nt (.label id) Q tm s=Q .normal tm s:=nd rfl
theorem TY (id:Nat):ki P B nt (.goto id) Q tm s=Q (.goto id) tm s:=nd rfl
theorem YL:ki P B nt .ret Q tm s=Q .ret tm s:=nd rfl
theorem YM:nV N Q .normal tm s=N tm s:=nd rfl
theorem YN:nV N Q .ret tm s=Q .ret tm s:=nd rfl
theorem YO (id:Nat):nV N Q (.exit id) tm s=Q (.exit id) tm s:=nd rfl
theorem YP (id:Nat):nV N Q (.goto id) tm s=Q (.goto id) tm s:=nd rfl
theorem T1 (id:Nat):kG id Q .normal tm s=Q .normal tm s:=nd rfl
theorem T2 (id:Nat):kG id Q .ret tm s=Q .ret tm s:=nd rfl
theorem T3 (id l:Nat):kG id Q (.goto l) tm s=Q (.goto l) tm s:=nd rfl
theorem T4 (id i:Nat):kG id Q (.exit i) tm s=if i=id then Q .normal tm s else Q (.exit i) tm s:=nd rfl
end
theorem bu.kV {a:AC} {Q:Exit→Tm→St→Prop} {tm:Tm} {s:St} (h:ki P B nt a (nV (bu P B nt a Q) Q) tm s):bu P B nt a Q tm s:=bu.once (iJ h)
theorem lJ.kV {a r:AC} {Q:Exit→Tm→St→Prop} {tm:Tm} {s:St} (h:ki P B nt r (zf P B nt a Q) tm s):lJ P B nt a r Q tm s:=lJ.once (iJ h)
def wD (tm:Tm) (n m:Nat):Tm→Prop
 | []=>True
 |(k,d)::r=>Wk ((tm.get k).fg n m) d∧wD tm n m r
theorem wD.get {tm:Tm} {n m:Nat} : ∀ {bx:Tm},wD tm n m bx→∀ t,Wk ((tm.get t).fg n m) (bx.get t)
 | [],_,t=>Wk.junk _
 |(k,d)::r,h,t=>by
  simp only[Tm.get]
  split
  ·rename_i hk;subst hk;exact h.1
  ·exact wD.get h.2 t
theorem Holds.re {Q:Exit→Tm→St→Prop} {tm bx:Tm} {s:St} {gn:List (List D)} {act:Act} {w:World} (n m:Nat) (hn:B.s.ah.length≤n) (hm:B.s.aw.length≤m) (ht:wD tm n m bx) (ho:gE (s.cut n m).ah gn)
 (h:Holds B nt tm s act w):Holds B nt bx ⟨gn,(s.cut n m).aw⟩ act w:=by
 obtain⟨M,e,r,hr,h1,h2⟩:=h
 obtain⟨r',le⟩:=(r.cut n m).q9 ho
 have e':=e.cut hn hm
 refine⟨M,e'.trans ⟨le,fun _ _ _ _=>rfl,fun o h1 h2=>?_,fun t b c z hl e=> .inl ⟨hl,c,z,e⟩,fun _ _ h=>(h rfl).elim,Nat.le_refl _,rfl,rfl,rfl⟩,r',fun k=>((ht.get k) _ _ _ ((hr k).fg n m)).mono le,h1,h2⟩
 rw[← ho.len]at h2
 exact h1.elim (fun h1=>absurd h2 (Nat.not_lt.2 h1)) fun h1=>(h1 rfl).elim
theorem bu.re {a:AC} {Q:Exit→Tm→St→Prop} {tm:Tm} {s:St} (bx:Tm) (gn:List (List D)) (n m:Nat) (hn:B.s.ah.length≤n) (hm:B.s.aw.length≤m) (ht:wD tm n m bx) (ho:gE (s.cut n m).ah gn)
 (h:bu P B nt a Q bx ⟨gn,(s.cut n m).aw⟩):bu P B nt a Q tm s:=
 fun c hc act w hh=>h c hc act w (hh.re (Q:=Q) n m hn hm ht ho)
theorem bu.ind {ι:Type} {a:AC} {Q:Exit→Tm→St→Prop} (I:ι→Prop) (μ:ι→Nat) (TM:ι→Tm) (ST:ι→St)
 (step : ∀ i,I i→(∀ j,I j→μ j<μ i→bu P B nt a Q (TM j) (ST j))→ki P B nt a (nV (bu P B nt a Q) Q) (TM i) (ST i)) : ∀ i,I i→bu P B nt a Q (TM i) (ST i):=by
 have key : ∀ n i,μ i<n→I i→bu P B nt a Q (TM i) (ST i):=by
  intro n
  induction n with
  |zero=>intro i h;exact absurd h (Nat.not_lt_zero _)
  |succ n ih=>exact fun i h hi=>bu.kV (step i hi fun j hj hD=>ih j (by omega) hj)
 exact fun i hi=>key (μ i+1) i (Nat.lt_succ_self _) hi
theorem drop_cons {α:Type} {l rest:List α} {k:Nat} {x:α} (h:l.drop k=x::rest):l[k]? = some x∧l.drop (k+1)=rest∧decide ((k:Int)<(l.length:Int))=true∧k<l.length:=by
 have h1:l[k]? = some x:=by
  have:(l.drop k)[0]? = some x:=by rw[h];rfl
  simpa using this
 have h2:=(List.getElem?_eq_some_iff.1 h1).1
 refine⟨h1, ?_,by simpa using h2,h2⟩
 have:l.drop (k+1)=(l.drop k).drop 1:=by rw[List.drop_drop]
 rw[this,h];rfl
theorem drop_nil {α:Type} {l:List α} {k:Nat} (h:l.drop k = []):decide ((k:Int)<(l.length:Int))=false:=by
 have:=List.drop_eq_nil_iff.1 h
 simp;omega
theorem bu.si {a:AC} {Q:Exit→Tm→St→Prop} {tm:Tm} {s:St} (t z':Nat) {z:Nat} (hw:tm.get t = .slice .full z [])
 (h:bu P B nt a Q (tm.set t (.slice (.tok s.aw.length) z' [])) {s with aw:=s.aw++ [some 0]}):bu P B nt a Q tm s:=by
 intro c hc act w ⟨M,e,r,ht,h1,h2⟩
 obtain⟨r',le⟩:=r.blank
 refine h c hc act w ⟨_,GR e le,r',fun k=>?_,h1,h2⟩
 rw[Tm.FD]
 split
 ·rename_i hk;subst hk;have:=ht k;rw[hw]at this;exact this.own
 ·exact(ht k).mono le
theorem bu.Dy {a:AC} {Q:Exit→Tm→St→Prop} {tm:Tm} {s:St} (o i z':Nat) {z:Nat} {cs:List D} (hc:s.ah[o]? = some cs) (hi:cs[i]? = some (.slice .full z []))
 (h:bu P B nt a Q tm ⟨s.ah.set o (cs.set i (.slice (.tok s.aw.length) z' [])),s.aw++ [some 0]⟩):bu P B nt a Q tm s:=by
 intro c hcc act w hh
 obtain⟨M,e,r,ht,h1,h2⟩:=hh
 obtain⟨r',le⟩:=r.blank
 have le':Le M s (M.eZ s.aw.length none) ⟨s.ah.set o (cs.set i (.slice (.tok s.aw.length) z' [])),s.aw++ [some 0]⟩:=⟨le.G,by simp,le.loc,le.t,le.tk⟩
 have le2:Le (M.eZ s.aw.length none) {s with aw:=s.aw++ [some 0]} (M.eZ s.aw.length none) ⟨s.ah.set o (cs.set i (.slice (.tok s.aw.length) z' [])),s.aw++ [some 0]⟩:=
  ⟨fun _ _ _ h=>h,by simp,fun _ _=> .refl _,Nat.le_refl _,fun t n' _ e=>⟨n',e,Nat.le_refl _,fun _=>rfl⟩⟩
 have r2:Rel (M.eZ s.aw.length none) ⟨s.ah.set o (cs.set i (.slice (.tok s.aw.length) z' [])),s.aw++ [some 0]⟩ w:=by
  refine⟨r'.comm,fun o' ds e=>?_,fun o ho=>r'.jN o (by simpa using ho),fun o o' ho nM=>r'.inj o o' (by simpa using ho) (by simpa using nM),r'.tok,
   fun t b c z o hv e ho=>r'.fj t b c z o hv e (by simpa using ho),r'.fS⟩
  simp only[List.getElem?_set]at e
  split at e
  ·rename_i ho
   subst ho
   split at e
   ·cases e
    obtain⟨vs,T,g1,g2,g3,g4⟩:=r.obj o cs hc
    refine⟨vs,T,g1,by simpa using g2,g3,fun j d v e1 e2=>?_⟩
    rw[List.getElem?_set]at e1
    split at e1
    ·rename_i hj
     subst hj
     split at e1
     ·cases e1
      exact((g4 i _ v hi e2).own (z':=z')).mono le2
     ·cases e1
    ·exact(g4 j d v e1 e2).mono le'
   ·cases e
  ·obtain⟨vs,T,g1,g2,g3,g4⟩:=r'.obj o' ds e
   exact⟨vs,T,g1,g2,g3,fun i d v e1 e2=>(g4 i d v e1 e2).mono le2⟩
 have ee:Ext B.M B.s B.w (M.eZ s.aw.length none) ⟨s.ah.set o (cs.set i (.slice (.tok s.aw.length) z' [])),s.aw++ [some 0]⟩ w:=by
  refine(GR e le).trans ⟨le2,fun _ _ _ _=>rfl,fun o h1 h2=>?_,fun t b c z hl e=> .inl ⟨hl,c,z,e⟩,fun _ _ h=>(h rfl).elim,Nat.le_refl _,rfl,rfl,rfl⟩
  simp at h2
  exact h1.elim (fun h1=>absurd h2 (Nat.not_lt.2 h1)) fun h1=>(h1 rfl).elim
 exact h c hcc act w ⟨_,ee,r2,fun k=>(ht k).mono le',h1,h2⟩
theorem Dz {ac r:AC} {l:Nat} {Q:Exit→Tm→St→Prop} {tm:Tm} {s:St} (hf:uN ac l=some r) (h:lJ P B nt ac r Q tm s):zf P B nt ac Q (.goto l) tm s:=⟨r,hf,h⟩
theorem Sem.nj {a b:AC} {Q:Exit→Tm→St→Prop} {tm:Tm} {s:St} (h:ki P B nt a (nV (Sem P B nt b Q) Q) tm s):Sem P B nt (.seq a b) Q tm s:=Sem.seq (iJ h)
theorem Sem.re {a:AC} {Q:Exit→Tm→St→Prop} {tm:Tm} {s:St} (bx:Tm) (gn:List (List D)) (n m:Nat) (hn:B.s.ah.length≤n) (hm:B.s.aw.length≤m) (ht:wD tm n m bx) (ho:gE (s.cut n m).ah gn)
 (h:Sem P B nt a Q bx ⟨gn,(s.cut n m).aw⟩):Sem P B nt a Q tm s:=
 fun c hc act w hh=>h c hc act w (hh.re (Q:=Q) n m hn hm ht ho)
def Has (P:Program) (f nt:Nat) (res:List (Nat×Option (Bool×Nat))) (body:AC):Prop:=∃ fn,P.funcs[f]? = some fn∧cF P fn=some ⟨nt,res,body⟩
theorem aF.go {f:FuncId} {res:List (Nat×Option (Bool×Nat))} {body:AC} {args:List D} {s:St} {d:D} {s':St} (h0:Has P f nt res body) (hl:Nat.ble args.length nt=true)
 (h : ∀ (B:fW) (Q:Exit→Tm→St→Prop),B.s=s→pT s.ah.length s.aw.length res d s'=Q→ki P B nt body Q (mT 0 args) s):aF P f args s d s':=by
 obtain⟨fn,hf,hc⟩:=h0
 exact aF.intro ⟨fn,hf,hc⟩ (Nat.le_of_ble_eq_true hl) fun B hB=>iJ (h B _ hB rfl)
theorem aF.abw {f:FuncId} {pre post:List D} {rows oN:List (List D)} {z z' k k':Nat} (h:aF P f (pre++ .slice (.tok 0) z rows::post) ⟨[],[some k]⟩ (.slice (.tok 0) z' oN) ⟨[],[some k']⟩)
 (hp:D.bK 0 0 pre=true) (ha:D.bK 0 0 post=true) (hw:D.gU 0 0 rows=true) (hw':D.gU 0 0 oN=true)
 {s:St} {t:Nat} (ht:s.aw[t]? = some (some k)):aF P f (pre++ .slice (.tok t) z rows::post) s (.slice (.tok t) z' oN) ⟨s.ah,s.aw.set t (some k')⟩:=by
 refine bM.frame [] [t] h (by simp) (by simp) (by simp) (by simpa using (List.getElem?_eq_some_iff.1 ht).1) rfl (fun i o' ds e1 e2=>by simp at e1) rfl (fun i t' e1=>?_)
  ?_ ?_ ?_
 ·cases i with
  |zero=>simp at e1;subst e1;simp[ht]
  |succ i=>simp at e1
 ·have h1:=fD [] [t] _ hp
  have h2:=fD [] [t] _ ha
  rw[fP]at h1 h2
  simp[fP,D.cW,Tag.cW,h1,h2,jm _ _ _ hw]
 ·have h1:=iD (n':=0) (m':=1) (Nat.le_refl 0) (Nat.zero_le 1) _ hp
  have h2:=iD (n':=0) (m':=1) (Nat.le_refl 0) (Nat.zero_le 1) _ ha
  rw[yi]at h1 h2 ⊢
  simp only[List.length_nil,List.length_cons,List.all_append,h1,Bool.true_and,List.all_cons,h2,Bool.and_true,D.ok,Tag.ok,mD (Nat.zero_le 0) (Nat.zero_le 1) _ hw]
  rfl
 ·rintro _ _ ⟨rfl,rfl⟩
  refine⟨by simp[D.back,D.cW,Tag.cW,kD,jm _ _ _ hw'], ?_⟩
  simp[St.back,kH]
theorem ajI (A C:Prop) : @CB (.bool true) ⟨A,C⟩=A:=by simp[CB,uO]
theorem ajJ (A C:Prop) : @CB (.bool false) ⟨A,C⟩=C:=by simp[CB,uO]
theorem aby (b:Bool) (A C:Prop) : @CB (.bool (!b)) ⟨A,C⟩ = @CB (.bool b) ⟨C,A⟩:=by
 cases b<;>simp[CB,uO]
theorem Je {b:Bool} {A C:Prop} (h1:b=true→A) (h2:b=false→C) : @CB (.bool b) ⟨A,C⟩:=⟨h1,h2⟩
theorem abz {b:Bool} {A C:Prop} (h:b=true) (h1:b=true→A) : @CB (.bool b) ⟨A,C⟩:=Je h1 (fun h'=>by rw[h]at h';cases h')
theorem abA {b:Bool} {A C:Prop} (h:b=false) (h1:b=false→C) : @CB (.bool b) ⟨A,C⟩:=Je (fun h'=>by rw[h]at h';cases h') h1
theorem afx {n m:Nat} {res:List (Nat×Option (Bool×Nat))} {d:D} {s':St} {tm:Tm} {s:St} {Q:Exit→Tm→St→Prop} (hQ:pT n m res d s'=Q)
 (h : ∃ l,aT res tm s=some l∧Wk ((aW l).fg n m) d∧gE (s.cut n m).ah s'.ah∧(s.cut n m).aw=s'.aw):Q .ret tm s:=hQ ▸ h
theorem afy {n m:Nat} {res:List (Nat×Option (Bool×Nat))} {d:D} {s':St} {tm:Tm} {s:St} {Q:Exit→Tm→St→Prop} (hQ:pT n m res d s'=Q)
 (h : ∃ l,aT res tm s=some l∧Wk ((aW l).fg n m) d∧gE (s.cut n m).ah s'.ah∧(s.cut n m).aw=s'.aw):Q .normal tm s:=hQ ▸ h
end
attribute [go_sem] TU YI YJ YK TV QV TW QW TX QX TY YL YM YN YO YP T1 T2 T3 T4
theorem QY : ∀ (tm:Tm) (s:St) (x:X),aJ (AO.mv x) tm s=some (X.ev tm x,s):=
 fun tm s x=>nd (aJ.eq_1 tm s x)
theorem QZ : ∀ (tm:Tm) (s:St) (c a b:X),
 aJ (AO.pick c a b) tm s =
  match X.ev tm c with
  |D.bool t=>some (if t=true then X.ev tm a else X.ev tm b,s)
  |x=>none:=
 fun tm s c a b=>nd (aJ.eq_2 tm s c a b)
theorem Q1 : ∀ (tm:Tm) (s:St) (zero:List D),
 aJ (AO.alloc zero) tm s=some (D.ptr s.ah.length 0,{ah:=s.ah++ [zero],aw:=s.aw}):=
 fun tm s zero=>nd (aJ.eq_3 tm s zero)
theorem Q2 : ∀ (tm:Tm) (s:St) (x:X),
 aJ (AO.box x) tm s =
  match (X.ev tm x).row with
  |some r=>some (D.ptr s.ah.length 0,{ah:=s.ah++ [r],aw:=s.aw})
  |none=>none:=
 fun tm s x=>nd (aJ.eq_4 tm s x)
theorem Q3 : ∀ (tm:Tm) (s:St) (zero:List D) (parts:List (Nat×Nat×X)),
 aJ (AO.build zero parts) tm s =
  match qP zero (List.map (fun(p:Nat×Nat×X)=>(p.fst,p.snd.fst,X.ev tm p.snd.snd)) parts)with
  |some cs=>some (D.agg cs,s)
  |none=>none:=
 fun tm s zero parts=>nd (aJ.eq_5 tm s zero parts)
theorem Q4 : ∀ (tm:Tm) (s:St) (zero:List D) (size n:Nat) (parts:List (Nat×X)),
 aJ (AO.dA zero size n parts) tm s =
  match jZ size (fU zero n) (List.map (fun(p:Nat×X)=>(p.fst,X.ev tm p.snd)) parts)with
  |some rows=>some (D.slice Tag.full size rows,s)
  |none=>none:=
 fun tm s zero size n parts=>nd (aJ.eq_6 tm s zero size n parts)
theorem Q5 : ∀ (tm:Tm) (s:St) (zero:List D) (size n:Nat) (parts:List (Nat×X)),
 aJ (AO.va zero size n parts) tm s =
  match jZ size (fU zero n) (List.map (fun(p:Nat×X)=>(p.fst,X.ev tm p.snd)) parts)with
  |some rows=>
   some (D.slice (Tag.tok s.aw.length) size rows,{ah:=s.ah,aw:=s.aw++ [some rows.length]})
  |none=>none:=
 fun tm s zero size n parts=>nd (aJ.eq_7 tm s zero size n parts)
theorem Q6 : ∀ (tm:Tm) (s:St) (x:X),
 aJ (AO.AT x) tm s =
  match X.ev tm x with
  | D.slice (Tag.tok t _) z rows=>
   if rows≠ []∧s.aw[t]? = some (some rows.length)then
    some (D.slice Tag.shared z rows,{ah:=s.ah,aw:=s.aw.set t none})
   else none
  |x=>none:=
 fun tm s x=>nd (aJ.eq_8 tm s x)
theorem Q7 : ∀ (tm:Tm) (s:St) (x:X) (agg:Bool) (size:Nat),
 aJ (AO.load x agg size) tm s =
  match X.ev tm x with
  | D.ptr o off=>
   match s.ah[o]? with
   |some cs=>
    match part cs off agg size with
    |some d=>some (d,s)
    |none=>none
   |none=>none
  |D.dB row off=>
   match part row off agg size with
   |some d=>some (d,s)
   |none=>none
  |x=>yR x agg size s:=
 fun tm s x agg size=>nd (aJ.eq_9 tm s x agg size)
theorem NF : ∀ (tm:Tm) (s:St) (p x:X) (size:Nat),
 aJ (AO.store p x size) tm s =
  match X.ev tm p,(X.ev tm x).row with
  | D.ptr o off,some r=>
   match s.ah[o]? with
   | some cs=>
    if r.length=size∧off+size≤cs.length then
     some (D.tuple [],{ah:=s.ah.set o (iA cs off r),aw:=s.aw})
    else none
   |none=>none
  |x,fB=>A1 x fB size s:=
 fun tm s p x size=>nd (aJ.eq_10 tm s p x size)
theorem NG : ∀ (tm:Tm) (s:St) (x:X),
 aJ (AO.bV x) tm s =
  match X.ev tm x with
  |D.ptr o off=>some (D.ptr o off,s)
  |D.dB row off=>some (D.dB row off,s)
  |x=>match MH x with|some d=>some (d,s)|none=>none:=
 fun tm s x=>nd (aJ.eq_11 tm s x)
theorem NH : ∀ (tm:Tm) (s:St) (op:BinOp) (x y:X),
 aJ (AO.bin op x y) tm s =
  match xf op (X.ev tm x) (X.ev tm y)with
  |some d=>some (d,s)
  |none=>none:=
 fun tm s op x y=>nd (aJ.eq_12 tm s op x y)
theorem NK : ∀ (tm:Tm) (s:St) (neg:Bool) (x y:X),
 aJ (AO.Gw neg x y) tm s =
  match X.ev tm x,X.ev tm y with
  |D.bool a,D.bool b=>some (D.bool (if neg=true then !a==b else a==b),s)
  |x,fB=>none:=
 fun tm s neg x y=>nd (aJ.eq_13 tm s neg x y)
theorem NL : ∀ (tm:Tm) (s:St) (neg:Bool) (ks:List Nat) (x y:X),
 aJ (AO.eqs neg ks x y) tm s =
  match X.ev tm x,X.ev tm y with
  |D.agg a,D.agg b=>
   match lu ks a b with
   |some e=>some (D.bool (if neg=true then !e else e),s)
   |none=>none
  |x,fB=>none:=
 fun tm s neg ks x y=>nd (aJ.eq_14 tm s neg ks x y)
theorem NM : ∀ (tm:Tm) (s:St) (neg:Bool) (x y:X),
 aJ (AO.Gx neg x y) tm s =
  match X.ev tm x,X.ev tm y with
  |D.dS,D.dS=>some (D.bool !neg,s)
  |D.ptr o off,D.dS=>some (D.bool neg,s)
  |D.dB row off,D.dS=>some (D.bool neg,s)
  |x,fB=>none:=
 fun tm s neg x y=>nd (aJ.eq_15 tm s neg x y)
theorem NN : ∀ (tm:Tm) (s:St) (op:UnOp) (x:X),
 aJ (AO.un op x) tm s =
  match IB op (X.ev tm x)with
  |some d=>some (d,s)
  |none=>none:=
 fun tm s op x=>nd (aJ.eq_16 tm s op x)
theorem NO : ∀ (tm:Tm) (s:St) (k:IntKind) (x:X),
 aJ (AO.conv k x) tm s =
  match X.ev tm x with
  |D.int k_1 n=>some (D.int k (k.wrap n),s)
  |x=>none:=
 fun tm s k x=>nd (aJ.eq_17 tm s k x)
theorem NP : ∀ (tm:Tm) (s:St) (x:X),
 aJ (AO.D4 x) tm s =
  match X.ev tm x with
  |D.slice g size rows=>
   match ow rows with
   |some b=>some (D.str b,s)
   |none=>none
  |x=>none:=
 fun tm s x=>nd (aJ.eq_18 tm s x)
theorem NQ : ∀ (tm:Tm) (s:St) (x:X),
 aJ (AO.xU x) tm s =
  match X.ev tm x with
  |D.str l=>some (D.slice Tag.shared 1 (List.map (fun(c:UInt8)=> [D.int IntKind.u8 ↑c.toNat]) l),s)
  |x=>none:=
 fun tm s x=>nd (aJ.eq_19 tm s x)
theorem NR : ∀ (tm:Tm) (s:St) (size:Nat) (x:X) (lo hi:Option X),
 aJ (AO.AU size x lo hi) tm s =
  match X.ev tm x with
  | D.slice g z rows=>
   match sU (Option.map (fun(x:X)=>X.ev tm x) lo),
    sV (Option.map (fun(x:X)=>X.ev tm x) hi) rows.length with
   | some l,some h=>
    if(rows = []∨z=size)∧0≤l∧l≤h∧h≤ ↑rows.length then
     some
      (D.slice (if l=0 then g.cut (decide (h = ↑rows.length))else Tag.shared) z
       (List.drop l.toNat (List.take h.toNat rows)),
       s)
    else none
   |x,fB=>none
  |x=>match xh x (Option.map (fun(x:X)=>X.ev tm x) lo) (Option.map (fun(x:X)=>X.ev tm x) hi)with|some d=>some (d,s)|none=>none:=
 fun tm s size x lo hi=>nd (aJ.eq_20 tm s size x lo hi)
theorem NS : ∀ (tm:Tm) (s:St) (x:X) (lo hi:Option X),
 aJ (AO.Iy x lo hi) tm s =
  match X.ev tm x with
  | D.str t=>
   match sU (Option.map (fun(x:X)=>X.ev tm x) lo),sV (Option.map (fun(x:X)=>X.ev tm x) hi) t.length with
   |some l,some h=>
    if 0≤l∧l≤h∧h≤ ↑t.length then some (D.str (List.drop l.toNat (List.take h.toNat t)),s)else none
   |x,fB=>none
  |x=>none:=
 fun tm s x lo hi=>nd (aJ.eq_21 tm s x lo hi)
theorem NT : ∀ (tm:Tm) (s:St) (x:X) (off:Nat),
 aJ (AO.aq x off) tm s =
  match X.ev tm x with
  |D.ptr o k=>some (D.ptr o (k+off),s)
  |D.dB row k=>some (D.dB row (k+off),s)
  |x=>match D7 x off with|some d=>some (d,s)|none=>none:=
 fun tm s x off=>nd (aJ.eq_22 tm s x off)
theorem NU : ∀ (tm:Tm) (s:St) (x:X) (off:Nat) (agg:Bool) (size:Nat),
 aJ (AO.CT x off agg size) tm s =
  match X.ev tm x with
  |D.agg cs=>
   match part cs off agg size with
   |some d=>some (d,s)
   |none=>none
  |x=>none:=
 fun tm s x off agg size=>nd (aJ.eq_23 tm s x off agg size)
theorem NV : ∀ (tm:Tm) (s:St) (x i:X) (size:Nat),
 aJ (AO.cf x i size) tm s =
  match X.ev tm x,X.ev tm i with
  | D.slice g z rows,D.int k n=>
   if 0≤n∧z=size then
    match rows[n.toNat]? with
    |some row=>some (D.dB row 0,s)
    |none=>none
   else none
  |x,fB=>match xW x fB size with|some d=>some (d,s)|none=>none:=
 fun tm s x i size=>nd (aJ.eq_24 tm s x i size)
theorem NW : ∀ (tm:Tm) (s:St) (x i:X),
 aJ (AO.AV x i) tm s =
  match X.ev tm x,X.ev tm i with
  | D.str t,D.int k n=>
   if 0≤n then
    match t[n.toNat]? with
    |some c=>some (D.int IntKind.u8 ↑c.toNat,s)
    |none=>none
   else none
  |x,fB=>none:=
 fun tm s x i=>nd (aJ.eq_25 tm s x i)
theorem NY : ∀ (tm:Tm) (s:St) (x:X) (i:Nat),
 aJ (AO.ext x i) tm s =
  match X.ev tm x with
  |D.tuple ds=>
   match ds[i]? with
   |some d=>some (d,s)
   |none=>none
  |x=>none:=
 fun tm s x i=>nd (aJ.eq_26 tm s x i)
theorem NZ : ∀ (tm:Tm) (s:St) (x:X),
 aJ (AO.vb x) tm s =
  match X.ev tm x with
  |D.str t=>some (D.int IntKind.i64 ↑t.length,s)
  |x=>none:=
 fun tm s x=>nd (aJ.eq_27 tm s x)
theorem N0 : ∀ (tm:Tm) (s:St) (x:X),
 aJ (AO.len x) tm s =
  match X.ev tm x with
  |D.slice g size rows=>some (D.int IntKind.i64 ↑rows.length,s)
  |x=>match Fy x with|some d=>some (d,s)|none=>none:=
 fun tm s x=>nd (aJ.eq_28 tm s x)
theorem N1 : ∀ (tm:Tm) (s:St) (size bytes:Nat) (x y:X),
 aJ (AO.app size bytes x y) tm s =
  match X.ev tm x with
  |D.slice g z rows=>iC size bytes (D.slice g z rows) (X.ev tm y) s
  |d=>A2 size bytes d (X.ev tm y) s:=
 fun tm s size bytes x y=>nd (aJ.eq_29 tm s size bytes x y)
theorem N2 : ∀ (tm:Tm) (s:St) (isMax:Bool) (x y:X),
 aJ (AO.mm isMax x y) tm s =
  match X.ev tm x,X.ev tm y with
  |D.int k a,D.int k' b=>
   if k=k' then some (D.int k (if isMax=true then if b > a then b else a else if b<a then b else a),s)
   else none
  |x,fB=>none:=
 fun tm s isMax x y=>nd (aJ.eq_30 tm s isMax x y)
theorem N3 (tm:Tm) (s:St) (r:List D) (T:TypeId):aJ (AO.sT (.dS::r) T) tm s=some (.ptr s.ah.length 0,{ah:=s.ah++ [.fv T s.ah.length::r],aw:=s.aw}):=nd rfl
theorem N4 (tm:Tm) (s:St) (x:X) (T:TypeId):aJ (AO.AW x T) tm s =
 match (x.ev tm).row with
 |some (.dS::r)=>some (.ptr s.ah.length 0,{ah:=s.ah++ [.fv T s.ah.length::r],aw:=s.aw})
 |_=>none:=nd rfl
theorem N5 (tm:Tm) (s:St) (x y:X):aJ (AO.apps x y) tm s =
 match y.ev tm with
 | .str l=>A0 (x.ev tm) (.slice .shared 1 (l.map fun c=> [.int .u8 c.toNat])) s
 |_=>none:=nd rfl
theorem N6 (tm:Tm) (s:St) (x y:X):aJ (AO.AX x y) tm s=A0 (x.ev tm) (y.ev tm) s:=nd rfl
theorem N7 (tm:Tm) (s:St) (f:Nat) (xs:List X):aJ (AO.uK f xs) tm s=some (.gh f (xs.map fun x=>x.ev tm),s):=nd rfl
theorem N8 (tm:Tm) (s:St):aJ AO.uL tm s=some (.fR s.ah.length,{ah:=s.ah++ [[]],aw:=s.aw}):=nd rfl
theorem N9 (tm:Tm) (s:St) (m k v:X):aJ (AO.yP m k v) tm s =
 match m.ev tm,k.ev tm,v.ev tm with
 | .fR o, .str key, .slice g z rows=>
  match s.ah[o]? with
  |some cs=>match xg key (.slice g z rows) cs with|some jL=>some (.tuple [],{ah:=s.ah.set o jL,aw:=s.aw})|none=>none
  |none=>none
 |_,_,_=>none:=nd rfl
theorem Oa (tm:Tm) (s:St) (m k:X) (zero:D):aJ (AO.wj m k zero) tm s =
 match m.ev tm,k.ev tm with
 | .fR o, .str key=>
  match s.ah[o]? with
  |some cs=>match yQ key zero cs with|some d=>some (d,s)|none=>none
  |none=>none
 |_,_=>none:=nd rfl
theorem Oc (tm:Tm) (s:St) (o:FO) (x y:X):aJ (AO.qO o x y) tm s=match qt o (x.ev tm) (y.ev tm)with|some d=>some (d,s)|none=>none:=nd rfl
theorem Od (tm:Tm) (s:St) (size bytes:Nat) (zero:List D) (l c:X):aJ (AO.AY size bytes zero l c) tm s =
 match l.ev tm,c.ev tm with
 | .int .i64 n, .int .i64 m=>if n=m∧0≤n∧n*((bytes:Int)+1)≤bH then some (.eA size s.ah.length 0 n.toNat,{s with ah:=s.ah++ [.int .i64 ((0:Nat):Int)::(fU zero n.toNat).flatten]})else none
 |_,_=>none:=nd rfl
theorem Jf (o:FO) (x y:X):(AO.qO o x y).core=false:=nd rfl
theorem Jg (size bytes:Nat) (zero:List D) (l c:X):(AO.AY size bytes zero l c).core=true:=nd rfl
theorem Jh (f:Nat) (xs:List X):(AO.uK f xs).core=false:=nd rfl
theorem Ji:AO.uL.core=true:=nd rfl
theorem Jj (m k v:X):(AO.yP m k v).core=true:=nd rfl
theorem Jk (m k:X) (zero:D):(AO.wj m k zero).core=false:=nd rfl
theorem Q8 (n m f:Nat) (cs:List D):D.fg n m (.gh f cs) = .gh f (D.gw n m cs):=nd (by simp only[D.fg])
theorem Q9 (n m:Nat) (o:Nat):D.fg n m (.fR o)=if o<n then .fR o else .junk:=nd (by simp only[D.fg])
theorem Oe (d:Option Nat) (g:Option (Nat×Bool)) (t:Nat) (xs:List X):(AI.jt d g t xs).dst=d:=nd rfl
theorem Jl (x y:X):(AO.AX x y).core=true:=nd rfl
theorem Jm (z:List D) (T:TypeId):(AO.sT z T).core=true:=nd rfl
theorem Jn (x:X) (T:TypeId):(AO.AW x T).core=true:=nd rfl
theorem Jo (x y:X):(AO.apps x y).core=true:=nd rfl
theorem Ra (n m:Nat) (v:Value):D.fg n m (.val v) = .val v:=nd (by simp only[D.fg])
theorem Rb (n m:Nat) (T:TypeId) (o:Nat):D.fg n m (.fv T o)=if o<n then .fv T o else .junk:=nd (by simp only[D.fg])
theorem T5 : ∀ (tm:Tm) (t:Nat),X.ev tm (X.s t)=tm.get t:=
 fun tm t=>nd (X.ev.eq_1 tm t)
theorem T6 : ∀ (tm:Tm) (d:D),X.ev tm (X.k d)=d:=
 fun tm d=>nd (X.ev.eq_2 tm d)
theorem Og : ∀ (tm:Tm) (d:D) (t:Nat),tm.put (some t) d=tm.set t d:=
 fun tm d t=>nd (Tm.put.eq_1 tm d t)
theorem Oh : ∀ (tm:Tm) (d:D),tm.put none d=tm:=
 fun tm d=>nd (Tm.put.eq_2 tm d)
theorem Oi : ∀ (x:Nat) (fB:D),Tm.set [] x fB = [(x,fB)]:=
 fun x fB=>nd (Tm.set.eq_1 x fB)
theorem Oj : ∀ (x:Nat) (fB:D) (k:Nat) (e:D) (r:List (Nat×D)),
 Tm.set ((k,e)::r) x fB=if k=x then(k,fB)::r else(k,e)::Tm.set r x fB:=
 fun x fB k e r=>nd (Tm.set.eq_2 x fB k e r)
theorem Ol : ∀ (x:Nat),Tm.get [] x=D.junk:=
 fun x=>nd (Tm.get.eq_1 x)
theorem Om : ∀ (x k:Nat) (d:D) (r:List (Nat×D)),Tm.get ((k,d)::r) x=if k=x then d else Tm.get r x:=
 fun x k d r=>nd (Tm.get.eq_2 x k d r)
theorem Rc : ∀ (x:Nat),mT x [] = []:=
 fun x=>nd (mT.eq_1 x)
theorem Re : ∀ (x:Nat) (d:D) (r:List D),mT x (d::r)=(x,d)::mT (x+1) r:=
 fun x d r=>nd (mT.eq_2 x d r)
theorem On : ∀ (d:Option Nat) (g:Option (Nat×Bool)) (o:AO),(AI.op d g o).dst=d:=
 fun d g o=>nd (AI.dst.eq_1 d g o)
theorem Oo : ∀ (d:Option Nat) (g:Option (Nat×Bool)) (f:Nat) (xs:List X),(AI.call d g f xs).dst=d:=
 fun d g f xs=>nd (AI.dst.eq_2 d g f xs)
theorem Oq : ∀ (d:Option Nat) (g:Option (Nat×Bool)) (neg:Bool) (fB:X),(AI.nil d g neg fB).dst=d:=
 fun d g neg fB=>nd (AI.dst.eq_3 d g neg fB)
theorem T7 : ∀ (cs:List D) (off size:Nat),
 part cs off true size=if off+size≤cs.length then some (D.agg (List.take size (List.drop off cs)))else none:=
 fun cs off size=>nd (part.eq_1 cs off size)
theorem T8 : ∀ (cs:List D) (off size:Nat),part cs off false size=cs[off]? :=
 fun cs off size=>nd (part.eq_2 cs off size)
theorem Ot : ∀ (cs:List D) (off:Nat) (r:List D),
 iA cs off r=List.take off cs++r++List.drop (off+r.length) cs:=
 fun cs off r=>nd (iA.eq_1 cs off r)
theorem Rf : ∀ (cells:List D),qP cells [] = some cells:=
 fun cells=>nd (qP.eq_1 cells)
theorem Rg : ∀ (cells:List D) (off size:Nat) (d:D) (rest:List (Nat×Nat×D)),
 qP cells ((off,size,d)::rest) =
  match d.row with
  |none=>none
  |some r=>if r.length=size∧off+size≤cells.length then qP (iA cells off r) rest else none:=
 fun cells off size d rest=>nd (qP.eq_2 cells off size d rest)
theorem Jp : ∀ (size:Nat) (rows:List (List D)),jZ size rows [] = some rows:=
 fun size rows=>nd (jZ.eq_1 size rows)
theorem Jq : ∀ (size:Nat) (rows:List (List D)) (i:Nat) (d:D) (rest:List (Nat×D)),
 jZ size rows ((i,d)::rest) =
  match d.row with
  |none=>none
  |some r=>if r.length=size∧i<rows.length then jZ size (rows.set i r) rest else none:=
 fun size rows i d rest=>nd (jZ.eq_2 size rows i d rest)
theorem Jr : ∀ (zero:List D),fU zero 0 = []:=
 fun zero=>nd (fU.eq_1 zero)
theorem Js : ∀ (zero:List D) (i:Nat),fU zero i.succ=zero::fU zero i:=
 fun zero i=>nd (fU.eq_2 zero i)
theorem T9 : ∀ (op:BinOp) (k:IntKind) (a:Int) (k':IntKind) (b:Int),
 xf op (D.int k a) (D.int k' b)=if k=k' then gi op k a b else none:=
 fun op k a k' b=>nd (xf.eq_1 op k a k' b)
theorem Ua : ∀ (op:BinOp) (a b:List UInt8),xf op (D.str a) (D.str b)=og op a b:=
 fun op a b=>nd (xf.eq_2 op a b)
theorem Ou : ∀ (k:IntKind) (a b:Int),gi BinOp.add k a b=some (D.int k (k.wrap (a+b))):=
 fun k a b=>nd (gi.eq_1 k a b)
theorem Ov : ∀ (k:IntKind) (a b:Int),gi BinOp.sub k a b=some (D.int k (k.wrap (a - b))):=
 fun k a b=>nd (gi.eq_2 k a b)
theorem Ow : ∀ (k:IntKind) (a b:Int),gi BinOp.mul k a b=some (D.int k (k.wrap (a*b))):=
 fun k a b=>nd (gi.eq_3 k a b)
theorem Ox : ∀ (k:IntKind) (a b:Int),
 gi BinOp.quo k a b=if b=0 then none else some (D.int k (k.wrap (a.tdiv b))):=
 fun k a b=>nd (gi.eq_4 k a b)
theorem Oy : ∀ (k:IntKind) (a b:Int),gi BinOp.rem k a b=if b=0 then none else some (D.int k (a.tmod b)):=
 fun k a b=>nd (gi.eq_5 k a b)
theorem Oz : ∀ (k:IntKind) (a b:Int),gi BinOp.eql k a b=some (D.bool (a==b)):=
 fun k a b=>nd (gi.eq_6 k a b)
theorem OA : ∀ (k:IntKind) (a b:Int),gi BinOp.neq k a b=some (D.bool (a != b)):=
 fun k a b=>nd (gi.eq_7 k a b)
theorem OB : ∀ (k:IntKind) (a b:Int),gi BinOp.lss k a b=some (D.bool (decide (a<b))):=
 fun k a b=>nd (gi.eq_8 k a b)
theorem OC : ∀ (k:IntKind) (a b:Int),gi BinOp.leq k a b=some (D.bool (decide (a≤b))):=
 fun k a b=>nd (gi.eq_9 k a b)
theorem K3 : ∀ (k:IntKind) (a b:Int),gi BinOp.gtr k a b=some (D.bool (decide (a > b))):=
 fun k a b=>nd (gi.eq_10 k a b)
theorem K4 : ∀ (k:IntKind) (a b:Int),gi BinOp.geq k a b=some (D.bool (decide (a≥b))):=
 fun k a b=>nd (gi.eq_11 k a b)
theorem OD : ∀ (a b:List UInt8),
 og BinOp.add a b=if a.length+b.length≤bH then some (D.str (a++b))else none:=
 fun a b=>nd (og.eq_1 a b)
theorem OE : ∀ (a b:List UInt8),og BinOp.eql a b=some (D.bool (a==b)):=
 fun a b=>nd (og.eq_2 a b)
theorem OF : ∀ (a b:List UInt8),og BinOp.neq a b=some (D.bool !a==b):=
 fun a b=>nd (og.eq_3 a b)
theorem OG : ∀ (a b:List UInt8),og BinOp.lss a b=some (D.bool (bytesLess a b)):=
 fun a b=>nd (og.eq_4 a b)
theorem YQ : ∀ (k:IntKind) (n:Int),IB UnOp.neg (D.int k n)=some (D.int k (k.wrap (0 - n))):=
 fun k n=>nd (IB.eq_1 k n)
theorem YR : ∀ (b:Bool),IB UnOp.not (D.bool b)=some (D.bool !b):=
 fun b=>nd (IB.eq_2 b)
theorem OH : ∀ (k:IntKind) (a:Int) (k':IntKind) (b:Int),
 mX 0 (D.int k a) (D.int k' b)=if k=k' then some (a==b)else none:=
 fun k a k' b=>nd (mX.eq_1 k a k' b)
theorem OI : ∀ (a b:Bool),mX 1 (D.bool a) (D.bool b)=some (a==b):=
 fun a b=>nd (mX.eq_2 a b)
theorem OM : ∀ (a b:List UInt8),mX 2 (D.str a) (D.str b)=some (a==b):=
 fun a b=>nd (mX.eq_3 a b)
theorem K5:lu [] [] [] = some true:=
 nd (lu.eq_1)
theorem K6 : ∀ (k:Nat) (ks:List Nat) (WV:D) (xs:List D) (y:D) (ys:List D),
 lu (k::ks) (WV::xs) (y::ys) =
  match mX k WV y with
  |none=>none
  |some true=>lu ks xs ys
  |some false=>some false:=
 fun k ks WV xs y ys=>nd (lu.eq_2 k ks WV xs y ys)
theorem YS:sU none=some 0:=
 nd (sU.eq_1)
theorem YT : ∀ (k:IntKind) (n:Int),sU (some (D.int k n))=some n:=
 fun k n=>nd (sU.eq_2 k n)
theorem YU : ∀ (len:Nat),sV none len=some ↑len:=
 fun len=>nd (sV.eq_1 len)
theorem YV : ∀ (len:Nat) (k:IntKind) (n:Int),sV (some (D.int k n)) len=some n:=
 fun len k n=>nd (sV.eq_2 len k n)
theorem K7 : ∀ (zero:List D),(AO.alloc zero).core=true:=
 fun zero=>nd (AO.core.eq_1 zero)
theorem K8 : ∀ (fB:X),(AO.box fB).core=true:=
 fun fB=>nd (AO.core.eq_2 fB)
theorem K9 : ∀ (zero:List D) (size n:Nat) (parts:List (Nat×X)),(AO.va zero size n parts).core=true:=
 fun zero size n parts=>nd (AO.core.eq_3 zero size n parts)
theorem La : ∀ (fB:X),(AO.AT fB).core=true:=
 fun fB=>nd (AO.core.eq_4 fB)
theorem Lb : ∀ (p fB:X) (size:Nat),(AO.store p fB size).core=true:=
 fun p fB size=>nd (AO.core.eq_5 p fB size)
theorem Lc : ∀ (size bytes:Nat) (fB y:X),(AO.app size bytes fB y).core=true:=
 fun size bytes fB y=>nd (AO.core.eq_6 size bytes fB y)
theorem Ld : ∀ (val:Nat) (zero:List D),(AI.op (some val) none (AO.alloc zero)).kind=AK.alloc:=
 fun val zero=>nd (AI.kind.eq_1 val zero)
theorem Lf : ∀ (zero:List D),(AO.alloc zero).kind=AK.core:=
 fun zero=>nd (AO.kind.eq_1 zero)
theorem Lg : ∀ (fB:X),(AO.box fB).kind=AK.core:=
 fun fB=>nd (AO.kind.eq_2 fB)
theorem Lh : ∀ (zero:List D) (size n:Nat) (parts:List (Nat×X)),(AO.va zero size n parts).kind=AK.core:=
 fun zero size n parts=>nd (AO.kind.eq_3 zero size n parts)
theorem Li : ∀ (fB:X),(AO.AT fB).kind=AK.core:=
 fun fB=>nd (AO.kind.eq_4 fB)
theorem Lj : ∀ (p fB:X) (size:Nat),(AO.store p fB size).kind=AK.core:=
 fun p fB size=>nd (AO.kind.eq_5 p fB size)
theorem Lk : ∀ (size bytes:Nat) (fB y:X),(AO.app size bytes fB y).kind=AK.core:=
 fun size bytes fB y=>nd (AO.kind.eq_6 size bytes fB y)
theorem Ll : ∀ (fB:X) (agg:Bool) (size:Nat),(AO.load fB agg size).kind=AK.load:=
 fun _ _ _=>nd rfl
theorem ON:gK AK.core=true:=
 nd (gK.eq_1)
theorem OO:gK AK.alloc=true:=
 nd (gK.eq_2)
theorem OP : ∀ (i:AI) (tm:Tm) (d:D),oi i tm d [] = True:=
 fun i tm d=>nd (oi.eq_1 i tm d)
theorem OQ : ∀ (i:AI) (tm:Tm) (d:D) (s:St) (r:List St),
 oi i tm d (s::r)=(jU i tm s=some d∧oi i tm d r):=
 fun i tm d s r=>nd (oi.eq_2 i tm d s r)
theorem YW : ∀ (tm:Tm) (s:St) (dst:Option Nat) (o:AO),
 jU (AI.op dst none o) tm s=Option.map (fun(x:D×St)=>x.fst) (aJ o tm s):=
 fun tm s dst o=>nd (jU.eq_1 tm s dst o)
theorem YX : ∀ (tm:Tm) (s:St) (dst:Option Nat) (t:Nat) (want:Bool) (o:AO),
 jU (AI.op dst (some (t,want)) o) tm s =
  match tm.get t with
  |D.bool b=>if b=want then Option.map (fun(x:D×St)=>x.fst) (aJ o tm s)else some (D.tuple [])
  |D.tuple vs=>some (D.tuple [])
  |x=>none:=
 fun tm s dst t want o=>nd (jU.eq_2 tm s dst t want o)
theorem Lm : ∀ (is:List AI),nh is [] = some []:=
 fun is=>nd (nh.eq_1 is)
theorem Ln : ∀ (is:List AI) (q b:Nat) (r:List (Nat×Nat)),
 nh is ((q,b)::r) =
  match is[q]?,nh is r with
  |some ai,some l=>some ((ai,b)::l)
  |x,fB=>none:=
 fun is q b r=>nd (nh.eq_2 is q b r)
theorem YY : ∀ (tm:Tm) (n m:Nat),wD tm n m [] = True:=
 fun tm n m=>nd (wD.eq_1 tm n m)
theorem YZ : ∀ (tm:Tm) (n m k:Nat) (d:D) (r:List (Nat×D)),
 wD tm n m ((k,d)::r)=(Wk (D.fg n m (tm.get k)) d∧wD tm n m r):=
 fun tm n m k d r=>nd (wD.eq_2 tm n m k d r)
theorem Ub : ∀ (n m o off:Nat),D.fg n m (D.ptr o off)=if o<n then D.ptr o off else D.junk:=
 fun n m o off=>nd (D.fg.eq_1 n m o off)
theorem Uc : ∀ (n m:Nat) (row:List D) (off:Nat),D.fg n m (D.dB row off)=D.dB (D.gw n m row) off:=
 fun n m row off=>nd (D.fg.eq_2 n m row off)
theorem Ud : ∀ (n m:Nat) (g:Tag) (z:Nat) (rows:List (List D)),
 D.fg n m (D.slice g z rows)=D.slice (Tag.fg m g) z (D.kB n m rows):=
 fun n m g z rows=>nd (D.fg.eq_3 n m g z rows)
theorem Ue : ∀ (n m:Nat) (cs:List D),D.fg n m (D.agg cs)=D.agg (D.gw n m cs):=
 fun n m cs=>nd (D.fg.eq_4 n m cs)
theorem Uf : ∀ (n m:Nat) (ds:List D),D.fg n m (D.tuple ds)=D.tuple (D.gw n m ds):=
 fun n m ds=>nd (D.fg.eq_5 n m ds)
theorem Ug : ∀ (n m:Nat),D.fg n m D.junk=D.junk:=
 fun n m=>nd (D.fg.eq_6 n m)
theorem Uh : ∀ (n m:Nat) (k:IntKind) (fB:Int),D.fg n m (D.int k fB)=D.int k fB:=
 fun n m k fB=>nd (D.fg.eq_7 n m k fB)
theorem Ui : ∀ (n m:Nat) (b:Bool),D.fg n m (D.bool b)=D.bool b:=
 fun n m b=>nd (D.fg.eq_8 n m b)
theorem Uj : ∀ (n m:Nat) (l:List UInt8),D.fg n m (D.str l)=D.str l:=
 fun n m l=>nd (D.fg.eq_9 n m l)
theorem Rh : ∀ (n m:Nat),D.fg n m D.dS=D.dS:=
 fun n m=>nd (D.fg.eq_10 n m)
theorem Ri : ∀ (n m:Nat),D.gw n m [] = []:=
 fun n m=>nd (D.gw.eq_1 n m)
theorem Rj : ∀ (n m:Nat) (d:D) (r:List D),D.gw n m (d::r)=D.fg n m d::D.gw n m r:=
 fun n m d r=>nd (D.gw.eq_2 n m d r)
theorem Rk : ∀ (n m:Nat),D.kB n m [] = []:=
 fun n m=>nd (D.kB.eq_1 n m)
theorem Rm : ∀ (n m:Nat) (d:List D) (r:List (List D)),D.kB n m (d::r)=D.gw n m d::D.kB n m r:=
 fun n m d r=>nd (D.kB.eq_2 n m d r)
theorem OR : ∀ (m t:Nat) (y:Bool),Tag.fg m (Tag.tok t y)=if t<m then Tag.tok t y else Tag.shared:=
 fun _ _ _=>nd rfl
theorem OS : ∀ (s:St) (n m:Nat),
 s.cut n m = {ah:=List.map (D.gw n m) (List.take n s.ah),aw:=List.take m s.aw}:=
 fun s n m=>nd (St.cut.eq_1 s n m)
theorem Uk : ∀ (d:D),aW [d] = d:=
 fun d=>nd (aW.eq_1 d)
theorem Ul (size bytes t:Nat) (rows:List (List D)) (g:Tag) (r:List D) (s:St):iC size bytes (.slice (.tok t) size rows) (.slice g size [r]) s =
 if(rows.length+1)*(bytes+1)≤bH∧s.aw[t]? = some (some rows.length)then some (.slice (.tok t) size (rows++ [r]),⟨s.ah,s.aw.set t (some (rows.length+1))⟩)else none:=by
 simp only[iC,List.length_singleton]
 by_cases h1:(rows.length+1)*(bytes+1)≤bH<;>by_cases h2:s.aw[t]? = some (some rows.length)<;>simp[h1,h2]
theorem nZ {size bytes t:Nat} {rows new:List (List D)} {g:Tag} {s:St} (h1:(rows.length+new.length)*(bytes+1)≤bH) (h2:s.aw[t]? = some (some rows.length)) :
 iC size bytes (.slice (.tok t) size rows) (.slice g size new) s=some (.slice (.tok t) size (rows++new),⟨s.ah,s.aw.set t (some (rows.length+new.length))⟩):=by
 cases new with
 | nil=>
  have:s.aw.set t (some rows.length)=s.aw:=by
   apply List.ext_getElem?
   intro i
   rw[List.getElem?_set]
   split
   ·rename_i hi;subst hi;rw[h2,if_pos (List.getElem?_eq_some_iff.1 h2).1]
   ·rfl
  simp only[List.length_nil,Nat.add_zero]at h1
  simp[iC,h1,this]
 |cons x l=>
  simp only[iC,h1,h2]
  simp
theorem Rn (size bytes z:Nat) (g:Tag) (r:List D) (s:St):iC size bytes (.slice .full z []) (.slice g size [r]) s =
 if bytes+1≤bH then some (.slice (.tok s.aw.length) size [r],⟨s.ah,s.aw++ [some 1]⟩)else none:=by
 simp[iC]
theorem Y0 {P:Program} {B:fW} {nt:Nat} (ac:AC) (Q:Exit→Tm→St→Prop) (tm:Tm) (s:St):zf P B nt ac Q .normal tm s=Q .normal tm s:=nd rfl
theorem Y1 {P:Program} {B:fW} {nt:Nat} (ac:AC) (Q:Exit→Tm→St→Prop) (tm:Tm) (s:St):zf P B nt ac Q .ret tm s=Q .ret tm s:=nd rfl
theorem Y2 {P:Program} {B:fW} {nt:Nat} (ac:AC) (Q:Exit→Tm→St→Prop) (tm:Tm) (s:St) (i:Nat):zf P B nt ac Q (.exit i) tm s=Q (.exit i) tm s:=nd rfl
theorem Y3 (m:Nat):Tag.fg m .full = .full:=nd rfl
theorem Ro (m:Nat):Tag.fg m .shared = .shared:=nd rfl
theorem afz {P:Program} (K:Tm→St→Prop) (tm:Tm) (s:St):kx P [] K tm s=K tm s:=nd rfl
theorem s_op {P:Program} (dst:Option Nat) (o:AO) (r:List AI) (K:Tm→St→Prop) (tm:Tm) (s:St) :
 kx P (.op dst none o::r) K tm s=(match aJ o tm s with|some (d,s')=>kx P r K (tm.put dst d) s'|none=>False):=nd rfl
def KJ (P:Program) (r:List AI) (K:Tm→St→Prop) (tm:Tm) (dst:Option Nat) (d:D) (s:St):Prop:=kx P r K (tm.put dst d) s
theorem ajL {P:Program} (r:List AI) (K:Tm→St→Prop) (tm:Tm) (dst:Option Nat) (d:D) (s:St):KJ P r K tm dst d s=kx P r K (tm.put dst d) s:=nd rfl
theorem s_call {P:Program} (dst:Option Nat) (f:Nat) (xs:List X) (r:List AI) (K:Tm→St→Prop) (tm:Tm) (s:St) :
 kx P (.call dst none f xs::r) K tm s=CL false P f (xs.map (·.ev tm)) s (KJ P r K tm dst):=nd rfl
def NJ (P:Program) (dst:Option Nat) (neg:Bool) (x:D) (r:List AI) (K:Tm→St→Prop) (tm:Tm) (s:St):Prop:=
 match x with
 | .slice _ _ rows=>∀ b:Bool,(rows≠ []→b=false)→kx P r K (tm.put dst (.bool (if neg then !b else b))) s
 |_=>False
theorem abB {P:Program} (dst:Option Nat) (neg:Bool) (x:X) (r:List AI) (K:Tm→St→Prop) (tm:Tm) (s:St) :
 kx P (.nil dst none neg x::r) K tm s=NJ P dst neg (x.ev tm) r K tm s:=nd rfl
theorem Y4 {P:Program} (dst:Option Nat) (neg:Bool) (g:Tag) (z:Nat) (d:List D) (l:List (List D)) (r:List AI) (K:Tm→St→Prop) (tm:Tm) (s:St) :
 NJ P dst neg (.slice g z (d::l)) r K tm s=kx P r K (tm.put dst (.bool neg)) s:=by
 simp only[NJ,ne_eq,reduceCtorEq,not_false_eq_true,true_imp_iff,eq_iff_iff]
 refine⟨fun h=>by have:=h false rfl;cases neg<;>exact this,fun h b hb=>?_⟩
 subst hb;cases neg<;>exact h
theorem Um {P:Program} {dst:Option Nat} {neg:Bool} {g:Tag} {z:Nat} {l:List (List D)} {r:List AI} {K:Tm→St→Prop} {tm:Tm} {s:St}
 (h1:l = []→kx P r K (tm.put dst (.bool (!neg))) s) (h2:kx P r K (tm.put dst (.bool neg)) s):NJ P dst neg (.slice g z l) r K tm s:=by
 intro b hb
 cases b with
 |false=>cases neg<;>exact h2
 |true=>
  have:l = []:=Decidable.byContradiction fun h=>by cases hb h
  cases neg<;>exact h1 this
theorem afB {P:Program} (dst:Option Nat) (t:Nat) (w:Bool) (o:AO) (r:List AI) (K:Tm→St→Prop) (tm:Tm) (s:St) :
 kx P (.op dst (some (t,w)) o::r) K tm s = @GB (tm.get t) w ⟨(kx P (.op dst none o::r) K tm s),(kx P r K (tm.put dst (.tuple [])) s)⟩:=nd rfl
def CV (P:Program) (x:D) (afC:List D) (s:St) (K:D→St→Prop):Prop:=
 match x with
 | .gh f nR=>enters P f=true∧CL false P f (afC++nR) s K
 |_=>False
theorem Y5 {P:Program} (dst:Option Nat) (t:Nat) (xs:List X) (r:List AI) (K:Tm→St→Prop) (tm:Tm) (s:St) :
 kx P (.jt dst none t xs::r) K tm s=CV P (tm.get t) (xs.map (·.ev tm)) s (KJ P r K tm dst):=nd rfl
theorem CV.use {P:Program} {f:Nat} {nR afC:List D} {s s':St} {d:D} {K:D→St→Prop} (he:enters P f=true) (h:aF P f (afC++nR) s d s') (k:K d s'):CV P (.gh f nR) afC s K:=⟨he,CU h k⟩
theorem Un {P:Program} (dst:Option Nat) (t:Nat) (w:Bool) (u:Nat) (xs:List X) (r:List AI) (K:Tm→St→Prop) (tm:Tm) (s:St) :
 kx P (.jt dst (some (t,w)) u xs::r) K tm s = @GB (tm.get t) w ⟨(kx P (.jt dst none u xs::r) K tm s),(kx P r K (tm.put dst (.tuple [])) s)⟩:=nd rfl
theorem Y6 {P:Program} (dst:Option Nat) (t:Nat) (w:Bool) (f:Nat) (xs:List X) (r:List AI) (K:Tm→St→Prop) (tm:Tm) (s:St) :
 kx P (.call dst (some (t,w)) f xs::r) K tm s = @GB (tm.get t) w ⟨(kx P (.call dst none f xs::r) K tm s),(kx P r K (tm.put dst (.tuple [])) s)⟩:=nd rfl
theorem abD {P:Program} (dst:Option Nat) (t:Nat) (w:Bool) (neg:Bool) (x:X) (r:List AI) (K:Tm→St→Prop) (tm:Tm) (s:St) :
 kx P (.nil dst (some (t,w)) neg x::r) K tm s = @GB (tm.get t) w ⟨(kx P (.nil dst none neg x::r) K tm s),(kx P r K (tm.put dst (.tuple [])) s)⟩:=nd rfl
theorem ajM (b:Bool) (A C:Prop) : @GB (.bool b) true ⟨A,C⟩ = @CB (.bool b) ⟨A,C⟩:=nd rfl
theorem ajN (b:Bool) (A C:Prop) : @GB (.bool b) false ⟨A,C⟩ = @CB (.bool b) ⟨C,A⟩:=by
 cases b<;>simp[GB,CB,GJ,uO]
theorem ajO (l:List D) (w:Bool) (A C:Prop) : @GB (.tuple l) w ⟨A,C⟩=C:=nd rfl
theorem afD {P:Program} {K:Tm→St→Prop} (bI:List St) (tm:Tm) (s:St):gk P K [] bI tm s=K tm s:=nd rfl
def OJ (P:Program) (o:AO) (dst:Option Nat) (b:Nat) (r:List (AI×Nat)) (K:Tm→St→Prop) (bI:List St) (tm:Tm) (s:St):Bool→Prop
 |true=>match aJ o tm s with|some (d,s')=>gk P K r (s::bI) (tm.put dst d) s'|none=>False
 |false=>match aJ o tm s with|some (d,_)=>oi (.op dst none o) tm d (bI.take b)∧gk P K r bI (tm.put dst d) s|none=>False
theorem ajQ {P:Program} {K:Tm→St→Prop} (dst:Option Nat) (o:AO) (b:Nat) (r:List (AI×Nat)) (bI:List St) (tm:Tm) (s:St) :
 gk P K ((.op dst none o,b)::r) bI tm s=OJ P o dst b r K bI tm s o.core:=by
 simp only[gk,ni]
 cases o.core<;>rfl
theorem ajR {P:Program} (o:AO) (dst:Option Nat) (b:Nat) (r:List (AI×Nat)) (K:Tm→St→Prop) (bI:List St) (tm:Tm) (s:St) :
 OJ P o dst b r K bI tm s true=match aJ o tm s with|some (d,s')=>gk P K r (s::bI) (tm.put dst d) s'|none=>False:=nd rfl
theorem ajS {P:Program} (o:AO) (dst:Option Nat) (b:Nat) (r:List (AI×Nat)) (K:Tm→St→Prop) (bI:List St) (tm:Tm) (s:St) :
 OJ P o dst b r K bI tm s false=match aJ o tm s with|some (d,_)=>oi (.op dst none o) tm d (bI.take b)∧gk P K r bI (tm.put dst d) s|none=>False:=nd rfl
theorem afE {P:Program} {K:Tm→St→Prop} (dst:Option Nat) (t:Nat) (w:Bool) (o:AO) (b:Nat) (r:List (AI×Nat)) (bI:List St) (tm:Tm) (s:St) :
 gk P K ((.op dst (some (t,w)) o,b)::r) bI tm s = @GB (tm.get t) w ⟨(gk P K ((.op dst none o,b)::r) bI tm s),(gk P K r (if o.core then s::bI else bI) (tm.put dst (.tuple [])) s)⟩:=by
 simp only[GB,gk,ni]
 cases o.core<;>rfl
def KG (P:Program) (K:Tm→St→Prop) (r:List (AI×Nat)) (bI:List St) (tm:Tm) (dst:Option Nat) (d:D) (s:St):Prop:=gk P K r bI (tm.put dst d) s
theorem ajT {P:Program} (K:Tm→St→Prop) (r:List (AI×Nat)) (bI:List St) (tm:Tm) (dst:Option Nat) (d:D) (s:St):KG P K r bI tm dst d s=gk P K r bI (tm.put dst d) s:=nd rfl
theorem g_call {P:Program} {K:Tm→St→Prop} (dst:Option Nat) (f:Nat) (xs:List X) (b:Nat) (r:List (AI×Nat)) (bI:List St) (tm:Tm) (s:St) :
 gk P K ((.call dst none f xs,b)::r) bI tm s=CL true P f (xs.map (·.ev tm)) s (KG P K r (s::bI) tm dst):=nd rfl
theorem Y7 {P:Program} {K:Tm→St→Prop} (dst:Option Nat) (t:Nat) (w:Bool) (f:Nat) (xs:List X) (b:Nat) (r:List (AI×Nat)) (bI:List St) (tm:Tm) (s:St) :
 gk P K ((.call dst (some (t,w)) f xs,b)::r) bI tm s = @GB (tm.get t) w ⟨(gk P K ((.call dst none f xs,b)::r) bI tm s),(gk P K r (s::bI) (tm.put dst (.tuple [])) s)⟩:=nd rfl
class Ok (p:Prop):Prop where
 out:p
instance:Ok True:=⟨trivial⟩
instance {p q:Prop} [Ok p] [Ok q] : Ok (p∧q):=⟨⟨Ok.out,Ok.out⟩⟩
instance {α:Type} (a:α):Ok (a=a):=⟨rfl⟩
instance (d:D):Ok (Wk d .junk):=⟨Wk.junk d⟩
instance {l l':List D} [Ok (jr l l')] : Ok (Wk (.tuple l) (.tuple l')):=⟨Wk.tuple Ok.out⟩
instance {l l':List D} [Ok (jr l l')] : Ok (Wk (.agg l) (.agg l')):=⟨Wk.agg Ok.out⟩
instance {g:Tag} {z:Nat} {l l':List (List D)} [Ok (gE l l')] : Ok (Wk (.slice g z l) (.slice g z l')):=⟨Wk.rows Ok.out⟩
instance {g:Tag} {z:Nat} {l l':List (List D)} [Ok (gE l l')] : Ok (Wk (.slice g z l) (.slice .shared z l')):=⟨Wk.slice Ok.out⟩
instance (z z':Nat):Ok (Wk (.slice .full z []) (.slice .full z' [])):=⟨Wk.ajC z z'⟩
instance (g:Tag) (z z':Nat):Ok (Wk (.slice g z []) (.slice .shared z' [])):=⟨Wk.nil g z z'⟩
instance (d:D):Ok (Wk d d):=⟨Wk.refl d⟩
instance:Ok (jr [] []):=⟨.nil⟩
instance {d d':D} {l l':List D} [Ok (Wk d d')] [Ok (jr l l')] : Ok (jr (d::l) (d'::l')):=⟨.cons Ok.out Ok.out⟩
instance (l:List D):Ok (jr l l):=⟨jr.refl l⟩
instance:Ok (gE [] []):=⟨.nil⟩
instance {d d':List D} {l l':List (List D)} [Ok (jr d d')] [Ok (gE l l')] : Ok (gE (d::l) (d'::l')):=⟨.cons Ok.out Ok.out⟩
instance {a a' b b':List (List D)} [Ok (gE a a')] [Ok (gE b b')] : Ok (gE (a++b) (a'++b')):=⟨gE.append Ok.out Ok.out⟩
instance (l:List (List D)):Ok (gE l l):=⟨gE.refl l⟩
theorem bs:(∀ b,(true ||b)=true)∧(∀ b,(false ||b)=b)∧(∀ b,(b ||true)=true)∧(∀ b,(b ||false)=b)∧(∀ b,(true && b)=b)∧(∀ b,(false && b)=false)∧(∀ b,(b && true)=b)∧(∀ b,(b && false)=false)∧
 (!true)=false∧(!false)=true∧(∀ b,(!!b)=b)∧((false=true)=False)∧(∀ (α β:Type) (a:α) (f:α→Option β),(some a).bind f=f a)∧
 (∀ (α β γ:Type) (x:Option α) (f:α→Option β) (g:β→Option γ),(x.bind f).bind g=x.bind fun y=>(f y).bind g):=
 ⟨Bool.true_or,Bool.false_or,Bool.or_true,Bool.or_false,Bool.true_and,Bool.false_and,Bool.and_true,Bool.and_false,rfl,rfl,Bool.not_not,by simp,fun _ _ _ _=>rfl,fun _ _ _ x f g=>Option.bind_assoc x f g⟩
attribute [go_sem] aby ajI ajJ afz s_op ajL s_call abB Y4 afB Y6 abD ajM ajN ajO afD ajQ ajR ajS afE ajT g_call Y7 AO.core AI.kind AO.kind gK
attribute [go_sem] Oc Od Jf Jg Y5 Un N7 N8 N9 Oa Jh Ji Jj Jk Q8 Q9 Oe YG TR
attribute [go_sem] N6 Jl N3 N4 N5 Jm Jn Jo Ra Rb YF QT YB TO YC TP YD TQ QS YE TS NC TT
attribute [go_sem] QY QZ Q1 Q2 Q3 Q4 Q5 Q6 Q7 NF NG NH NK NL NM NN NO NP NQ NR NS NT NU NV NW NY NZ N0 N1 N2 T5 T6 Og Oh Oi Oj Ol Om Rc Re On Oo Oq T7 T8 Ot Rf Rg Jp Jq Jr Js T9 Ua Ou Ov Ow Ox Oy Oz OA OB OC K3 K4 OD OE OF OG YQ YR OH OI OM K5 K6 YS YT YU YV K7 K8 K9 La Lb Lc Ld Lf Lg Lh Li Lj Lk Ll ON OO OP OQ YW YX Lm Ln YY YZ Ub Uc Ud Ue Uf Ug Uh Ui Uj Rh Ri Rj Rk Rm OR OS Uk Ul Rn Y3 Ro Y0 Y1 Y2
attribute [go_sem] List.map_cons List.map_nil List.getElem?_cons_zero List.getElem?_cons_succ List.length_cons List.length_nil List.set_cons_zero List.set_cons_succ List.take_succ_cons List.take_zero List.take_nil List.drop_succ_cons List.drop_zero List.drop_nil List.cons_append List.nil_append List.append_nil Nat.zero_add Nat.add_zero Option.map_some Option.map_none
attribute [go_sem] Bool.not_false Bool.not_true List.length_map List.getElem?_map Int.toNat_natCast Int.natCast_nonneg Int.toNat_zero and_self and_true true_and
attribute [go_sem_proc ↓] reduceIte
attribute [go_sem_proc] Int.reduceLE reduceCtorEq Nat.reduceEqDiff Nat.reduceLeDiff Nat.reduceAdd Nat.reduceMul Nat.reduceSub Nat.reduceLT
theorem bn {b:Bool} {A C:Prop} (h1:b=true→A) (h:b=true:=by assumption) : @CB (.bool b) ⟨A,C⟩:=abz h h1
theorem bo {b:Bool} {A C:Prop} (h1:b=false→C) (h:b=false:=by assumption) : @CB (.bool b) ⟨A,C⟩:=abA h h1
theorem bp {b:Bool} {A C:Prop} (h1:b=true→A) (h2:b=false→C) : @CB (.bool b) ⟨A,C⟩:=⟨h1,h2⟩
theorem ja {a b:Prop} (x:a) (y:b):a∧b:=⟨x,y⟩
theorem bE {α:Type _} (a b:α):(some a=some b)=(a=b):=Option.some.injEq a b
theorem bF {α:Sort _} {p:α→Prop} {a:α} : (∃ x,a=x∧p x)↔p a:=exists_eq_left'
theorem C8 {n m:Nat} (h:Nat.ble n m=true):n≤m:=Nat.le_of_ble_eq_true h
theorem aE {n m:Nat} {res:List (Nat×Option (Bool×Nat))} {d:D} {s':St} {e:Exit} {tm:Tm} {s:St} {Q:Exit→Tm→St→Prop} (hQ:pT n m res d s'=Q) (h : ∃ l,aT res tm s=some l∧Wk ((aW l).fg n m) d∧gE (s.cut n m).ah s'.ah∧(s.cut n m).aw=s'.aw) (he:e = .ret∨e = .normal:=by first|exact .inl rfl|exact .inr rfl):Q e tm s:=by cases he with|inl x=>cases x;exact afx hQ h|inr x=>cases x;exact afy hQ h
theorem cm {p:Prop} (h:p:=by repeat' (first|exact Ok.out|with_reducible refine ja ?_ ?_|(simp;done))):p:=h
theorem cq {p:Prop} (h:p:=by repeat' (first|exact Ok.out|with_reducible refine ja ?_ ?_)):p:=h
theorem fX {p:Prop} (h:p:=by(try cases h);simp only[aT,aW,bE,bF,go_sem,hD,hY,hZ,gA];repeat' (first|exact Ok.out|with_reducible refine ja ?_ ?_|(simp;done))):p:=h
theorem bd {p:Prop} (h:p:=by simp only[aT,aW,bE,bF,go_sem,hD,hY,hZ,gA];repeat' (first|exact Ok.out|with_reducible refine ja ?_ ?_|(simp;done))):p:=h
theorem lX_ {p:Prop} (h:p:=by simp only[go_sem,hD,hY,hZ,gA];repeat' (first|exact Ok.out|with_reducible refine ja ?_ ?_)):p:=h
theorem fk {P:Program} {B:fW} {nt:Nat} {a:AC} {Q:Exit→Tm→St→Prop} {tm bx:Tm} {s:St} {gn:List (List D)} (n m:Nat) (h:bu P B nt a Q bx ⟨gn,(s.cut n m).aw⟩) (hn:B.s.ah.length≤n:=by rw[hB];exact C8 rfl) (hm:B.s.aw.length≤m:=by rw[hB];exact C8 rfl) (ht:wD tm n m bx:=by exact lX_) (ho:gE (s.cut n m).ah gn:=by exact lX_):bu P B nt a Q tm s:=bu.re bx gn n m hn hm ht ho h
theorem eY {P:Program} {B:fW} {nt:Nat} {a:AC} {Q:Exit→Tm→St→Prop} {tm bx:Tm} {s:St} {gn:List (List D)} (n m:Nat) (ht:wD tm n m bx) (ho:gE (s.cut n m).ah gn) (h:bu P B nt a Q bx ⟨gn,(s.cut n m).aw⟩) (hn:B.s.ah.length≤n:=by rw[hB];exact C8 rfl) (hm:B.s.aw.length≤m:=by rw[hB];exact C8 rfl):bu P B nt a Q tm s:=bu.re bx gn n m hn hm ht ho h
theorem bN:0<1∧0<1∧0<1∧0<1:=⟨Nat.zero_lt_one,Nat.zero_lt_one,Nat.zero_lt_one,Nat.zero_lt_one⟩
end Go.Abs
namespace Go.Abs
mutual
theorem OT (n m:Nat) : ∀ d,D.ok 0 0 d=true→D.fg n m d=d
 | .junk,_=>by simp[D.fg]
 | .int k n,_=>by simp[D.fg]
 | .bool b,_=>by simp[D.fg]
 | .str l,_=>by simp[D.fg]
 | .dS,_=>by simp[D.fg]
 | .val v,_=>by simp[D.fg]
 | .ep z,_=>by simp[D.fg]
 | .fv T o,h=>by simp[D.ok]at h
 | .fR o,h=>by simp[D.ok]at h
 | .gh f cs,h=>by
  simp only[D.ok]at h
  simp only[D.fg,ie n m cs h]
 | .ptr o f,h=>by simp[D.ok]at h
 | .dB r f,h=>by
  simp only[D.ok]at h
  simp only[D.fg,ie n m r h]
 | .slice g z rows,h=>by
  simp only[D.ok,Bool.and_eq_true]at h
  simp only[D.fg,Jt n m rows h.2]
  cases g with
  |tok t y=>simp[Tag.ok]at h
  |full=>rfl
  |shared=>rfl
 | .agg cs,h=>by
  simp only[D.ok]at h
  simp only[D.fg,ie n m cs h]
 | .tuple cs,h=>by
  simp only[D.ok]at h
  simp only[D.fg,ie n m cs h]
theorem ie (n m:Nat) : ∀ l,D.bK 0 0 l=true→D.gw n m l=l
 | [],_=>by simp[D.gw]
 |d::r,h=>by
  simp only[D.bK,Bool.and_eq_true]at h
  simp only[D.gw,OT n m d h.1,ie n m r h.2]
theorem Jt (n m:Nat) : ∀ l,D.gU 0 0 l=true→D.kB n m l=l
 | [],_=>by simp[D.kB]
 |d::r,h=>by
  simp only[D.gU,Bool.and_eq_true]at h
  simp only[D.kB,ie n m d h.1,Jt n m r h.2]
end
theorem gV {α:Type} {f:α→List D} (h : ∀ x,D.bK 0 0 (f x)=true) (l:List α):D.gU 0 0 (l.map f)=true:=by
 simp[Ek,h]
theorem lY {α:Type} {f:α→List D} (h : ∀ x,D.bK 0 0 (f x)=true) (n m:Nat) (l:List α):D.kB n m (l.map f)=l.map f:=Jt n m _ (gV h l)
theorem LP (n m:Nat) : ∀ a b,D.kB n m (a++b)=D.kB n m a++D.kB n m b
 | [],b=>by simp[D.kB]
 |x::a,b=>by simp[D.kB,LP n m a b]
abbrev aG:=List UInt8
structure p9 where
 kind:Int
 text:aG
 n:Int
 pos:Int
deriving DecidableEq
structure Ex where
 op:Int
 n:Int
 name:aG
 kids:List Ex
structure Ar where
 ref:Bool
 name:aG
 x:Ex
structure Sm where
 id:Int
 kind:Int
 labels:List aG
 name:aG
 proc:aG
 x:Ex
 has:Bool
 args:List Ar
 a8:List Sm
 aR:List Sm
structure Pm where
 name:aG
 ref:Bool
structure Pc where
 name:aG
 params:List Pm
 vars:List aG
 body:List Sm
 fin:List aG
structure Pg where
 globals:List aG
 procs:List Pc
def ri:Ex:=⟨0,0,[],[]⟩
def ar0:Ar:=⟨false,[],ri⟩
def Ju:Sm:=⟨0,0,[],[],[],ri,false,[],[],[]⟩
def pg0:Pg:=⟨[],[]⟩
def encStr (s:aG):List D:= [.str s]
def jV (t:p9):List D:= [.int .i64 t.kind, .str t.text, .int .i64 t.n, .int .i64 t.pos]
def sl (z:Nat) (rows:List (List D)):D:= .slice .shared z rows
mutual
def cb:Ex→List D
 |⟨op,n,name,kids⟩=> [.int .i64 op, .int .i64 n, .str name, .slice .shared 4 (vt kids)]
def vt:List Ex→List (List D)
 | []=> []
 |x::l=>cb x::vt l
end
theorem GZ : ∀ l,vt l=l.map cb
 | []=>by simp[vt]
 |x::l=>by simp[vt,GZ l]
theorem jd (x:Ex):cb x = [.int .i64 x.op, .int .i64 x.n, .str x.name, .slice .shared 4 (x.kids.map cb)]:=by
 cases x;simp[cb,GZ]
def eB (a:Ar):List D:= [.bool a.ref, .str a.name, .int .i64 a.x.op, .int .i64 a.x.n, .str a.x.name, .slice .shared 4 (a.x.kids.map cb)]
mutual
def bj:Sm→List D
 |⟨id,kind,labels,name,proc,x,has,args,a8,aR⟩=> [.int .i64 id, .int .i64 kind, .slice .shared 1 (labels.map encStr), .str name, .str proc,
  .int .i64 x.op, .int .i64 x.n, .str x.name, .slice .shared 4 (x.kids.map cb), .bool has, .slice .shared 6 (args.map eB), .slice .shared 13 (ti a8), .slice .shared 13 (ti aR)]
def ti:List Sm→List (List D)
 | []=> []
 |x::l=>bj x::ti l
end
theorem G0 : ∀ l,ti l=l.map bj
 | []=>by simp[ti]
 |x::l=>by simp[ti,G0 l]
theorem ew (s:Sm):bj s = [.int .i64 s.id, .int .i64 s.kind, .slice .shared 1 (s.labels.map encStr), .str s.name, .str s.proc,
 .int .i64 s.x.op, .int .i64 s.x.n, .str s.x.name, .slice .shared 4 (s.x.kids.map cb), .bool s.has, .slice .shared 6 (s.args.map eB), .slice .shared 13 (s.a8.map bj), .slice .shared 13 (s.aR.map bj)]:=by
 cases s;simp[bj,G0]
def iK (p:Pm):List D:= [.str p.name, .bool p.ref]
def cu (p:Pc):List D:= [.str p.name, .slice .shared 2 (p.params.map iK), .slice .shared 1 (p.vars.map encStr), .slice .shared 13 (p.body.map bj), .slice .shared 1 (p.fin.map encStr)]
def cD (p:Pg):List D:= [.slice .shared 1 (p.globals.map encStr), .slice .shared 5 (p.procs.map cu)]
theorem abF (x:p9):(jV x).length=4:=nd rfl
theorem Y8 (x:p9):List.take 4 (jV x)=jV x:=nd rfl
theorem Y9 (x:p9):List.drop 4 (jV x) = []:=nd rfl
theorem Rp (x:p9):(jV x)[0]? = some (.int .i64 x.kind):=nd rfl
theorem Rq (x:p9):(jV x)[1]? = some (.str x.text):=nd rfl
theorem Rr (x:p9):(jV x)[2]? = some (.int .i64 x.n):=nd rfl
theorem Rs (x:p9):(jV x)[3]? = some (.int .i64 x.pos):=nd rfl
theorem afF (Es:Int) (WW:aG) (n_:Int) (abH:Int):jV ⟨Es,WW,n_,abH⟩ = [.int .i64 Es, .str WW, .int .i64 n_, .int .i64 abH]:=by simp only[jV]
theorem WX (x:Ex):(cb x).length=4:=by simp only[jd];rfl
theorem abI (x:Ex):List.take 4 (cb x)=cb x:=by simp only[jd];rfl
theorem abJ (x:Ex):List.drop 4 (cb x) = []:=by simp only[jd];rfl
theorem Uo (x:Ex):(cb x)[0]? = some (.int .i64 x.op):=by simp only[jd];rfl
theorem Uq (x:Ex):(cb x)[1]? = some (.int .i64 x.n):=by simp only[jd];rfl
theorem Ur (x:Ex):(cb x)[2]? = some (.str x.name):=by simp only[jd];rfl
theorem Us (x:Ex):(cb x)[3]? = some (.slice .shared 4 (x.kids.map cb)):=by simp only[jd];rfl
theorem ajU (op_:Int) (n_:Int) (oQ:aG) (WY:List Ex):cb ⟨op_,n_,oQ,WY⟩ = [.int .i64 op_, .int .i64 n_, .str oQ, .slice .shared 4 (WY.map cb)]:=by simp only[jd]
theorem afG (x:Ar):(eB x).length=6:=nd rfl
theorem abK (x:Ar):List.take 6 (eB x)=eB x:=nd rfl
theorem abL (x:Ar):List.drop 6 (eB x) = []:=nd rfl
theorem Ut (x:Ar):(eB x)[0]? = some (.bool x.ref):=nd rfl
theorem Uu (x:Ar):(eB x)[1]? = some (.str x.name):=nd rfl
theorem Uv (x:Ar):(eB x)[2]? = some (.int .i64 x.x.op):=nd rfl
theorem Uw (x:Ar):(eB x)[3]? = some (.int .i64 x.x.n):=nd rfl
theorem Ux (x:Ar):(eB x)[4]? = some (.str x.x.name):=nd rfl
theorem Uy (x:Ar):(eB x)[5]? = some (.slice .shared 4 (x.x.kids.map cb)):=nd rfl
theorem Uz (x:Ar):List.take 4 (List.drop 2 (eB x))=cb x.x:=by simp only[eB,jd];rfl
theorem ajV (Jv:Bool) (oQ:aG) (x_:Ex):eB ⟨Jv,oQ,x_⟩ = [.bool Jv, .str oQ, .int .i64 x_.op, .int .i64 x_.n, .str x_.name, .slice .shared 4 (x_.kids.map cb)]:=by simp only[eB]
theorem Ii (x:Sm):(bj x).length=13:=by simp only[ew];rfl
theorem abM (x:Sm):List.take 13 (bj x)=bj x:=by simp only[ew];rfl
theorem abN (x:Sm):List.drop 13 (bj x) = []:=by simp only[ew];rfl
theorem UA (x:Sm):(bj x)[0]? = some (.int .i64 x.id):=by simp only[ew];rfl
theorem UB (x:Sm):(bj x)[1]? = some (.int .i64 x.kind):=by simp only[ew];rfl
theorem UC (x:Sm):(bj x)[2]? = some (.slice .shared 1 (x.labels.map encStr)):=by simp only[ew];rfl
theorem UD (x:Sm):(bj x)[3]? = some (.str x.name):=by simp only[ew];rfl
theorem UE (x:Sm):(bj x)[4]? = some (.str x.proc):=by simp only[ew];rfl
theorem UF (x:Sm):(bj x)[5]? = some (.int .i64 x.x.op):=by simp only[ew];rfl
theorem UG (x:Sm):(bj x)[6]? = some (.int .i64 x.x.n):=by simp only[ew];rfl
theorem UH (x:Sm):(bj x)[7]? = some (.str x.x.name):=by simp only[ew];rfl
theorem UI (x:Sm):(bj x)[8]? = some (.slice .shared 4 (x.x.kids.map cb)):=by simp only[ew];rfl
theorem UJ (x:Sm):(bj x)[9]? = some (.bool x.has):=by simp only[ew];rfl
theorem Rt (x:Sm):(bj x)[10]? = some (.slice .shared 6 (x.args.map eB)):=by simp only[ew];rfl
theorem Ru (x:Sm):(bj x)[11]? = some (.slice .shared 13 (x.a8.map bj)):=by simp only[ew];rfl
theorem Rv (x:Sm):(bj x)[12]? = some (.slice .shared 13 (x.aR.map bj)):=by simp only[ew];rfl
theorem UK (x:Sm):List.take 4 (List.drop 5 (bj x))=cb x.x:=by simp only[ew,jd];rfl
theorem ajW (id_:Int) (Es:Int) (LQ:List aG) (oQ:aG) (WZ:aG) (x_:Ex) (abO:Bool) (W0:List Ar) (abP:List Sm) (abQ:List Sm):bj ⟨id_,Es,LQ,oQ,WZ,x_,abO,W0,abP,abQ⟩ = [.int .i64 id_, .int .i64 Es, .slice .shared 1 (LQ.map encStr), .str oQ, .str WZ, .int .i64 x_.op, .int .i64 x_.n, .str x_.name, .slice .shared 4 (x_.kids.map cb), .bool abO, .slice .shared 6 (W0.map eB), .slice .shared 13 (abP.map bj), .slice .shared 13 (abQ.map bj)]:=by simp only[ew]
theorem afH (x:Pm):(iK x).length=2:=nd rfl
theorem abR (x:Pm):List.take 2 (iK x)=iK x:=nd rfl
theorem abS (x:Pm):List.drop 2 (iK x) = []:=nd rfl
theorem UL (x:Pm):(iK x)[0]? = some (.str x.name):=nd rfl
theorem UM (x:Pm):(iK x)[1]? = some (.bool x.ref):=nd rfl
theorem ajX (oQ:aG) (Jv:Bool):iK ⟨oQ,Jv⟩ = [.str oQ, .bool Jv]:=by simp only[iK]
theorem afI (x:Pc):(cu x).length=5:=nd rfl
theorem abT (x:Pc):List.take 5 (cu x)=cu x:=nd rfl
theorem abU (x:Pc):List.drop 5 (cu x) = []:=nd rfl
theorem UN (x:Pc):(cu x)[0]? = some (.str x.name):=nd rfl
theorem UO (x:Pc):(cu x)[1]? = some (.slice .shared 2 (x.params.map iK)):=nd rfl
theorem UP (x:Pc):(cu x)[2]? = some (.slice .shared 1 (x.vars.map encStr)):=nd rfl
theorem UQ (x:Pc):(cu x)[3]? = some (.slice .shared 13 (x.body.map bj)):=nd rfl
theorem UR (x:Pc):(cu x)[4]? = some (.slice .shared 1 (x.fin.map encStr)):=nd rfl
theorem ajY (oQ:aG) (LR:List Pm) (W1:List aG) (W2:List Sm) (abV:List aG):cu ⟨oQ,LR,W1,W2,abV⟩ = [.str oQ, .slice .shared 2 (LR.map iK), .slice .shared 1 (W1.map encStr), .slice .shared 13 (W2.map bj), .slice .shared 1 (abV.map encStr)]:=by simp only[cu]
theorem afJ (x:Pg):(cD x).length=2:=nd rfl
theorem abW (x:Pg):List.take 2 (cD x)=cD x:=nd rfl
theorem abX (x:Pg):List.drop 2 (cD x) = []:=nd rfl
theorem US (x:Pg):(cD x)[0]? = some (.slice .shared 1 (x.globals.map encStr)):=nd rfl
theorem UT (x:Pg):(cD x)[1]? = some (.slice .shared 5 (x.procs.map cu)):=nd rfl
theorem ajZ (Jw:List aG) (Rw:List Pc):cD ⟨Jw,Rw⟩ = [.slice .shared 1 (Jw.map encStr), .slice .shared 5 (Rw.map cu)]:=by simp only[cD]
attribute [go_sem] abF Y8 Y9 Rp Rq Rr Rs afF WX abI abJ Uo Uq Ur Us ajU afG abK abL Ut Uu Uv Uw Ux Uy Uz ajV Ii abM abN UA UB UC UD UE UF UG UH UI UJ Rt Ru Rv UK ajW afH abR abS UL UM ajX afI abT abU UN UO UP UQ UR ajY afJ abW abX US UT ajZ
theorem Et (s:aG):D.bK 0 0 (encStr s)=true:=rfl
theorem W3 (t:p9):D.bK 0 0 (jV t)=true:=rfl
mutual
theorem lV : ∀ x,D.bK 0 0 (cb x)=true
 |⟨op,n,name,kids⟩=>by simp[cb,D.bK,D.ok,Tag.ok,W4 kids]
theorem W4 : ∀ l,D.gU 0 0 (vt l)=true
 | []=>rfl
 |x::l=>by simp[vt,D.gU,lV x,W4 l]
end
theorem OU (a:Ar):D.bK 0 0 (eB a)=true:=by simp[eB,D.bK,D.ok,Tag.ok,gV lV]
mutual
theorem rj : ∀ x,D.bK 0 0 (bj x)=true
 |⟨id,kind,labels,name,proc,x,has,args,a8,aR⟩=>by simp[bj,D.bK,D.ok,Tag.ok,OV a8,OV aR,gV Et,gV lV,gV OU]
theorem OV : ∀ l,D.gU 0 0 (ti l)=true
 | []=>rfl
 |x::l=>by simp[ti,D.gU,rj x,OV l]
end
theorem OW (p:Pm):D.bK 0 0 (iK p)=true:=rfl
theorem xr (p:Pc):D.bK 0 0 (cu p)=true:=by simp[cu,D.bK,D.ok,Tag.ok,gV OW,gV Et,gV rj]
theorem jw (p:Pg):D.bK 0 0 (cD p)=true:=by simp[cD,D.bK,D.ok,Tag.ok,gV Et,gV xr]
theorem abY (n m:Nat) (x:p9):D.gw n m (jV x)=jV x:=ie n m _ (W3 x)
theorem afK (n m:Nat) (x:Ex):D.gw n m (cb x)=cb x:=ie n m _ (lV x)
theorem afL (n m:Nat) (x:Ar):D.gw n m (eB x)=eB x:=ie n m _ (OU x)
theorem afM (n m:Nat) (x:Sm):D.gw n m (bj x)=bj x:=ie n m _ (rj x)
theorem afN (n m:Nat) (x:Pm):D.gw n m (iK x)=iK x:=ie n m _ (OW x)
theorem afO (n m:Nat) (x:Pc):D.gw n m (cu x)=cu x:=ie n m _ (xr x)
theorem afP (n m:Nat) (x:Pg):D.gw n m (cD x)=cD x:=ie n m _ (jw x)
attribute [go_sem] abY afK afL afM afN afO afP
theorem fb (l:List aG):D.gU 0 0 (l.map encStr)=true:=gV Et l
theorem W5 (l:List Ex):D.gU 0 0 (l.map cb)=true:=gV lV l
theorem Ij (l:List Ar):D.gU 0 0 (l.map eB)=true:=gV OU l
theorem pG (l:List Sm):D.gU 0 0 (l.map bj)=true:=gV rj l
theorem afQ (l:List Pm):D.gU 0 0 (l.map iK)=true:=gV OW l
theorem wE (l:List Pc):D.gU 0 0 (l.map cu)=true:=gV xr l
theorem Rx (n m:Nat) (l:List aG):D.kB n m (l.map encStr)=l.map encStr:=lY Et n m l
theorem abZ (n m:Nat) (l:List p9):D.kB n m (l.map jV)=l.map jV:=lY W3 n m l
theorem afR (n m:Nat) (l:List Ex):D.kB n m (l.map cb)=l.map cb:=lY lV n m l
theorem afS (n m:Nat) (l:List Ar):D.kB n m (l.map eB)=l.map eB:=lY OU n m l
theorem afT (n m:Nat) (l:List Sm):D.kB n m (l.map bj)=l.map bj:=lY rj n m l
theorem afU (n m:Nat) (l:List Pm):D.kB n m (l.map iK)=l.map iK:=lY OW n m l
theorem W6 (n m:Nat) (l:List Pc):D.kB n m (l.map cu)=l.map cu:=lY xr n m l
theorem ab0 (x:Ex) (r:List D):cb x++r = .int .i64 x.op:: .int .i64 x.n:: .str x.name:: .slice .shared 4 (x.kids.map cb)::r:=by rw[jd];rfl
theorem Za (d:D) (x:Ex):d::cb x = [d, .int .i64 x.op, .int .i64 x.n, .str x.name, .slice .shared 4 (x.kids.map cb)]:=by rw[jd]
attribute [go_sem] ab0 Za
theorem afV:((0:Nat):Int)=0:=nd rfl
theorem afW:((1:Nat):Int)=1:=nd rfl
theorem afX:((2:Nat):Int)=2:=nd rfl
attribute [go_sem] afV afW afX LP List.length_append List.map_append encStr ri ar0 Ju pg0 Rx abZ afR afS afT afU W6
theorem mx (a b:Nat):(if(b:Int) > (a:Int)then(b:Int)else(a:Int))=((max a b:Nat):Int):=by split<;>omega
theorem dX {x:Int} (h1 : -9223372036854775808≤x) (h2:x<9223372036854775808):IntKind.wrap .i64 x=x:=by
 rw[IntKind.wrap_i64];omega
@[go_sem] theorem aI {n:Nat} (h:n<4611686018427387904):IntKind.wrap .i64 ((n:Int)+1)=((n+1:Nat):Int):=by
 rw[dX]<;>omega
def inc (n:Nat):Option Nat:=if n<4611686018427387904 then some (n+1)else none
def aj0 (n:Int):Option Int:=if -4611686018427387904<n∧n<4611686018427387904 then some (n+1)else none
@[go_sem] theorem aiG {n:Nat} (h:n+1<4611686018427387904):IntKind.wrap .i64 ((n:Int)+1)=((n+1:Nat):Int):=by
 rw[dX]<;>omega
@[go_sem] theorem aiH {n:Nat} (h:n<4611686018427387904):IntKind.wrap .i64 ((n:Int)+2)=((n+2:Nat):Int):=by
 rw[dX]<;>omega
def ab1 {α:Type} (l:List α) (i:Nat):Option α:=if i<4611686018427387904 then l[i]? else none
def push {α:Type} (k:Nat) (l:List α) (x:α):Option (List α):=if(l.length+1)*k≤bH then some (l++ [x])else none
end Go.Abs
namespace Go.Abs
def C9 (os ts:List Nat) (tm:Tm):Tm→Prop
 | []=>True
 |(k,d)::r=>tm.get k=d.cW os ts∧d.ok os.length ts.length=true∧C9 os ts tm r
theorem C9.get {os ts:List Nat} {tm:Tm} : ∀ {bx:Tm},C9 os ts tm bx→∀ k,bx.get k = .junk∨(tm.get k=(bx.get k).cW os ts∧(bx.get k).ok os.length ts.length=true)
 | [],_,k=> .inl rfl
 |(q,d)::r,⟨h1,h2,h3⟩,k=>by
  simp only[Tm.get]
  split
  ·rename_i e;subst e;exact .inr ⟨h1,h2⟩
  ·exact h3.get k
section
variable {P:Program} {B:fW} {nt:Nat}
theorem Holds.sel {tm:Tm} {s:St} {act:Act} {w:World} (os:List Nat) (gn:List (List D)) (bx:Tm) (uz:os.Nodup) (jl : ∀ o∈os,o<s.ah.length) (hn:B.s.ah.length≤os.length)
 (hold : ∀ i,i<B.s.ah.length→os[i]? = some i) (dj : ∀ (i o:Nat),os[i]? = some o→B.s.ah.length≤i→B.s.ah.length≤o) (ho:gn.length=os.length)
 (xm : ∀ (i o:Nat) (ds:List D),os[i]? = some o→gn[i]? = some ds→s.ah[o]? = some (D.e9 os (List.range s.aw.length) ds)∧D.bK os.length s.aw.length ds=true)
 (Ry:C9 os (List.range s.aw.length) tm bx) (h:Holds B nt tm s act w):Holds B nt bx ⟨gn,s.aw⟩ act w:=by
 obtain⟨M,e,r,hr,h1,h2⟩:=h
 have ux:(List.range s.aw.length).length=s.aw.length:=List.length_range
 have rg : ∀ (i t:Nat),(List.range s.aw.length)[i]? = some t→i=t:=fun i t h=>by
  rw[List.getElem?_eq_some_iff]at h
  obtain⟨h3,h4⟩:=h
  simpa using h4
 have r0:Rel (gL M os (List.range s.aw.length)) ⟨gn,s.aw⟩ w:=r.sub uz List.nodup_range jl ho (fun i o ds e1 e2=>by rw[ux];exact xm i o ds e1 e2) ux.symm (fun i t h=>by rw[rg i t h])
 have loc : ∀ (i:Nat) o,os[i]? = some o→(gL M os (List.range s.aw.length)).loc i=M.loc o:=fun i o h=>by simp only[gL,u6 h]
 have be : ∀ t,t<s.aw.length→(gL M os (List.range s.aw.length)).be t=M.be t:=fun t h=>by
  have:(List.range s.aw.length)[t]? = some t:=List.getElem?_range h
  simp only[gL,u6 this]
 refine⟨gL M os (List.range s.aw.length),⟨⟨e.le.G,by rw[ho];exact hn,fun o h=>?_,e.le.t,fun t n' h e'=>?_⟩,e.kept,fun o h3 h4=>?_,fun t b c z hl hb=>?_,e.rZ,e.size,e.os,e.tape,e.output⟩,r0,fun k=>?_,h1,h2⟩
 ·rw[loc o o (hold o h)];exact e.le.loc o h
 ·obtain⟨n,g1,g2,g3⟩:=e.le.tk t n' h e'
  exact⟨n,g1,g2,fun eq=>by rw[be t (Nat.lt_of_lt_of_le h e.le.t)];exact g3 eq⟩
 ·simp only at h4
  rw[ho]at h4
  obtain⟨q,hq⟩ : ∃ q,os[o]? = some q:=⟨_,List.getElem?_eq_getElem h4⟩
  have mY:(gL M os (List.range s.aw.length)).mu o=M.mu q:=congrArg Prod.fst (loc o q hq)
  rw[mY]at h3 ⊢
  refine e.tF q ?_ (jl q (List.mem_of_getElem? hq))
  by_cases h5:B.s.ah.length≤o
  ·exact .inl (dj o q hq h5)
  ·have:=hold o (by omega)
   rw[hq]at this
   cases this
   rcases h3 with h3|h3
   ·exact(h5 h3).elim
   ·exact .inr h3
 ·obtain⟨n,qX⟩:=hl
  have hD:=(List.getElem?_eq_some_iff.1 qX).1
  rw[be t hD]at hb
  exact e.qs t b c z ⟨n,qX⟩ hb
 ·rcases Ry.get k with h3 | ⟨h3,h4⟩
  ·rw[h3];exact .junk _
  ·exact RD.Cf (M:=M) (M0:=gL M os (List.range s.aw.length)) (s:=s) (s0:=⟨gn,s.aw⟩) rfl loc ho (fun i t h=>by
    have:=rg i t h;subst this;exact be i (by have:=(List.getElem?_eq_some_iff.1 h).1;rwa [ux]at this)) (fun i t h=>by rw[rg i t h]) ux.symm (h3 ▸ hr k) _ rfl h4
theorem bu.sel {a:AC} {Q:Exit→Tm→St→Prop} {tm:Tm} {s:St} (os:List Nat) (gn:List (List D)) (bx:Tm) (uz:os.Nodup) (jl : ∀ o∈os,o<s.ah.length) (hn:B.s.ah.length≤os.length)
 (hold : ∀ i,i<B.s.ah.length→os[i]? = some i) (dj : ∀ (i o:Nat),os[i]? = some o→B.s.ah.length≤i→B.s.ah.length≤o) (ho:gn.length=os.length)
 (xm : ∀ (i o:Nat) (ds:List D),os[i]? = some o→gn[i]? = some ds→s.ah[o]? = some (D.e9 os (List.range s.aw.length) ds)∧D.bK os.length s.aw.length ds=true)
 (Ry:C9 os (List.range s.aw.length) tm bx) (h:bu P B nt a Q bx ⟨gn,s.aw⟩):bu P B nt a Q tm s:=
 fun c hc act w hh=>h c hc act w (hh.sel os gn bx uz jl hn hold dj ho xm Ry)
mutual
def D.fL (o g:Nat) (rows:List (List D)):D→D
 | .eA z o' g' len=>if o'=o∧g'=g∧len=rows.length then .slice .shared z rows else .eA z o' g' len
 | .dB row off=> .dB (D.jx o g rows row) off
 | .slice t z rs=> .slice t z (D.rk o g rows rs)
 | .agg cs=> .agg (D.jx o g rows cs)
 | .tuple ds=> .tuple (D.jx o g rows ds)
 | .gh f cs=> .gh f (D.jx o g rows cs)
 | .ptr o off=> .ptr o off
 | .junk=> .junk
 | .int k x=> .int k x
 | .bool b=> .bool b
 | .str l=> .str l
 | .dS=> .dS
 | .val v=> .val v
 | .fv T o=> .fv T o
 | .fR o=> .fR o
 | .fw o g off=> .fw o g off
 | .ep z=> .ep z
def D.jx (o g:Nat) (rows:List (List D)):List D→List D
 | []=> []
 |d::r=>D.fL o g rows d::D.jx o g rows r
def D.rk (o g:Nat) (rows:List (List D)):List (List D)→List (List D)
 | []=> []
 |d::r=>D.jx o g rows d::D.rk o g rows r
end
theorem oy (o g:Nat) (rows:List (List D)) : ∀ l,D.jx o g rows l=l.map (D.fL o g rows)
 | []=>by simp[D.jx]
 |d::r=>by simp[D.jx,oy o g rows r]
theorem LS (o g:Nat) (rows:List (List D)) : ∀ l,D.rk o g rows l=l.map (D.jx o g rows)
 | []=>by simp[D.rk]
 |d::r=>by simp[D.rk,LS o g rows r]
theorem RD.fL {M:Map} {s:St} {o g:Nat} {rows:List (List D)} {b cap z:Nat} {A:Nat→Option (Nat×Nat)} (hm:M.ob o = .arr z A) (ha:A g=some (b,cap))
 (hs : ∀ row∈rows,row.length=z) (h1 : ∀ (i:Nat) (row:List D) (j:Nat) (d:D),rows[i]? = some row→row[j]? = some d→∃ u,M.G b (0+(i*z+j))=some u)
 (h2 : ∀ (i:Nat) (row:List D) (j:Nat) (d:D) (u:Value),rows[i]? = some row→row[j]? = some d→M.G b (0+(i*z+j))=some u→RD M s d u)
 {d:D} {v:Value} (h:RD M s d v):RD M s (d.fL o g rows) v:=by
 induction h with
 | eA z' o' g' len b' qv A' ho Ai wx hl=>
  simp only[D.fL]
  split
  ·rename_i hc
   obtain⟨rfl,rfl,rfl⟩:=hc
   rw[hm]at Ai
   cases Ai
   rw[ha]at wx
   cases wx
   exact .slice .shared z rows b 0 cap hl hs h1 h2 trivial
  ·exact .eA z' o' g' len b' qv A' ho Ai wx hl
 |fw z' o' g' off b' qv A' ho Ai wx=>simp only[D.fL];exact .fw z' o' g' off b' qv A' ho Ai wx
 |ep z a=>simp only[D.fL];exact .ep z a
 |junk v=>simp only[D.fL];exact .junk v
 |int k x=>simp only[D.fL];exact .int k x
 |bool b=>simp only[D.fL];exact .bool b
 |str l=>simp only[D.fL];exact .str l
 |dS=>simp only[D.fL];exact .dS
 |val v hv=>simp only[D.fL];exact .val v hv
 |fv T o v h ht hv=>simp only[D.fL];exact .fv T o v h ht hv
 |fR o h hm=>simp only[D.fL];exact .fR o h hm
 |ptr o off h hm=>simp only[D.fL];exact .ptr o off h hm
 |gh f ds vs hl _ ih=>
  simp only[D.fL,oy]
  refine .gh f _ vs (by simpa using hl) (fun i d v e1 e2=>?_)
  simp only[List.getElem?_map,Option.map_eq_some_iff]at e1
  obtain⟨d',e1,rfl⟩:=e1
  exact ih i d' v e1 e2
 | dB row off b k h1 h2 ih=>
  simp only[D.fL,oy]
  refine .dB _ off b k (fun i d e=>?_) (fun i d u e eu=>?_)
  ·simp only [List.getElem?_map,Option.map_eq_some_iff]at e
   obtain⟨d',e,rfl⟩:=e
   exact h1 i d' e
  ·simp only [List.getElem?_map,Option.map_eq_some_iff]at e
   obtain⟨d',e,rfl⟩:=e
   exact ih i d' u e eu
 |iO t z cap hc ht=>simp only[D.fL,D.rk];exact .iO _ z cap hc ht
 |lD z a cap=>simp only[D.fL,D.rk];exact .lD z a cap
 | slice t z rs b k cap hl hs h1 h2 ht ih=>
  simp only[D.fL,LS]
  have hlen:(rs.map (D.jx o g rows)).length=rs.length:=by simp
  have key:=RD.slice (M:=M) (s:=s) t z (rs.map (D.jx o g rows)) b k cap (by rw[hlen];exact hl) (fun row hr=>by
   obtain⟨kv,h',rfl⟩:=List.mem_map.1 hr
   rw[oy,List.length_map];exact hs kv h')
   (fun i row j d e1 e2=>by
    simp only[List.getElem?_map,Option.map_eq_some_iff]at e1
    obtain⟨kv,e1,rfl⟩:=e1
    rw[oy]at e2
    simp only[List.getElem?_map,Option.map_eq_some_iff]at e2
    obtain⟨d',e2,rfl⟩:=e2
    exact h1 i kv j d' e1 e2)
   (fun i row j d u e1 e2 eu=>by
    simp only[List.getElem?_map,Option.map_eq_some_iff]at e1
    obtain⟨kv,e1,rfl⟩:=e1
    rw[oy]at e2
    simp only[List.getElem?_map,Option.map_eq_some_iff]at e2
    obtain⟨d',e2,rfl⟩:=e2
    exact ih i kv j d' u e1 e2 eu)
   (by rw[hlen];exact ht)
  rw[hlen]at key
  exact key
 |agg cells vs hl h1 _ ih=>
  simp only[D.fL,oy]
  refine .agg _ vs (by simpa using hl) h1 (fun i d v e1 e2=>?_)
  simp only[List.getElem?_map,Option.map_eq_some_iff]at e1
  obtain⟨d',e1,rfl⟩:=e1
  exact ih i d' v e1 e2
 |tuple ds vs hl _ ih=>
  simp only[D.fL,oy]
  refine .tuple _ vs (by simpa using hl) (fun i d v e1 e2=>?_)
  simp only[List.getElem?_map,Option.map_eq_some_iff]at e1
  obtain⟨d',e1,rfl⟩:=e1
  exact ih i d' v e1 e2
def fzR (o g:Nat) (rows:List (List D)) (n m:Nat) (ds:List D):List D:=D.gw n m (D.jx o g rows ds)
def W7 (o g:Nat) (rows:List (List D)) (m:Nat) (tm:Tm):Tm→Prop
 | []=>True
 |(k,d)::r=>Wk (((tm.get k).fL o g rows).fg o m) d∧W7 o g rows m tm r
end
end Go.Abs
namespace Go.Abs
mutual
def D.flat:D→Bool
 | .int _ _=>true
 | .bool _=>true
 | .str _=>true
 | .tuple ds=>D.Eu ds
 |_=>false
def D.Eu:List D→Bool
 | []=>true
 |d::r=>d.flat && D.Eu r
end
theorem G1 : ∀ {l:List D},D.Eu l=true→∀ {i:Nat} {d:D},l[i]? = some d→d.flat=true
 | [],_,i,d,e=>by simp at e
 |a::l,h,i,d,e=>by
  simp only[D.Eu,Bool.and_eq_true]at h
  cases i with
  |zero=>simp at e;subst e;exact h.1
  |succ i=>exact G1 h.2 (by simpa using e)
theorem RD.flat {M M':Map} {s s':St} {d:D} {v:Value} (h:RD M s d v):d.flat=true→RD M' s' d v:=by
 induction h with
 |int k n=>exact fun _=> .int k n
 |bool b=>exact fun _=> .bool b
 |str l=>exact fun _=> .str l
 |tuple ds vs hl _ ih=>exact fun hf=> .tuple ds vs hl fun i d v e1 e2=>ih i d v e1 e2 (G1 (by simpa only[D.flat]using hf) e1)
 |_=>intro hf;simp only[D.flat,Bool.false_eq_true]at hf
theorem LU {n m:Nat} : ∀ {l:List D},D.bK n m l=true→∀ {i:Nat} {d:D},l[i]? = some d→d.ok n m=true
 | [],_,i,d,e=>by simp at e
 |a::l,h,i,d,e=>by
  simp only[D.bK,Bool.and_eq_true]at h
  cases i with
  |zero=>simp at e;subst e;exact h.1
  |succ i=>exact LU h.2 (by simpa using e)
theorem Rel.C2 {M:Map} {s:St} {w w':World} (r:Rel M s w) (C2 : ∀ k,k<w.heap.size→w'.heap[k]? = w.heap[k]?) (hs:w.heap.size≤w'.heap.size) (h1:w'.os=w.os) (h2:w'.tape=w.tape) (h3:w'.output=w.output) :
 Rel M s w'∧Ext M s w M s w':=by
 refine⟨⟨fun p o v e=>?_,fun o ds e=>?_,r.jN,r.inj,fun t n e=>?_,r.fj,r.fS⟩,⟨Le.refl M s,fun k hk _ _=>C2 k hk,fun o h h'=>by rcases h with h|h;omega;exact(h rfl).elim,fun t b c z h e=> .inl ⟨h,c,z,e⟩,fun _ _ h=>(h rfl).elim,hs,h1,h2,h3⟩⟩
 ·obtain⟨h1,h2⟩:=r.comm p o v e
  refine⟨?_,h2⟩
  rw[← h1]
  simp only[World.cell?,C2 _ (r.A4 e)]
 ·obtain⟨vs,T,h1,h2⟩:=r.obj o ds e
  exact⟨vs,T,h1.keep (C2 _ h1.lt),h2⟩
 ·rcases r.tok t n e with h | ⟨p,cap,z,vs,T,h1,h2,h3⟩
  ·exact .inl h
  ·exact .inr ⟨p,cap,z,vs,T,h1,by rw[C2 _ (kj h2)];exact h2,h3⟩
theorem aF.aj1 {P:Program} {f:FuncId} {args:List D} {d:D} {s:St} {o g z:Nat} {rows:List (List D)} {k:Nat} (hk:args[k]? = some (.eA z o g rows.length)) {more:List D}
 (ei:s.ah[o]? = some (.int .i64 (g:Int)::(rows.flatten++more))) (hs : ∀ row∈rows,row.length=z) (h:aF P f (D.jx o g rows args) S0 d S0) (ha:D.bK 0 0 (D.jx o g rows args)=true)
 (hd:d.flat=true):aF P f args s d s:=by
 intro M w fK r hl dP zh
 have hD:=(List.getElem?_eq_some_iff.1 hk).1
 obtain⟨b0,aj2,A,_,_,hm,_⟩:=(zh k _ _ hk (Array.getElem?_eq_getElem (by omega))).x7
 have ic:nS s o g=some (rows.flatten++more):=by unfold nS;rw[ei];simp
 obtain⟨us,T,cap,hh,ya,CY,av3,hle,gZ,jv⟩:=r.IQ hm ic
 have FN:o<s.ah.length:=(List.getElem?_eq_some_iff.1 ei).1
 have hGo : ∀ q,M.G (M.mu o) q=none:=r.jN o FN
 let M':Map:= {M with G:=fun b q=>if b=M.mu o then us[q]? else M.G b q}
 have p7 : ∀ b,b≠M.mu o→∀ q,M'.G b q=M.G b q:=fun b hb q=>if_neg hb
 have le:Le M s M' s:=⟨fun b q v hq=>by
  by_cases hb:b=M.mu o
  ·subst hb;rw[hGo]at hq;cases hq
  ·rw[p7 b hb];exact hq,Nat.le_refl _,fun _ _=> .refl _,Nat.le_refl _,fun t n' _ e=>⟨n',e,Nat.le_refl _,fun _=>rfl⟩⟩
 have iI : ∀ (i:Nat) (row:List D) (j:Nat) (d:D),rows[i]? = some row→row[j]? = some d→(rows.flatten++more)[i*z+j]? = some d:=by
  have gen : ∀ (rows:List (List D)),(∀ row∈rows,row.length=z)→∀ (i:Nat) (row:List D) (j:Nat) (d:D),rows[i]? = some row→row[j]? = some d→rows.flatten[i*z+j]? = some d:=by
   intro rows
   induction rows with
   |nil=>intro _ i row j d e1;simp at e1
   | cons a rows ih=>
    intro hs i row j d e1 e2
    have ym:=hs a (List.mem_cons_self ..)
    rw[List.flatten_cons]
    cases i with
    |zero=>
     simp at e1;subst e1
     rw[Nat.zero_mul,Nat.zero_add,List.getElem?_append_left (List.getElem?_eq_some_iff.1 e2).1];exact e2
    |succ i=>
     rw[List.getElem?_append_right (by rw[Nat.add_mul];omega),ym,show(i+1)*z+j - z=i*z+j by rw[Nat.add_mul];omega]
     exact ih (fun q hq=>hs q (List.mem_cons_of_mem _ hq)) i row j d (by simpa using e1) e2
  intro i row j d e1 e2
  have:=gen rows hs i row j d e1 e2
  rw[List.getElem?_append_left (List.getElem?_eq_some_iff.1 this).1];exact this
 have g1 : ∀ (i:Nat) (row:List D) (j:Nat) (d:D),rows[i]? = some row→row[j]? = some d→∃ u,M'.G (M.mu o) (0+(i*z+j))=some u:=fun i row j d e1 e2=>by
  have hD:=(List.getElem?_eq_some_iff.1 (iI i row j d e1 e2)).1
  refine⟨us[i*z+j]'(by omega), ?_⟩
  show(if M.mu o=M.mu o then us[0+(i*z+j)]? else _)=_
  rw[if_pos rfl,Nat.zero_add]
  exact Array.getElem?_eq_getElem _
 have g2 : ∀ (i:Nat) (row:List D) (j:Nat) (d:D) (u:Value),rows[i]? = some row→row[j]? = some d→M'.G (M.mu o) (0+(i*z+j))=some u→RD M' s d u:=fun i row j d u e1 e2 eu=>by
  have Ev:(if M.mu o=M.mu o then us[0+(i*z+j)]? else M.G (M.mu o) (0+(i*z+j)))=some u:=eu
  rw[if_pos rfl,Nat.zero_add]at Ev
  exact(jv _ d u (iI i row j d e1 e2) Ev).mono le
 have r0:Rel M' S0 w:=⟨fun b q v hq=>by
  have mM:(if b=M.mu o then us[q]? else M.G b q)=some v:=hq
  by_cases hb:b=M.mu o
  ·rw [if_pos hb]at mM
   rw[hb,ji hh]
   exact⟨mM,gZ v (Array.mem_of_getElem? mM)⟩
  ·rw [if_neg hb]at mM
   exact r.comm b q v mM,fun o ds e=>by simp[S0]at e,fun o h=>by simp[S0]at h,fun o _ h=>by simp[S0]at h,fun t n e=>by simp[S0]at e,
  fun t b c z o hl _ ho=>by simp[S0]at ho,fun t t' b c z c' z' hl=>by obtain⟨n,hn⟩:=hl;simp[S0]at hn⟩
 have l0:Laid M' S0 w:=fun q cs hq=>⟨(hl q cs hq).1,fun o ho=>by simp[S0]at ho,fun t c z ht=>by obtain⟨n,hn⟩:=ht;simp[S0]at hn⟩
 have a0 : ∀ (i:Nat) (d:D) (v:Value),(D.jx o g rows args)[i]? = some d→fK[i]? = some v→RD M' S0 d v:=fun i d0 v e1 e2=>by
  have pM:=LU ha e1
  rw[oy,List.getElem?_map,Option.map_eq_some_iff]at e1
  obtain⟨d1,e1,rfl⟩:=e1
  have wF:=((zh i d1 v e1 e2).mono le).fL (M:=M') hm ya hs g1 g2
  exact RD.Cf (M:=M') (M0:=M') (s:=s) (s0:=S0) (os:= []) (ts:= []) rfl (by simp) rfl (by simp) (by simp) rfl wF _ (qx _ _ _ pM) pM
 refine(h M' w fK r0 l0 (by rw[dP,oy,List.length_map]) a0).mono fun e w' ⟨M2,d2,v,s2,h1,⟨h2,h3⟩,hx,_,h4⟩=>?_
 subst h2 h3
 have C2 : ∀ k,k<w.heap.size→w'.heap[k]? = w.heap[k]? :=fun k hk=>hx.kept k hk (fun o ho=>by simp[S0]at ho) (fun t c z ht=>by obtain⟨n,hn⟩:=ht;simp[S0]at hn)
 obtain⟨r',e'⟩:=r.C2 C2 hx.size hx.os hx.tape hx.output
 exact⟨M,d2,v,s,h1,⟨rfl,rfl⟩,e',r',h4.flat hd⟩
section
variable {P:Program} {B:fW} {nt:Nat}
theorem bM.uD {f:FuncId} {res:List (Nat×Option (Bool×Nat))} {body:AC} {args:List D} {s:St} {R:D→St→Prop} (h0:Has P f nt res body) (hl:Nat.ble args.length nt=true)
 (h : ∀ (B:fW) (Q:Exit→Tm→St→Prop),B.s=s→TI res R=Q→ki P B nt body Q (mT 0 args) s):bM P f args s R:=by
 obtain⟨fn,hf,hc⟩:=h0
 refine bM.Ih (bM.QG (Q:=R) hf hc (Nat.le_of_ble_eq_true hl) fun B hB=>iJ (h B _ hB rfl)) fun d s1 h=>⟨d,s1,Wk.refl _,gE.refl _,rfl,h⟩
theorem gN {res:List (Nat×Option (Bool×Nat))} {R:D→St→Prop} {tm:Tm} {s:St} {e:Exit} {Q:Exit→Tm→St→Prop} (hQ:TI res R=Q) (h : ∃ l,aT res tm s=some l∧R (aW l) s) (he:e = .ret∨e = .normal:=by first|exact .inl rfl|exact .inr rfl):Q e tm s:=by
 subst hQ
 rcases he with rfl|rfl<;>exact h
def upD (R:D→St→Prop) (d:D) (s:St):Prop:=∃ d' s',Wk d d'∧gE s.ah s'.ah∧s.aw=s'.aw∧R d' s'
theorem bM.up {f:FuncId} {args:List D} {s:St} {R:D→St→Prop} (h:bM P f args s (upD R)):bM P f args s R:=
 bM.Ih h fun d s1 ⟨d',s',h1,h2,h3,h4⟩=>⟨d',s',h1,h2,h3,h4⟩
def vu (tm:Tm):Tm→Prop
 | []=>True
 |(k,d)::r=>Wk (tm.get k) d∧vu tm r
theorem vu.get {tm:Tm} : ∀ {bx:Tm},vu tm bx→∀ t,Wk (tm.get t) (bx.get t)
 | [],_,t=>Wk.junk _
 |(k,d)::r,h,t=>by
  simp only[Tm.get]
  split
  ·rename_i hk;subst hk;exact h.1
  ·exact vu.get h.2 t
theorem ab4 (tm:Tm):vu tm [] = True:=nd rfl
theorem ab5 (tm:Tm) (k:Nat) (d:D) (r:Tm):vu tm ((k,d)::r)=(Wk (tm.get k) d∧vu tm r):=nd rfl
attribute [go_sem] ab4 ab5
theorem Holds.pO {tm bx:Tm} {s:St} {act:Act} {w:World} (ht:vu tm bx) (h:Holds B nt tm s act w):Holds B nt bx s act w:=by
 obtain⟨M,e,r,hr,h1,h2⟩:=h
 exact⟨M,e,r,fun k=>ht.get k _ _ _ (hr k),h1,h2⟩
theorem bu.pO {a:AC} {Q:Exit→Tm→St→Prop} {tm bx:Tm} {s:St} (ht:vu tm bx) (h:bu P B nt a Q bx s):bu P B nt a Q tm s:=fun c hc act w hh=>h c hc act w (hh.pO ht)
theorem lJ.pO {a r:AC} {Q:Exit→Tm→St→Prop} {tm bx:Tm} {s:St} (ht:vu tm bx) (h:lJ P B nt a r Q bx s):lJ P B nt a r Q tm s:=fun c rest hc hr act w hh=>h c rest hc hr act w (hh.pO ht)
theorem Sem.pO {a:AC} {Q:Exit→Tm→St→Prop} {tm bx:Tm} {s:St} (ht:vu tm bx) (h:Sem P B nt a Q bx s):Sem P B nt a Q tm s:=fun c hc act w hh=>h c hc act w (hh.pO ht)
end
theorem fY {s:St} {o:Nat} {r:List D} (h:s.ah[o]? = some r):o<s.ah.length:=(List.getElem?_eq_some_iff.1 h).1
theorem LV {s:St} {a b:Nat} {r r':List D} (h:s.ah[a]? = some r) (h':s.ah[b]? = some r') (hn:r≠r'):a≠b:=fun e=>by subst e;rw[h]at h';cases h';exact hn rfl
end Go.Abs
namespace Go.Abs
theorem aF.AT {P:Program} {f:Nat} {args:List D} {s0 s:St} {o off n m:Nat} {row:List D} (h:aF P f args s0 (.ptr o off) s) (ho:s.ah[o]? = some row) (hn:s0.ah.length≤n) (As:n≤o) (hm:s0.aw.length≤m) :
 aF P f args s0 (.dB (D.gw n m row) off) (s.cut n m):=by
 intro M0 w0 fK r0 kC aj3 ha
 refine(h M0 w0 fK r0 kC aj3 ha).mono ?_
 rintro en w ⟨M,d,v0,s',rfl,⟨rfl,rfl⟩,e,r,hv⟩
 have xY:=hv.A5
 have o6:v0 = .pointer (some ⟨M.mu o,off,none⟩):=hv.se.1
 have FN:o<s'.ah.length:=(List.getElem?_eq_some_iff.1 ho).1
 obtain⟨vs,T,hh,dP,⟨gZ,_⟩,jv⟩:=r.obj o row ho
 replace hh:w.heap[M.mu o]? = some (.cells vs T (0,0)):=hh.cells xY
 let M':Map:= {M with G:=fun b q=>if b=M.mu o then vs[q]? else M.G b q}
 have hGo : ∀ q,M.G (M.mu o) q=none:=r.jN o FN
 have le:Le M s' M' s':=⟨fun b q v hq=>by
  show(if b=M.mu o then vs[q]? else M.G b q)=some v
  by_cases hb:b=M.mu o
  ·subst hb;rw[hGo]at hq;cases hq
  ·rw[if_neg hb];exact hq,Nat.le_refl _,fun _ _=> .refl _,Nat.le_refl _,fun t n' _ e=>⟨n',e,Nat.le_refl _,fun _=>rfl⟩⟩
 have hD : ∀ q,q<(s'.cut n m).ah.length→q<s'.ah.length∧q≠o:=fun q h=>by rw[nW]at h;omega
 have wG:w0.heap.size≤M.mu o:=e.tF o (.inl (by omega)) FN
 have ec:=e.cut hn hm
 have lec:Le M (s'.cut n m) M' (s'.cut n m):=⟨le.G,Nat.le_refl _,fun _ _=> .refl _,Nat.le_refl _,fun t n' _ e=>⟨n',e,Nat.le_refl _,fun _=>rfl⟩⟩
 have rc:=r.cut n m
 have p7 : ∀ b,b≠M.mu o→∀ q,M'.G b q=M.G b q:=fun b hb q=>if_neg hb
 refine⟨M',_,v0,_,rfl,⟨rfl,rfl⟩,⟨ec.le.trans lec,ec.kept,ec.tF,ec.qs,fun b q eQ=>?_,ec.size,ec.os,ec.tape,ec.output⟩,⟨fun b q v hq=>?_,fun q ds hq=>?_,fun q hq xi=>?_,rc.inj,fun t n' El=>?_,rc.fj,rc.fS⟩, ?_⟩
 ·by_cases hb:b=M.mu o
  ·subst hb;exact .inl wG
  ·rw[p7 b hb]at eQ;exact ec.rZ b q eQ
 ·have mM:(if b=M.mu o then vs[q]? else M.G b q)=some v:=hq
  by_cases hb:b=M.mu o
  ·rw [if_pos hb]at mM
   rw[hb,ji hh]
   exact⟨mM,gZ v (Array.mem_of_getElem? mM)⟩
  ·rw [if_neg hb]at mM
   exact r.comm b q v mM
 ·obtain⟨fG,T',h3,h4,h5,h6⟩:=rc.obj q ds hq
  exact⟨fG,T',h3,h4,h5,fun i d v e1 e2=>(h6 i d v e1 e2).mono lec⟩
 ·obtain⟨h3,h4⟩:=hD q hq
  show M'.G (M.mu q) xi=none
  rw[p7 _ (fun e=>h4 (r.inj q o h3 FN e))]
  exact r.jN q h3 xi
 ·rcases rc.tok t n' El with h3 | ⟨b,cap,z,fG,T',h3,h4,h5,h6,h7⟩
  ·exact .inl h3
  ·refine .inr ⟨b,cap,z,fG,T',h3,h4,h5,h6,fun xi Dw=> ?_,h7.2⟩
   rw[p7 _ (fun e=>r.fj t b cap z o (vn ⟨n',El⟩) h3 FN e.symm)]
   exact h7.1 xi Dw
 ·rw [o6]
  have:=RD.dB (M:=M') (s:=s'.cut n m) (D.gw n m row) off (M.mu o) 0 (fun i d e1=>?_) (fun i d u e1 eu=>?_)
  ·simpa using this
  ·rw [ng,List.getElem?_map,Option.map_eq_some_iff]at e1
   obtain⟨d0,e1,rfl⟩:=e1
   have hi:=(List.getElem?_eq_some_iff.1 e1).1
   refine⟨vs[i]'(by omega), ?_⟩
   show(if M.mu o=M.mu o then vs[0+i]? else _)=_
   rw[if_pos rfl,Nat.zero_add]
   exact Array.getElem?_eq_getElem _
  ·rw [ng,List.getElem?_map,Option.map_eq_some_iff]at e1
   obtain⟨d0,e1,rfl⟩:=e1
   have Ev:(if M.mu o=M.mu o then vs[0+i]? else M.G (M.mu o) (0+i))=some u:=eu
   rw[if_pos rfl,Nat.zero_add]at Ev
   exact((jv i d0 u e1 Ev).fg n m).mono lec
theorem aF.goK {P:Program} {f:FuncId} {res:List (Nat×Option (Bool×Nat))} {body:AC} {args:List D} {s:St} {d:D} {s':St} {nt:Nat} (n m:Nat) (hn:s.ah.length≤n) (hm:s.aw.length≤m) (h0:Has P f nt res body) (hl:Nat.ble args.length nt=true)
 (h : ∀ (B:fW) (Q:Exit→Tm→St→Prop),B.s=s→pT n m res d s'=Q→ki P B nt body Q (mT 0 args) s):aF P f args s d s':=by
 obtain⟨fn,hf,hc⟩:=h0
 refine bM.Ih (bM.intro (Q:=fun d1 s1=>Wk d1 d∧gE s1.ah s'.ah∧s1.aw=s'.aw) hf hc (Nat.le_of_ble_eq_true hl) fun B hB=>(iJ (h B _ hB rfl)).mono fun e tm s1 hr=>?_) fun d1 s1 ⟨h1,h2,h3⟩=>⟨d,s',h1,h2,h3,rfl,rfl⟩
 subst hB
 cases e with
 |normal=>obtain⟨l,h1,h2,h3,h4⟩:=hr;exact⟨l,h1,_,_,hn,hm,h2,h3,h4⟩
 |ret=>obtain⟨l,h1,h2,h3,h4⟩:=hr;exact⟨l,h1,_,_,hn,hm,h2,h3,h4⟩
 |exit id=>exact hr.elim
 |goto l=>exact hr.elim
 |panic ch=>exact hr.elim
 |outgrown=>exact hr.elim
section
variable (s:St) (o g off len k z size bytes:Nat) (kk:IntKind)
theorem afY:nS s o g=match s.ah[o]? with|some (.int .i64 n::cells)=>if n=(g:Int)then some cells else none|_=>none:=nd rfl
theorem ab7 (agg:Bool):yR (.fw o g off) agg size s=match nS s o g with|some cells=>(match part cells off agg size with|some d=>some (d,s)|none=>none)|none=>none:=nd rfl
theorem Zb (r:List D):A1 (.fw o g off) (some r) size s=match nS s o g with
 |some cells=>if r.length=size∧off+size≤cells.length then some (.tuple [],⟨s.ah.set o (.int .i64 g::iA cells off r),s.aw⟩)else none
 |none=>none:=nd rfl
theorem afZ:MH (.fw o g off)=some (.fw o g off):=nd rfl
theorem Zc:D7 (.fw o g k) off=some (.fw o g (k+off)):=nd rfl
theorem Zd:xW (.eA z o g len) (.int kk (k:Int)) size=if k<len then(if z=size then some (.fw o g (k*z))else none)else none:=by
 simp only[xW]
 by_cases h1:k<len<;>by_cases h2:z=size<;>simp[h1,h2]
theorem af0:Fy (.eA z o g len)=some (.int .i64 len):=nd rfl
theorem ab8:Fy (.ep z)=some (.int .i64 0):=nd rfl
theorem Jy {z bytes:Nat} (t:Tag) (r:List D) (s:St) (hm:bytes+1≤bH):A2 z bytes (.ep z) (.slice t z [r]) s=some (.eA z s.ah.length 0 1,⟨s.ah++ [.int .i64 ((0:Nat):Int)::r],s.aw⟩):=by
 simp[A2,hm]
theorem af1 (n m:Nat):D.fg n m (.eA z o g len)=if o<n then .eA z o g len else .junk:=nd (by simp only[D.fg])
theorem af2 (n m:Nat):D.fg n m (.fw o g off)=if o<n then .fw o g off else .junk:=nd (by simp only[D.fg])
theorem af3 (n m:Nat):D.fg n m (.ep z) = .ep z:=nd (by simp only[D.fg])
theorem ab9:(D.eA z o g len).row=some [.eA z o g len]:=nd rfl
theorem aca:(D.fw o g off).row=some [.fw o g off]:=nd rfl
theorem acb:(D.ep z).row=some [.ep z]:=nd rfl
end
attribute [go_sem] afY ab7 Zb afZ Zc Zd af0 ab8 af1 af2 af3 ab9 aca acb
theorem Wk.ep (z z':Nat):Wk (.slice .full z []) (.ep z'):=fun M s v h=>by
 cases h with
 |iO _ _ cap hc ht=>subst hc;exact .ep z' none
 |slice _ _ _ b k cap hl hs h1 h2 ht=>
  have:cap=0:=ht
  subst this
  exact .ep z' _
instance (z z':Nat):Ok (Wk (.slice .full z []) (.ep z')):=⟨Wk.ep z z'⟩
instance {a a' b b':List D} [Ok (jr a a')] [Ok (jr b b')] : Ok (jr (a++b) (a'++b')):=⟨jr.append Ok.out Ok.out⟩
theorem af4 (n m:Nat) (a b:List D):D.gw n m (a++b)=D.gw n m a++D.gw n m b:=nd (by simp only[ng,List.map_append])
attribute [go_sem] af4
def Br (os:List Nat) (m:Nat) (ah:List (List D)):List Nat→List (List D)→Prop
 | [],[]=>True
 |o::l,ds::r=>ah[o]? = some (D.e9 os (List.range m) ds)∧D.bK os.length m ds=true∧Br os m ah l r
 |_,_=>False
theorem Br.get {os:List Nat} {m:Nat} {ah:List (List D)} : ∀ {l:List Nat} {r:List (List D)},Br os m ah l r→r.length=l.length∧∀ (i o:Nat) (ds:List D),l[i]? = some o→r[i]? = some ds→ah[o]? = some (D.e9 os (List.range m) ds)∧D.bK os.length m ds=true
 | [],[],_=>⟨rfl,fun i o ds h=>by simp at h⟩
 |o::l,ds::r,⟨h1,h2,h3⟩=>by
  obtain⟨g1,g2⟩:=h3.get
  refine⟨by simp[g1],fun i o' nL e1 e2=>?_⟩
  cases i with
  |zero=>simp at e1 e2;subst e1 e2;exact⟨h1,h2⟩
  |succ i=>exact g2 i o' nL (by simpa using e1) (by simpa using e2)
 | [],_::_,h=>h.elim
 |_::_,[],h=>h.elim
section
variable {P:Program} {B:fW} {nt:Nat} {a:AC} {Q:Exit→Tm→St→Prop} {tm:Tm} {s:St}
theorem bu.aj4 (hB:B.s = ⟨[],[]⟩) (os:List Nat) (gn:List (List D)) (bx:Tm) (uz:os.Nodup) (jl : ∀ o∈os,o<s.ah.length) (xm:Br os s.aw.length s.ah os gn) (Ry:C9 os (List.range s.aw.length) tm bx)
 (h:bu P B nt a Q bx ⟨gn,s.aw⟩):bu P B nt a Q tm s:=
 bu.sel os gn bx uz jl (by rw[hB];exact Nat.zero_le _) (fun i h=>by rw[hB]at h;exact absurd h (Nat.not_lt_zero _)) (fun i o _ _=>by rw[hB];exact Nat.zero_le _) xm.get.1 xm.get.2 Ry h
end
section
variable (os ts:List Nat) (n m:Nat)
theorem af5 (o off:Nat):D.cW os ts (.ptr o off)=match os[o]? with|some o'=> .ptr o' off|none=> .junk:=nd (by simp only[D.cW]<;>rfl)
theorem af6 (z o g len:Nat):D.cW os ts (.eA z o g len)=match os[o]? with|some o'=> .eA z o' g len|none=> .junk:=nd (by simp only[D.cW]<;>rfl)
theorem Ze (g:Tag) (z:Nat) (rows:List (List D)):D.cW os ts (.slice g z rows) = .slice (g.cW ts) z (D.nX os ts rows):=nd (by simp only[D.cW])
theorem af7 (l:List D):D.cW os ts (.agg l) = .agg (D.e9 os ts l):=nd (by simp only[D.cW])
theorem acd:D.cW os ts .junk = .junk:=nd (by simp only[D.cW])
theorem af8 (k:IntKind) (x:Int):D.cW os ts (.int k x) = .int k x:=nd (by simp only[D.cW])
theorem ace (b:Bool):D.cW os ts (.bool b) = .bool b:=nd (by simp only[D.cW])
theorem af9 (l:List UInt8):D.cW os ts (.str l) = .str l:=nd (by simp only[D.cW])
theorem acf:D.cW os ts .dS = .dS:=nd (by simp only[D.cW])
theorem acg (z:Nat):D.cW os ts (.ep z) = .ep z:=nd (by simp only[D.cW])
theorem Zf:D.e9 os ts [] = []:=nd (by simp only[D.e9])
theorem Zg (d:D) (l:List D):D.e9 os ts (d::l)=D.cW os ts d::D.e9 os ts l:=nd (by simp only[D.e9])
theorem UU:Tag.cW ts .shared = .shared:=nd rfl
theorem ach:Tag.cW ts .full = .full:=nd rfl
theorem Zh (o off:Nat):D.ok n m (.ptr o off)=decide (o<n):=nd (by simp only[D.ok])
theorem Zi (z o g len:Nat):D.ok n m (.eA z o g len)=decide (o<n):=nd (by simp only[D.ok])
theorem Rz (g:Tag) (z:Nat) (rows:List (List D)):D.ok n m (.slice g z rows)=(g.ok m && D.gU n m rows):=nd (by simp only[D.ok])
theorem Zj (l:List D):D.ok n m (.agg l)=D.bK n m l:=nd (by simp only[D.ok])
theorem UW:D.ok n m .junk=true:=nd (by simp only[D.ok])
theorem Zk (k:IntKind) (x:Int):D.ok n m (.int k x)=true:=nd (by simp only[D.ok])
theorem UX (b:Bool):D.ok n m (.bool b)=true:=nd (by simp only[D.ok])
theorem Zl (l:List UInt8):D.ok n m (.str l)=true:=nd (by simp only[D.ok])
theorem UY:D.ok n m .dS=true:=nd (by simp only[D.ok])
theorem UZ (z:Nat):D.ok n m (.ep z)=true:=nd (by simp only[D.ok])
theorem aci:D.bK n m [] = true:=nd (by simp only[D.bK])
theorem acj (d:D) (l:List D):D.bK n m (d::l)=(D.ok n m d && D.bK n m l):=nd (by simp only[D.bK])
theorem OX:Tag.ok m .shared=true:=nd rfl
theorem U0:Tag.ok m .full=true:=nd rfl
theorem Zm (os:List Nat) (m:Nat) (ah:List (List D)):Br os m ah [] [] = True:=nd rfl
theorem Zn (os:List Nat) (m:Nat) (ah:List (List D)) (o:Nat) (l:List Nat) (ds:List D) (r:List (List D)):Br os m ah (o::l) (ds::r)=(ah[o]? = some (D.e9 os (List.range m) ds)∧D.bK os.length m ds=true∧Br os m ah l r):=nd rfl
theorem ack (tm:Tm):C9 os ts tm [] = True:=nd rfl
theorem acm (tm:Tm) (k:Nat) (d:D) (r:Tm):C9 os ts tm ((k,d)::r)=(tm.get k=d.cW os ts∧d.ok os.length ts.length=true∧C9 os ts tm r):=nd rfl
theorem Jz (rows:List (List D)) (h:D.gU 0 0 rows=true):D.nX os ts rows=rows:=jm os ts rows h
theorem Ew (row:List D) (h:D.bK 0 0 row=true):D.e9 os ts row=row:=fD os ts row h
theorem OY (rows:List (List D)) (h:D.gU 0 0 rows=true):D.gU n m rows=true:=mD (Nat.zero_le n) (Nat.zero_le m) rows h
theorem Ik (row:List D) (h:D.bK 0 0 row=true):D.bK n m row=true:=iD (Nat.zero_le n) (Nat.zero_le m) row h
theorem LW (p:Pg):D.e9 os ts (cD p)=cD p:=Ew _ _ _ (jw p)
theorem Zo (p:Sm):D.e9 os ts (bj p)=bj p:=Ew _ _ _ (rj p)
theorem U1 (l:List Pc):D.nX os ts (l.map cu)=l.map cu:=Jz _ _ _ (wE l)
theorem U2 (l:List Sm):D.nX os ts (l.map bj)=l.map bj:=Jz _ _ _ (pG l)
theorem RA (l:List aG):D.nX os ts (l.map encStr)=l.map encStr:=Jz _ _ _ (fb l)
theorem Zp (p:Pc):D.e9 os ts (cu p)=cu p:=Ew _ _ _ (xr p)
theorem acn (p:Pc):D.bK n m (cu p)=true:=Ik _ _ _ (xr p)
theorem RB (p:Pg):D.bK n m (cD p)=true:=Ik _ _ _ (jw p)
theorem aco (p:Sm):D.bK n m (bj p)=true:=Ik _ _ _ (rj p)
theorem Zq (l:List Pc):D.gU n m (l.map cu)=true:=OY _ _ _ (wE l)
theorem Zr (l:List Sm):D.gU n m (l.map bj)=true:=OY _ _ _ (pG l)
theorem U3 (l:List aG):D.gU n m (l.map encStr)=true:=OY _ _ _ (fb l)
theorem OZ : ∀ l:List Pc,D.bK 0 0 ((l.map cu).flatten)=true:=fun l=>by
 have h:=wE l
 rw[Ek,List.all_eq_true]at h
 rw[yi,List.all_eq_true]
 intro d hd
 obtain⟨r,hr,hd⟩:=List.mem_flatten.1 hd
 have:=h r hr
 rw[yi,List.all_eq_true]at this
 exact this d hd
theorem U4 (l:List Pc):D.e9 os ts ((l.map cu).flatten)=(l.map cu).flatten:=Ew _ _ _ (OZ l)
theorem Zs (l:List Pc):D.bK n m ((l.map cu).flatten)=true:=Ik _ _ _ (OZ l)
theorem Zt (l:List Pc):D.gw n m ((l.map cu).flatten)=(l.map cu).flatten:=ie _ _ _ (OZ l)
end
attribute [go_sem] Zp acn af5 af6 Ze af7 acd af8 ace af9 acf acg Zf Zg UU ach Zh Zi Rz Zj UW Zk UX Zl UY UZ aci acj OX U0 Zm Zn ack acm LW Zo U1 U2 RA RB aco Zq Zr U3 U4 Zs Zt
mutual
theorem JA (o g:Nat) (rows:List (List D)) : ∀ d,D.ok 0 0 d=true→D.fL o g rows d=d
 | .junk,_=>by simp[D.fL]
 | .int k n,_=>by simp[D.fL]
 | .bool b,_=>by simp[D.fL]
 | .str l,_=>by simp[D.fL]
 | .dS,_=>by simp[D.fL]
 | .val v,_=>by simp[D.fL]
 | .ep z,_=>by simp[D.fL]
 | .fv T o,h=>by simp[D.ok]at h
 | .fR o,h=>by simp[D.ok]at h
 | .eA z o g len,h=>by simp[D.ok]at h
 | .fw o g off,h=>by simp[D.ok]at h
 | .ptr o f,h=>by simp[D.ok]at h
 | .gh f cs,h=>by
  simp only[D.ok]at h
  simp only[D.fL,sj o g rows cs h]
 | .dB r f,h=>by
  simp only[D.ok]at h
  simp only[D.fL,sj o g rows r h]
 | .slice t z rs,h=>by
  simp only[D.ok,Bool.and_eq_true]at h
  simp only[D.fL,yn o g rows rs h.2]
 | .agg cs,h=>by
  simp only[D.ok]at h
  simp only[D.fL,sj o g rows cs h]
 | .tuple cs,h=>by
  simp only[D.ok]at h
  simp only[D.fL,sj o g rows cs h]
theorem sj (o g:Nat) (rows:List (List D)) : ∀ l,D.bK 0 0 l=true→D.jx o g rows l=l
 | [],_=>by simp[D.jx]
 |d::r,h=>by
  simp only[D.bK,Bool.and_eq_true]at h
  simp only[D.jx,JA o g rows d h.1,sj o g rows r h.2]
theorem yn (o g:Nat) (rows:List (List D)) : ∀ l,D.gU 0 0 l=true→D.rk o g rows l=l
 | [],_=>by simp[D.rk]
 |d::r,h=>by
  simp only[D.gU,Bool.and_eq_true]at h
  simp only[D.rk,sj o g rows d h.1,yn o g rows r h.2]
end
section
variable (o g:Nat) (rows:List (List D)) (n m:Nat)
theorem aga (q off:Nat):D.fL o g rows (.ptr q off) = .ptr q off:=nd (by simp only[D.fL])
theorem acp (q h off:Nat):D.fL o g rows (.fw q h off) = .fw q h off:=nd (by simp only[D.fL])
theorem agb (z o' g' len:Nat):D.fL o g rows (.eA z o' g' len)=if o'=o∧g'=g∧len=rows.length then .slice .shared z rows else .eA z o' g' len:=nd (by simp only[D.fL])
theorem Zu (t:Tag) (z:Nat) (rs:List (List D)):D.fL o g rows (.slice t z rs) = .slice t z (D.rk o g rows rs):=nd (by simp only[D.fL])
theorem agc (l:List D):D.fL o g rows (.agg l) = .agg (D.jx o g rows l):=nd (by simp only[D.fL])
theorem acq:D.fL o g rows .junk = .junk:=nd (by simp only[D.fL])
theorem agd (k:IntKind) (x:Int):D.fL o g rows (.int k x) = .int k x:=nd (by simp only[D.fL])
theorem acr (b:Bool):D.fL o g rows (.bool b) = .bool b:=nd (by simp only[D.fL])
theorem age (l:List UInt8):D.fL o g rows (.str l) = .str l:=nd (by simp only[D.fL])
theorem Zv:D.jx o g rows [] = []:=nd (by simp only[D.jx])
theorem Zw (d:D) (l:List D):D.jx o g rows (d::l)=D.fL o g rows d::D.jx o g rows l:=nd (by simp only[D.jx])
theorem aj5 (p:Pg):D.jx o g rows (cD p)=cD p:=sj _ _ _ _ (jw p)
theorem agf (l:List Pc):D.rk o g rows (l.map cu)=l.map cu:=yn _ _ _ _ (wE l)
theorem agh (l:List Sm):D.rk o g rows (l.map bj)=l.map bj:=yn _ _ _ _ (pG l)
theorem acs (l:List aG):D.rk o g rows (l.map encStr)=l.map encStr:=yn _ _ _ _ (fb l)
theorem agi (ds:List D):fzR o g rows n m ds=D.gw n m (D.jx o g rows ds):=nd rfl
theorem acu (tm:Tm):W7 o g rows m tm [] = True:=nd rfl
theorem acv (tm:Tm) (k:Nat) (d:D) (r:Tm):W7 o g rows m tm ((k,d)::r)=(Wk (((tm.get k).fL o g rows).fg o m) d∧W7 o g rows m tm r):=nd rfl
end
attribute [go_sem] aga acp agb Zu agc acq agd acr age Zv Zw aj5 agf agh acs agi acu acv
end Go.Abs
namespace Go.Abs
mutual
def Ex.size:Ex→Nat
 |⟨_,_,_,kids⟩=>1+Ex.a7 kids
def Ex.a7:List Ex→Nat
 | []=>0
 |x::l=>1+x.size+Ex.a7 l
end
mutual
def Ex.depth:Ex→Nat
 |⟨_,_,_,kids⟩=>Ex.qa kids+1
def Ex.qa:List Ex→Nat
 | []=>0
 |x::l=>max x.depth (Ex.qa l)
end
def acw (x:Ex):Option Int:=if x.size<4611686018427387904 then some (x.depth:Int)else none
theorem Ex.dn {x:Ex} : ∀ {l:List Ex},x∈l→x.size<Ex.a7 l
 |y::l,h=>by
  simp only[Ex.a7]
  rcases List.mem_cons.1 h with rfl|h
  ·omega
  ·have:=Ex.dn h;omega
theorem Ex.eI : ∀ (l:List Ex),l.length≤Ex.a7 l
 | []=>Nat.le_refl _
 |x::l=>by simp only[Ex.a7,List.length_cons];have:=Ex.eI l;omega
def O0 (t:p9):Int×Int:=
 if t.kind != 4 then(0,0)
 else if t.text == [124,124]then(17,1)
 else if t.text == [38,38]then(16,2)
 else if t.text == [61,61]then(14,3)
 else if t.text == [33,61]then(15,3)
 else if t.text == [60]then(10,4)
 else if t.text == [60,61]then(11,4)
 else if t.text == [62]then(12,4)
 else if t.text == [62,61]then(13,4)
 else if t.text == [43]then(8,5)
 else if t.text == [45]then(9,5)
 else if t.text == [42]then(5,6)
 else if t.text == [47]then(6,6)
 else if t.text == [37]then(7,6)
 else(0,0)
structure Rd where
 l:List p9
 i:Nat
 code:Int
 JB:Int
 n:Nat
abbrev Rd.good (r:Rd):Bool:=r.code==0
def Rd.vv (r:Rd):Option p9:=(ab1 r.l r.i).bind fun t=>if decide (0≤t.kind) && decide (t.kind≤4)then some t else none
def Rd.bad (c:Int) (r:Rd):Option Rd:=if r.good then r.vv.bind fun t=>some {r with code:=c,JB:=t.pos}else some r
def Rd.is (text:aG) (r:Rd):Option Bool:=r.vv.bind fun t=>some ((t.kind==3 ||t.kind==4) && t.text==text)
def Rd.take (text:aG) (r:Rd):Option (Bool×Rd):=
 if !r.good then some (false,r)else(r.is text).bind fun b=>if !b then some (false,r)else some (true,{r with i:=r.i+1})
def Rd.want (text:aG) (r:Rd):Option Rd:=(r.take text).bind fun p=>if !p.1 then p.2.bad 3 else some p.2
def Rd.name (room:Bool) (r:Rd):Option (aG×Rd):=
 r.vv.bind fun t=>if !r.good ||t.kind != 1 then(r.bad 3).bind fun r=>some ([],r)else if !room then(r.bad 4).bind fun r=>some ([],r)else some (t.text,{r with i:=r.i+1})
def Rd.on (r:Rd):Rd:= {r with i:=r.i+1}
mutual
def Rd.one:Nat→Rd→Option (Ex×Rd)
 | 0,_=>none
 | n+1,r=>r.vv.bind fun t=>
  if !r.good then some (ri,r)
  else if t.kind==2 then some (⟨1,t.n,[],[]⟩,{r with i:=r.i+1})
  else if t.kind==1 then some (⟨2,0,t.text,[]⟩,{r with i:=r.i+1})
  else(r.take [40]).bind fun p=>
   if p.1 then(Rd.two n 1 p.2).bind fun x=>(x.2.want [41]).bind fun r=>some (x.1,r)
   else(p.2.take [45]).bind fun p=>
    if p.1 then(Rd.one n p.2).bind fun x=>some (⟨3,0,[],[x.1]⟩,x.2)
    else(p.2.take [33]).bind fun p=>
     if p.1 then(Rd.one n p.2).bind fun x=>some (⟨4,0,[],[x.1]⟩,x.2)
     else(p.2.bad 3).bind fun r=>some (ri,r)
def Rd.two:Nat→Int→Rd→Option (Ex×Rd)
 | 0,_,_=>none
 |n+1,least,r=>(Rd.one n r).bind fun x=>Rd.acx n least x.1 x.2
def Rd.acx:Nat→Int→Ex→Rd→Option (Ex×Rd)
 | 0,_,_,_=>none
 | n+1,least,x,r=>
  if r.good then r.vv.bind fun t=>
   if decide ((O0 t).2<least) ||(O0 t).1==0 then some (x,r)
   else(Rd.two n ((O0 t).2+1) {r with i:=r.i+1}).bind fun y=>Rd.acx n least ⟨(O0 t).1,0,[],[x,y.1]⟩ y.2
  else some (x,r)
end
def Rd.whole (n:Nat) (r:Rd):Option (Ex×Rd):=
 r.vv.bind fun t=>(Rd.two n 1 r).bind fun x=>
  if x.2.good then(acw x.1).bind fun d=>if decide (d > 20)then some (x.1,{x.2 with code:=4,JB:=t.pos})else some (x.1,x.2)
  else some (x.1,x.2)
def Rd.names:Nat→List aG→Int→Rd→Option (List aG×Rd)
 | 0,_,_,_=>none
 | n+1,l,acy,r=>
  if r.good then(r.name (decide ((l.length:Int)<acy))).bind fun p=>(push 17 l p.1).bind fun l=>(p.2.take [44]).bind fun q=>
   if !q.1 then(q.2.want [59]).bind fun r=>some (l,r)else Rd.names n l acy q.2
  else some (l,r)
def Rd.ahead (sign:aG) (r:Rd):Option Bool:=
 if r.good then r.vv.bind fun t=>if t.kind==1 then(ab1 r.l (r.i+1)).bind fun u=>some (u.kind==4 && u.text==sign)else some false
 else some false
def Rd.labels:Nat→List aG→Rd→Option (List aG×Rd)
 | 0,_,_=>none
 |n+1,l,r=>(r.ahead [58]).bind fun b=>if b then r.vv.bind fun t=>(push 17 l t.text).bind fun l=>Rd.labels n l {r with i:=r.i+2}else some (l,r)
def Rd.acz (r:Rd):Option Bool:=
 r.vv.bind fun t=>some (if t.kind==1 then true else if t.kind != 3 then false
  else t.text == [105,102] ||t.text == [119,104,105,108,101] ||t.text == [98,114,101,97,107] ||t.text == [99,111,110,116,105,110,117,101] ||t.text == [114,101,116,117,114,110] ||t.text == [103,111,116,111] ||t.text == [114,101,97,100] ||t.text == [112,114,105,110,116])
def Rd.O1 (m:Nat):Nat→List Ar→Rd→Option (List Ar×Rd)
 | 0,_,_=>none
 | n+1,l,r=>
  if r.good then(r.take [114,101,102]).bind fun p=>
   if p.1 then(p.2.name true).bind fun x=>(push 81 l ⟨true,x.1,ri⟩).bind fun l=>(x.2.take [44]).bind fun c=>if !c.1 then some (l,c.2)else Rd.O1 m n l c.2
   else(Rd.whole m p.2).bind fun x=>(push 81 l ⟨false,[],x.1⟩).bind fun l=>(x.2.take [44]).bind fun c=>if !c.1 then some (l,c.2)else Rd.O1 m n l c.2
  else some (l,r)
def Rd.other (sign:aG) (r:Rd):Option Bool:=if r.good then(r.is sign).bind fun b=>some !b else some false
def Rd.call (m:Nat) (name proc:aG) (r:Rd):Option (Sm×Rd):=
 (r.want [40]).bind fun r=>(r.other [41]).bind fun b=>
  if b then(Rd.O1 m m [] r).bind fun q=>(q.2.want [41]).bind fun r=>(r.want [59]).bind fun r=>some (⟨0,4,[],name,proc,ri,false,q.1,[],[]⟩,r)
  else(r.want [41]).bind fun r=>(r.want [59]).bind fun r=>some (⟨0,4,[],name,proc,ri,false,[],[],[]⟩,r)
def Rd.named (m:Nat) (r:Rd):Option (Sm×Rd):=
 (r.name true).bind fun x=>(x.2.is [40]).bind fun b=>
  if b then Rd.call m [] x.1 x.2
  else(x.2.want [61]).bind fun r=>(r.ahead [40]).bind fun b=>
   if b then(r.name true).bind fun y=>Rd.call m x.1 y.1 y.2
   else(Rd.whole m r).bind fun y=>(y.2.want [59]).bind fun r=>some (⟨0,1,[],x.1,[],y.1,false,[],[],[]⟩,r)
def Rd.plain (m:Nat) (word:aG) (r:Rd):Option (Sm×Rd):=
 if word == [98,114,101,97,107]then some (⟨0,7,[],[],[],ri,false,[],[],[]⟩,r)
 else if word == [99,111,110,116,105,110,117,101]then some (⟨0,8,[],[],[],ri,false,[],[],[]⟩,r)
 else if word == [114,101,116,117,114,110]then(r.is [59]).bind fun b=>
  if !b then(Rd.whole m r).bind fun x=>some (⟨0,9,[],[],[],x.1,true,[],[],[]⟩,x.2)else some (⟨0,9,[],[],[],ri,false,[],[],[]⟩,r)
 else if word == [103,111,116,111]then(r.name true).bind fun x=>some (⟨0,10,[],x.1,[],ri,false,[],[],[]⟩,x.2)
 else if word == [114,101,97,100]then(r.name true).bind fun x=>some (⟨0,2,[],x.1,[],ri,false,[],[],[]⟩,x.2)
 else if word == [112,114,105,110,116]then(Rd.whole m r).bind fun x=>some (⟨0,3,[],[],[],x.1,false,[],[],[]⟩,x.2)
 else some (Ju,r)
def Rd.head (m:Nat) (r:Rd):Option (Ex×Rd):=(r.want [40]).bind fun r=>(Rd.whole m r).bind fun x=>(x.2.want [41]).bind fun r=>some (x.1,r)
mutual
def Rd.rows (m:Nat):Nat→Int→Bool→Rd→Option ((List Sm×List aG)×Rd)
 | 0,_,_,_=>none
 |n+1,nest,body,r=>Rd.W8 m n nest body [] r
def Rd.W8 (m:Nat):Nat→Int→Bool→List Sm→Rd→Option ((List Sm×List aG)×Rd)
 | 0,_,_,_,_=>none
 | n+1,nest,body,out,r=>
  if r.good then(Rd.labels m [] r).bind fun l=>(l.2.is [125]).bind fun b=>
   if b && (body ||(l.1.length:Int)==0)then some ((out,l.1),{l.2 with i:=l.2.i+1})
   else(Rd.stmt m n nest l.2).bind fun s=>(push 209 out {s.1 with labels:=l.1}).bind fun out=>Rd.W8 m n nest body out s.2
  else some (([],[]),r)
def Rd.stmt (m:Nat):Nat→Int→Rd→Option (Sm×Rd)
 | 0,_,_=>none
 | n+1,nest,r=>r.acz.bind fun b=>
  if !b then(r.bad 3).bind fun r=>some (Ju,r)
  else(inc r.n).bind fun k=>
   if decide ((k:Int) > 200) ||decide (nest > 12)then(({r with n:=k} : Rd).bad 4).bind fun r=>some (Ju,r)
   else({r with n:=k} : Rd).vv.bind fun t=>
    if t.kind==1 then Rd.named m {r with n:=k}
    else if t.text == [105,102]then Rd.choice m n nest {r with n:=k,i:=r.i+1}
    else if t.text == [119,104,105,108,101]then(Rd.head m {r with n:=k,i:=r.i+1}).bind fun x=>(Rd.block m n nest x.2).bind fun b=>some (⟨0,6,[],[],[],x.1,false,[],b.1,[]⟩,b.2)
    else(Rd.plain m t.text {r with n:=k,i:=r.i+1}).bind fun s=>(s.2.want [59]).bind fun r=>some (s.1,r)
def Rd.block (m:Nat):Nat→Int→Rd→Option (List Sm×Rd)
 | 0,_,_=>none
 |n+1,nest,r=>(r.want [123]).bind fun r=>(aj0 nest).bind fun k=>(Rd.rows m n k false r).bind fun p=>some (p.1.1,p.2)
def Rd.choice (m:Nat):Nat→Int→Rd→Option (Sm×Rd)
 | 0,_,_=>none
 |n+1,nest,r=>(Rd.head m r).bind fun x=>(Rd.block m n nest x.2).bind fun t=>(t.2.take [101,108,115,101]).bind fun q=>
  if q.1 then(Rd.block m n nest q.2).bind fun e=>some (⟨0,5,[],[],[],x.1,false,[],t.1,e.1⟩,e.2)
  else some (⟨0,5,[],[],[],x.1,false,[],t.1,[]⟩,q.2)
end
def Rd.params:Nat→List Pm→Rd→Option (List Pm×Rd)
 | 0,_,_=>none
 | n+1,l,r=>
  if r.good then(r.take [114,101,102]).bind fun q=>(q.2.name (decide ((l.length:Int)<8))).bind fun x=>(push 25 l ⟨x.1,q.1⟩).bind fun l=>(x.2.take [44]).bind fun c=>
   if !c.1 then some (l,c.2)else Rd.params n l c.2
  else some (l,r)
def Rd.vars (m:Nat):Nat→List aG→Rd→Option (List aG×Rd)
 | 0,_,_=>none
 |n+1,l,r=>(r.take [118,97,114]).bind fun q=>if q.1 then(Rd.names m l 16 q.2).bind fun x=>Rd.vars m n x.1 x.2 else some (l,q.2)
def Rd.W9 (m:Nat) (name:aG) (ps:List Pm) (r:Rd):Option (Pc×Rd):=
 (Rd.vars m m [] r).bind fun v=>(Rd.rows m m 1 true v.2).bind fun b=>some (⟨name,ps,v.1,b.1.1,b.1.2⟩,b.2)
def Rd.proc (m:Nat) (r:Rd):Option (Pc×Rd):=
 (r.name true).bind fun x=>(x.2.want [40]).bind fun r=>(r.other [41]).bind fun b=>
  if b then(Rd.params m [] r).bind fun q=>(q.2.want [41]).bind fun r=>(r.want [123]).bind fun r=>Rd.W9 m x.1 q.1 r
  else(r.want [41]).bind fun r=>(r.want [123]).bind fun r=>Rd.W9 m x.1 [] r
def Rd.globals (m:Nat):Nat→List aG→Rd→Option (List aG×Rd)
 | 0,_,_=>none
 |n+1,l,r=>(r.take [103,108,111,98,97,108]).bind fun q=>if q.1 then(Rd.names m l 16 q.2).bind fun x=>Rd.globals m n x.1 x.2 else some (l,q.2)
def Rd.acA (r:Rd):Option Bool:=if r.good then r.is [112,114,111,99]else some false
def Rd.RC (r:Rd):Option Bool:=if r.good then r.vv.bind fun t=>some (t.kind != 0)else some false
def Rd.procs (m:Nat):Nat→List Pc→Rd→Option (List Pc×Rd)
 | 0,_,_=>none
 | n+1,l,r=>r.acA.bind fun b=>
  if b then
   if(l.length:Int)==16 then(r.bad 4).bind fun r=>some (l,r)
   else(Rd.proc m {r with i:=r.i+1}).bind fun x=>(push 113 l x.1).bind fun l=>Rd.procs m n l x.2
  else r.RC.bind fun b=>if b then(r.bad 3).bind fun r=>some (l,r)else some (l,r)
def Rd.program (m:Nat) (r:Rd):Option (Pg×Rd):=(Rd.globals m m [] r).bind fun g=>(Rd.procs m m [] g.2).bind fun q=>some (⟨g.1,q.1⟩,q.2)
mutual
def Ex.beq:Ex→Ex→Bool
 |⟨op,n,name,kids⟩,⟨op',n',O2,Xa⟩=>if op != op' ||n != n' || !(name==O2) ||(kids.length:Int) != (Xa.length:Int)then false else Ex.pU kids Xa
def Ex.pU:List Ex→List Ex→Bool
 | [],_=>true
 |_::_,[]=>true
 |x::l,y::l'=>if !Ex.beq x y then false else Ex.pU l l'
end
def Ar.a7:List Ar→Nat
 | []=>0
 |a::l=>1+a.x.size+Ar.a7 l
mutual
def Sm.size:Sm→Nat
 |⟨_,_,labels,_,_,x,_,args,a8,aR⟩=>1+labels.length+x.size+Ar.a7 args+Sm.a7 a8+Sm.a7 aR
def Sm.a7:List Sm→Nat
 | []=>0
 |s::l=>1+s.size+Sm.a7 l
end
def Pc.size (f:Pc):Nat:=1+f.params.length+f.vars.length+f.fin.length+Sm.a7 f.body
def Pc.a7:List Pc→Nat
 | []=>0
 |f::l=>1+f.size+Pc.a7 l
def Pg.size (p:Pg):Nat:=1+p.globals.length+Pc.a7 p.procs
mutual
def Sm.num (b:Bool) (n:Nat):Sm→Sm×Nat
 |⟨id,kind,labels,name,proc,x,has,args,a8,aR⟩=>
  (⟨if b then((n+1:Nat):Int)else id,kind,labels,name,proc,x,has,args,(Sm.tR b (n+1) a8).1,(Sm.tR b (Sm.tR b (n+1) a8).2 aR).1⟩,(Sm.tR b (Sm.tR b (n+1) a8).2 aR).2)
def Sm.tR (b:Bool) (n:Nat):List Sm→List Sm×Nat
 | []=>([],n)
 |s::l=>((Sm.num b n s).1::(Sm.tR b (Sm.num b n s).2 l).1,(Sm.tR b (Sm.num b n s).2 l).2)
end
def Pc.tR (n:Nat):List Pc→List Pc
 | []=> []
 |f::l=> {f with body:=(Sm.tR true n f.body).1}::Pc.tR (Sm.tR true n f.body).2 l
def Pg.number (p:Pg):Pg:= {p with procs:=Pc.tR 0 p.procs}
def Pg.Zx (p:Pg):Option Pg:=if p.size<1073741824 then some p.number else none
theorem Sm.eI : ∀ (l:List Sm),l.length≤Sm.a7 l
 | []=>Nat.le_refl _
 |x::l=>by simp only[Sm.a7,List.length_cons];have:=Sm.eI l;omega
theorem Ar.eI : ∀ (l:List Ar),l.length≤Ar.a7 l
 | []=>Nat.le_refl _
 |x::l=>by simp only[Ar.a7,List.length_cons];have:=Ar.eI l;omega
theorem Pc.eI : ∀ (l:List Pc),l.length≤Pc.a7 l
 | []=>Nat.le_refl _
 |x::l=>by simp only[Pc.a7,List.length_cons];have:=Pc.eI l;omega
theorem Ar.dn {x:Ar} : ∀ {l:List Ar},x∈l→x.x.size<Ar.a7 l
 |y::l,h=>by
  simp only[Ar.a7]
  rcases List.mem_cons.1 h with rfl|h
  ·omega
  ·have:=Ar.dn h;omega
theorem Sm.dn {x:Sm} : ∀ {l:List Sm},x∈l→x.size<Sm.a7 l
 |y::l,h=>by
  simp only[Sm.a7]
  rcases List.mem_cons.1 h with rfl|h
  ·omega
  ·have:=Sm.dn h;omega
theorem Pc.dn {x:Pc} : ∀ {l:List Pc},x∈l→x.size<Pc.a7 l
 |y::l,h=>by
  simp only[Pc.a7]
  rcases List.mem_cons.1 h with rfl|h
  ·omega
  ·have:=Pc.dn h;omega
mutual
def Sm.jy:Sm→Nat
 |⟨_,_,_,_,_,_,_,_,a8,aR⟩=>1+Sm.je a8+Sm.je aR
def Sm.je:List Sm→Nat
 | []=>0
 |s::l=>s.jy+Sm.je l
end
structure Im where
 s:Sm
 proc:Int
 up:Int
 next:Int
 loop:Int
mutual
def Im.one (proc up next loop:Int) (out:List Im):Sm→List Im
 | ⟨id,kind,labels,name,pc,x,has,args,a8,aR⟩=>
  Im.rows proc ((out.length:Int)+1) (if kind==6 then(out.length:Int)+1 else next) (if kind==6 then(out.length:Int)+1 else loop)
   (Im.rows proc ((out.length:Int)+1) (if kind==6 then(out.length:Int)+1 else next) (if kind==6 then(out.length:Int)+1 else loop) (out++ [⟨⟨id,kind,labels,name,pc,x,has,args,a8,aR⟩,proc,up,next,loop⟩]) a8) aR
def Im.rows (proc up next loop:Int) (out:List Im):List Sm→List Im
 | []=>out
 |s::l=>Im.rows proc up next loop (Im.one proc up (if l.length=0 then next else(out.length:Int)+1+(s.jy:Int)) loop out s) l
end
theorem Im.acB (proc up next loop:Int) (out:List Im) (s:Sm):Im.one proc up next loop out s =
 Im.rows proc ((out.length:Int)+1) (if s.kind==6 then(out.length:Int)+1 else next) (if s.kind==6 then(out.length:Int)+1 else loop)
  (Im.rows proc ((out.length:Int)+1) (if s.kind==6 then(out.length:Int)+1 else next) (if s.kind==6 then(out.length:Int)+1 else loop) (out++ [⟨s,proc,up,next,loop⟩]) s.a8) s.aR:=by
 cases s;simp only[Im.one]
mutual
theorem Zy (proc up next loop:Int) (out:List Im) : ∀ s:Sm,(Im.one proc up next loop out s).length=out.length+s.jy
 |⟨id,kind,labels,name,pc,x,has,args,a8,aR⟩=>by
  simp only[Im.one,Sm.jy]
  rw[gG,gG]
  simp only[List.length_append,List.length_cons,List.length_nil];omega
theorem gG (proc up next loop:Int) (out:List Im) : ∀ l:List Sm,(Im.rows proc up next loop out l).length=out.length+Sm.je l
 | []=>rfl
 |s::l=>by
  simp only[Im.rows,Sm.je]
  rw[gG,Zy];omega
end
mutual
theorem DA : ∀ s:Sm,s.jy≤s.size
 |⟨_,_,labels,_,_,x,_,args,a8,aR⟩=>by
  have:=nP a8;have:=nP aR
  simp only[Sm.jy,Sm.size];omega
theorem nP : ∀ l:List Sm,Sm.je l≤Sm.a7 l
 | []=>Nat.le_refl _
 |s::l=>by
  have:=DA s;have:=nP l
  simp only[Sm.je,Sm.a7];omega
end
structure Sh where
 L:List Im
 lo:List Int
 hi:List Int
def Sh.go (i:Nat) (h:Sh):List Pc→Sh
 | []=>h
 |f::l=>Sh.go (i+1) ⟨Im.rows i 0 (-1) 0 h.L f.body,h.lo++ [(h.L.length:Int)+1],h.hi++ [((Im.rows i 0 (-1) 0 h.L f.body).length:Int)+1]⟩ l
def Pg.aY (p:Pg):Sh:=Sh.go 0 ⟨[],[],[]⟩ p.procs
def Zz:Nat:=3
def Xb:Nat:=4
def wH:Nat:=5
def U5:Nat:=6
def Xc:Nat:=7
def Xd:Nat:=8
def ZA:Nat:=9
def Xe:Nat:=10
def Xf:Nat:=11
def U6:Nat:=12
def Xg:Nat:=13
def U7:Nat:=14
def xu:Nat:=15
def xv:Nat:=16
def vw:Nat:=17
def aeS:Nat:=18
def tT:Nat:=19
def sL:Nat:=20
def tU:Nat:=21
def qm:Nat:=22
def tV:Nat:=23
def oR:Nat:=24
def tW:Nat:=25
def agj:Nat:=26
def aeT:Nat:=27
def j9:Nat:=28
def nn:Nat:=29
def aeU:Nat:=30
def acC:Nat:=31
def aeV:Nat:=32
def zk:Nat:=33
def ZB:Nat:=34
def Xh:Nat:=35
def rm:Nat:=36
def aaD:Nat:=37
def xw:Nat:=38
def xx:Nat:=39
def jJ:Nat:=40
def gp:Nat:=41
def kP:Nat:=42
def kW:Nat:=43
def jn:Nat:=44
def iE:Nat:=45
def o9:Nat:=46
def oH:Nat:=47
def qy:Nat:=48
def oI:Nat:=49
def acD:Nat:=50
def LX:Nat:=51
def O3:Nat:=52
def xy:Nat:=53
def aeW:Nat:=54
def qb:Nat:=55
def U8:Nat:=56
def acE:Nat:=57
def U9:Nat:=58
def aeX:Nat:=59
def agk:Nat:=60
def aaE:Nat:=61
def zl:Nat:=62
def Xi:Nat:=63
def np:Nat:=64
def n6:Nat:=65
def ky:Nat:=66
def aaF:Nat:=67
def rn:Nat:=68
def lh:Nat:=69
def uP:Nat:=70
def kb:Nat:=71
def ke:Nat:=72
def vx:Nat:=73
def pb:Nat:=74
def gj:Nat:=75
def lP:Nat:=76
def iM:Nat:=77
def jW:Nat:=78
def ez:Nat:=79
def oT:Nat:=80
def qc:Nat:=81
def kQ:Nat:=82
def agl:Nat:=83
def acF:Nat:=84
def xA:Nat:=85
def aaG:Nat:=86
def P6:Nat:=87
def LY:Nat:=88
def acG:Nat:=89
def aaH:Nat:=90
def O4:Nat:=91
def O5:Nat:=92
def LZ:Nat:=93
def RE:Nat:=94
def lZ:Nat:=95
def qn:Nat:=96
def vy:Nat:=97
def tX:Nat:=98
def xB:Nat:=99
def Xj:Nat:=100
def agm:Nat:=101
def Xk:Nat:=102
def ZC:Nat:=103
def rp:Nat:=104
def Bs:Nat:=105
def zm:Nat:=106
def tY:Nat:=107
def mH:Nat:=108
def kE:Nat:=109
def sM:Nat:=110
def fZ:Nat:=111
def wI:Nat:=112
def nq:Nat:=113
def gP:Nat:=114
def ct:Nat:=115
def acH:Nat:=116
def acI:Nat:=117
def acJ:Nat:=118
def Xl:Nat:=119
def mI:Nat:=120
def P7:Nat:=121
def ZD:Nat:=122
def acK:Nat:=123
def acL:Nat:=124
def agn:Nat:=125
def ago:Nat:=126
def O6:Nat:=127
def oj:Nat:=128
def ga:Nat:=129
def oU:Nat:=130
def qo:Nat:=131
def vz:Nat:=132
def rr:Nat:=133
def qd:Nat:=134
def vA:Nat:=135
def ry:Nat:=136
def sk:Nat:=137
def acM:Nat:=138
def agp:Nat:=139
def Xm:Nat:=140
def xC:Nat:=141
def pd:Nat:=142
def rz:Nat:=143
def tZ:Nat:=144
def lj:Nat:=145
def pe:Nat:=146
def agq:Nat:=147
def acN:Nat:=148
def acO:Nat:=149
def acP:Nat:=150
def aaI:Nat:=151
def aeY:Nat:=152
def aeZ:Nat:=153
def aiJ:Nat:=154
def Xn:Nat:=155
def aaJ:Nat:=156
def aaK:Nat:=157
def acQ:Nat:=158
def ae0:Nat:=159
def aaL:Nat:=160
def acR:Nat:=161
def agr:Nat:=162
def ags:Nat:=163
def Xo:Nat:=164
def ZE:Nat:=165
def acS:Nat:=166
def kX:Nat:=167
def rA:Nat:=168
def vB:Nat:=169
def vC:Nat:=170
def ub:Nat:=171
def xD:Nat:=172
def jz:Nat:=173
def jT:Nat:=174
def xE:Nat:=175
def zn:Nat:=176
def rB:Nat:=177
def zo:Nat:=178
def acT:Nat:=179
def ae1:Nat:=180
def agt:Nat:=181
def acU:Nat:=182
def ZF:Nat:=183
def agu:Nat:=184
def ae2:Nat:=185
def agv:Nat:=186
def ae3:Nat:=187
def ae4:Nat:=188
def rC:Nat:=189
def gQ:Nat:=190
def oV:Nat:=191
def uc:Nat:=192
def Ey:Nat:=193
def Xp:Nat:=194
def jA:Nat:=195
def ud:Nat:=196
def sm:Nat:=197
def acV:Nat:=198
def acW:Nat:=199
def ae5:Nat:=200
def ZG:Nat:=201
def ae6:Nat:=202
def agw:Nat:=203
def Lo:Nat:=204
def aaM:Nat:=205
def aaN:Nat:=206
def iS:Nat:=207
def Bt:Nat:=208
def D2:Nat:=209
def Bu:Nat:=210
def CJ:Nat:=211
def Cj:Nat:=212
def xS:Nat:=213
def Ti:Nat:=214
def AQ:Nat:=215
def DB:Nat:=216
def Tj:Nat:=217
def Tk:Nat:=218
def acX:Nat:=219
def ae7:Nat:=220
def ae8:Nat:=221
def aaO:Nat:=222
def acY:Nat:=223
def D3:Nat:=224
def KO:Nat:=225
def Lp:Nat:=226
def AR:Nat:=227
def Fw:Nat:=228
def RF:Nat:=229
def Fx:Nat:=230
abbrev AI.o (t:Nat) (a:AO):AI:= .op (some t) none a
abbrev AI.g (t c:Nat) (b:Bool) (a:AO):AI:= .op (some t) (some (c,b)) a
abbrev AI.c (t f:Nat) (l:List X):AI:= .call (some t) none f l
abbrev AI.d (t c:Nat) (b:Bool) (f:Nat) (l:List X):AI:= .call (some t) (some (c,b)) f l
abbrev AI.m (t:Nat) (x:X):AI:= .op (some t) none (.mv x)
abbrev br:X:= .s 0
abbrev bt:X:= .s 1
abbrev dq:X:= .s 2
abbrev cB:X:= .s 3
abbrev fl:X:= .s 4
abbrev cj:X:= .s 5
abbrev dD:X:= .s 6
abbrev da:X:= .s 7
abbrev dc:X:= .s 8
abbrev df:X:= .s 9
abbrev bT:X:= .s 10
abbrev cJ:X:= .s 11
abbrev cU:X:= .s 12
abbrev cZ:X:= .s 13
abbrev cL:X:= .s 14
abbrev dE:X:= .s 15
abbrev dh:X:= .s 16
abbrev dF:X:= .s 17
abbrev dG:X:= .s 18
abbrev dY:X:= .s 19
abbrev ey:X:= .s 20
abbrev ek:X:= .s 21
abbrev eD:X:= .s 22
abbrev eH:X:= .s 23
abbrev eU:X:= .s 24
abbrev eW:X:= .s 25
abbrev fu:X:= .s 26
abbrev fx:X:= .s 27
abbrev gb:X:= .s 28
abbrev gf:X:= .s 29
abbrev gy:X:= .s 30
abbrev gu:X:= .s 31
abbrev gS:X:= .s 32
abbrev gH:X:= .s 33
abbrev iF:X:= .s 34
abbrev gT:X:= .s 35
abbrev ix:X:= .s 36
abbrev jf:X:= .s 37
abbrev jQ:X:= .s 38
abbrev jB:X:= .s 39
abbrev kg:X:= .s 40
abbrev jR:X:= .s 41
abbrev kJ:X:= .s 42
abbrev kz:X:= .s 43
abbrev kK:X:= .s 44
abbrev lK:X:= .s 45
abbrev lL:X:= .s 46
abbrev lW:X:= .s 47
abbrev kY:X:= .s 48
abbrev kZ:X:= .s 49
abbrev lM:X:= .s 50
abbrev kL:X:= .s 51
abbrev kM:X:= .s 52
abbrev k6:X:= .s 53
abbrev lN:X:= .s 54
abbrev lO:X:= .s 55
abbrev nr:X:= .s 56
abbrev oJ:X:= .s 57
abbrev n7:X:= .s 58
abbrev lX:X:= .s 59
abbrev pf:X:= .s 60
abbrev qz:X:= .s 61
abbrev pV:X:= .s 62
abbrev qA:X:= .s 63
abbrev qB:X:= .s 64
abbrev uf:X:= .s 65
abbrev vD:X:= .s 66
abbrev vE:X:= .s 67
abbrev ug:X:= .s 68
abbrev xF:X:= .s 69
abbrev xG:X:= .s 70
abbrev Bv:X:= .s 71
abbrev zp:X:= .s 72
abbrev zr:X:= .s 73
abbrev Bw:X:= .s 74
abbrev Bx:X:= .s 75
abbrev zt:X:= .s 76
abbrev By:X:= .s 77
abbrev xH:X:= .s 78
abbrev DC:X:= .s 79
abbrev DD:X:= .s 80
abbrev DE:X:= .s 81
abbrev FP:X:= .s 82
abbrev FQ:X:= .s 83
abbrev FR:X:= .s 84
abbrev FT:X:= .s 85
abbrev FU:X:= .s 86
abbrev FV:X:= .s 87
abbrev FW:X:= .s 88
abbrev Bz:X:= .s 89
abbrev DF:X:= .s 90
abbrev FX:X:= .s 91
abbrev JC:X:= .s 92
abbrev Va:X:= .s 93
abbrev Vb:X:= .s 94
abbrev Vc:X:= .s 95
abbrev acZ:X:= .s 96
abbrev ac0:X:= .s 97
abbrev ac1:X:= .s 98
abbrev ac2:X:= .s 99
abbrev Xq:X:= .s 100
abbrev Xr:X:= .s 101
abbrev Xs:X:= .s 102
abbrev Xt:X:= .s 103
abbrev Xu:X:= .s 104
abbrev Xv:X:= .s 105
abbrev Xw:X:= .s 106
abbrev Xx:X:= .s 107
abbrev Xy:X:= .s 108
abbrev agx:X:= .s 109
abbrev Xz:X:= .s 110
abbrev XA:X:= .s 111
abbrev O7:X:= .s 112
abbrev XB:X:= .s 113
abbrev XC:X:= .s 114
abbrev XD:X:= .s 115
abbrev XE:X:= .s 116
abbrev XF:X:= .s 117
abbrev XG:X:= .s 118
abbrev XH:X:= .s 119
abbrev XI:X:= .s 120
abbrev XJ:X:= .s 121
abbrev XK:X:= .s 122
abbrev XL:X:= .s 123
abbrev XM:X:= .s 124
abbrev XN:X:= .s 125
abbrev agy:X:= .s 126
abbrev XO:X:= .s 127
abbrev Ez:X:= .s 128
abbrev XP:X:= .s 129
abbrev XQ:X:= .s 130
abbrev agz:X:= .s 131
abbrev agA:X:= .s 132
abbrev agB:X:= .s 133
abbrev agC:X:= .s 134
abbrev agD:X:= .s 135
abbrev agE:X:= .s 136
abbrev agF:X:= .s 137
abbrev agG:X:= .s 138
abbrev agH:X:= .s 139
abbrev agI:X:= .s 140
abbrev agJ:X:= .s 141
abbrev agK:X:= .s 142
abbrev agL:X:= .s 143
abbrev agM:X:= .s 144
abbrev agN:X:= .s 145
abbrev agO:X:= .s 146
abbrev agP:X:= .s 147
abbrev agQ:X:= .s 148
abbrev agR:X:= .s 149
abbrev agS:X:= .s 150
abbrev agT:X:= .s 151
abbrev agU:X:= .s 152
abbrev agV:X:= .s 153
abbrev agW:X:= .s 154
abbrev agX:X:= .s 155
abbrev agY:X:= .s 156
abbrev agZ:X:= .s 157
abbrev ag0:X:= .s 158
abbrev ag1:X:= .s 159
abbrev ag2:X:= .s 160
abbrev ag3:X:= .s 161
abbrev ag4:X:= .s 162
abbrev ag5:X:= .s 163
abbrev ag6:X:= .s 164
abbrev ag7:X:= .s 165
abbrev ag8:X:= .s 166
abbrev ag9:X:= .s 167
abbrev aha:X:= .s 168
abbrev ahb:X:= .s 169
abbrev ahc:X:= .s 170
abbrev ahd:X:= .s 171
abbrev ahe:X:= .s 172
abbrev ahf:X:= .s 173
abbrev ahg:X:= .s 174
abbrev ahh:X:= .s 175
abbrev Q04:AC:= .cond cU (.seq (.run [.o 8 (.mv (.k (.bool false)))]) .ret) .skip
abbrev Q09:AC:= .cond dE (.seq (.run [.o 8 (.mv (.k (.bool true)))]) .ret) .skip
abbrev Q0E:AC:= .cond gb (.seq (.run [.o 8 (.mv (.k (.bool true)))]) .ret) .skip
abbrev Q0G:AC:= .par [.o 29 (.load fl true 2), .m 30 bt, .m 31 dq, .c 32 qm [gf,gy,gu], .o 33 (.load fl true 2), .m 34 bt, .m 35 dq, .m 36 cB, .o 37 (.bin .add gT ix), .c 38 qm [gH,iF,jf], .o 9 (.alloc [(.int .i64 0),(.int .i64 0),(.int .i64 0),(.slice .full 0 []),(.slice .full 0 [])]), .o 10 (.alloc [(.int .i64 0),(.int .i64 0),(.int .i64 0),(.slice .full 0 []),(.slice .full 0 [])]), .op none none (.store df gS 5), .op none none (.store bT jQ 5)] [(0,0),(1,0),(2,0),(3,0),(4,1),(5,0),(6,0),(7,0),(8,0),(9,0),(10,0),(11,0),(12,0),(13,0)]
abbrev Q0M:AC:= .par [.o 45 (.aq df 1), .o 46 (.load lK false 1), .m 47 dq, .o 48 (.bin .eql lL lW), .m 49 kY, .g 50 49 true (.aq df 4), .g 51 49 true (.load lM false 1), .g 52 49 true (.len kL), .g 53 49 true (.mv dq), .g 54 49 true (.bin .eql kM k6), .o 55 (.pick kZ lN (.k (.bool false))), .m 56 lO, .g 57 56 true (.aq bT 1), .g 58 56 true (.load oJ false 1), .g 59 56 true (.aq df 1), .g 60 56 true (.load lX false 1), .g 61 56 true (.bin .geq n7 pf), .o 62 (.pick nr qz (.k (.bool false))), .m 63 pV, .g 64 63 true (.aq bT 2), .g 65 63 true (.load qB false 1), .g 66 63 true (.aq df 2), .g 67 63 true (.load vD false 1), .g 68 63 true (.bin .geq uf vE), .o 69 (.pick qA ug (.k (.bool false))), .m 70 xF, .g 71 70 true (.aq df 3), .g 72 70 true (.load Bv false 1), .g 73 70 true (.aq bT 3), .g 74 70 true (.load zr false 1), .d 75 70 true tV [zp,Bw], .o 76 (.pick xG Bx (.k (.bool false))), .m 77 zt, .g 78 77 true (.aq bT 4), .g 79 77 true (.load xH false 1), .g 80 77 true (.len DC), .g 81 77 true (.mv dq), .g 82 77 true (.bin .geq DD DE), .o 83 (.pick By FP (.k (.bool false))), .m 84 FQ, .g 85 84 true (.aq df 4), .g 86 84 true (.load FT false 1), .g 87 84 true (.aq bT 4), .g 88 84 true (.load FV false 1), .g 89 84 true (.mv dq), .g 90 84 true (.AU 2 FW none (some Bz)), .d 91 84 true oR [FU,DF], .o 92 (.pick FR FX (.k (.bool false))), .m 8 JC] [(0,0),(1,0),(2,0),(3,0),(4,0),(5,0),(6,0),(7,0),(8,0),(9,0),(10,0),(11,0),(12,0),(13,0),(14,0),(15,0),(16,0),(17,0),(18,0),(19,0),(20,0),(21,0),(22,0),(23,0),(24,0),(25,0),(26,0),(27,0),(28,0),(29,0),(30,0),(31,0),(32,0),(33,0),(34,0),(35,0),(36,0),(37,0),(38,0),(39,0),(40,0),(41,0),(42,0),(43,0),(44,0),(45,0),(46,0),(47,0),(48,0)]
abbrev Q0O:AC:= .seq (.seq (.run [.o 39 (.aq df 0), .o 40 (.load jB false 1), .o 41 (.bin .neq kg (.k (.int .i64 2)))]) (.cond jR (.seq (.run [.o 42 (.load df true 5), .o 43 (.load bT true 5), .c 44 tT [kJ,kz], .m 8 kK]) .ret) .skip)) (.seq Q0M .ret)
abbrev Q0Q:AC:= .seq (.seq (.run [.o 16 (.load fl true 2), .m 17 bt, .m 18 dq, .c 19 tU [dh,dF,dG], .o 20 (.un .not dY), .m 21 ey, .g 22 21 false (.mv cB), .g 23 21 false (.bin .lss eD (.k (.int .i64 0))), .o 24 (.pick ek (.k (.bool true)) eH), .m 25 eU, .g 26 25 false (.mv cB), .g 27 25 false (.bin .gtr fu (.k (.int .i64 400))), .o 28 (.pick eW (.k (.bool true)) fx)]) Q0E) (.seq Q0G Q0O)
abbrev Q0T:AC:= .seq (.run [.o 4 (.box br), .o 8 (.mv (.k (.bool false)))]) (.seq (.seq (.run [.c 11 xu [], .o 12 (.un .not cJ)]) Q04) (.seq (.seq (.run [.o 13 (.load fl true 2), .c 14 xv [cZ], .o 15 (.un .not cL)]) Q09) Q0Q))
abbrev Q0W:AC:= .run [.m 9 dq, .o 10 (.bin .eql df (.k (.int .i64 0))), .m 11 bT, .g 12 11 true (.aq bt 0), .g 13 11 true (.load cU false 1), .g 14 11 true (.bin .eql cZ (.k (.int .i64 1))), .o 15 (.pick cJ cL (.k (.bool false))), .m 16 dE, .g 17 16 true (.aq bt 1), .g 18 16 true (.load dF false 1), .g 19 16 true (.bin .eql dG (.k (.int .i64 7))), .o 20 (.pick dh dY (.k (.bool false))), .m 21 ey, .g 22 21 true (.aq bt 3), .g 23 21 true (.load eD false 1),(.g 24 21 true (.dA [(.int .i64 0)] 1 2 [(0,(.k (.int .i64 5))),(1,(.k (.int .i64 5)))])), .d 25 21 true j9 [eH,eU], .o 26 (.pick ek eW (.k (.bool false))), .m 27 fu, .g 28 27 true (.aq bt 4), .g 29 27 true (.load gb false 1), .g 30 27 true (.len gf), .g 31 27 true (.bin .eql gy (.k (.int .i64 2))), .o 32 (.pick fx gu (.k (.bool false))), .m 33 gS, .g 34 33 true (.aq bt 4), .g 35 33 true (.load iF false 1), .g 36 33 true (.cf gT (.k (.int .i64 0)) 2), .g 37 33 true (.aq ix 0), .g 38 33 true (.load jf false 1), .g 39 33 true (.bin .eql jQ (.k (.int .i64 2))), .o 40 (.pick gH jB (.k (.bool false))), .m 41 kg, .g 42 41 true (.aq bt 4), .g 43 41 true (.load kJ false 1), .g 44 41 true (.cf kz (.k (.int .i64 1)) 2), .g 45 41 true (.aq kK 1), .g 46 41 true (.load lK false 1),(.g 47 41 true (.dA [(.int .i64 0)] 1 1 [(0,(.k (.int .i64 5)))])), .d 48 41 true j9 [lL,lW], .o 49 (.pick jR kY (.k (.bool false))), .m 50 kZ, .g 51 50 true (.load bt true 5), .d 52 50 true xw [kL], .g 53 50 true (.qO .real kM kM),(.g 54 50 true (.qO .eq k6 (.k (.val (.float .f64 4619567317775286272))))), .o 55 (.pick lM lN (.k (.bool false))), .m 0 lO]
abbrev Q0Y:AC:= .seq (.run [.c 4 xx [],(.o 5 (.dA [(.int .i64 0)] 1 2 [(0,(.k (.int .i64 5))),(1,(.k (.int .i64 2)))])),(.c 6 vw [fl,(.k (.slice .full 0 [])),(.k (.int .i64 50)),cj]), .m 3 dD, .o 7 (.ext cB 0), .o 8 (.ext cB 1), .o 1 (.alloc [(.int .i64 0),(.int .i64 0),(.int .i64 0),(.slice .full 0 []),(.slice .full 0 [])]), .op none none (.store bt da 5), .m 2 dc]) (.seq Q0W .ret)
abbrev Q0Z:AC:= .seq (.run [.o 0 (.mv (.k (.bool false)))]) Q0Y
abbrev Q17:AC:= .par [.o 26 (.aq cj 4), .o 27 (.load fu false 1), .o 28 (.aq cj 2), .o 29 (.load gb false 1), .o 30 (.aq cj 0), .o 31 (.load gy false 1), .m 32 cB, .c 33 gp [gu,gS], .c 34 jJ [gf,gH], .c 35 jJ [fx,iF], .m 3 gT] [(4,0),(5,0),(6,0),(7,0),(2,0),(3,1),(8,0),(0,0),(1,2),(9,0),(10,0)]
abbrev Q1G:AC:= .seq (.seq (.run [.m 36 dD, .o 37 (.aq cj 1), .o 38 (.load jf false 1), .o 39 (.len jQ), .o 40 (.bin .lss ix jB), .m 41 kg, .g 42 41 true (.mv cB), .g 43 41 true (.bin .leq kJ (.k (.int .i64 20000))), .o 44 (.pick jR kz (.k (.bool false)))]) (.cond kK .skip (.exit 2))) (.seq (.block 3 (.run [.o 47 (.aq cj 1), .o 48 (.load lW false 1), .m 49 dD, .o 50 (.cf kY kZ 2), .o 51 (.aq lM 0), .o 52 (.load kL false 1), .m 53 cB, .c 54 gp [kM,k6], .m 3 lN])) (.run [.m 45 dD, .o 46 (.bin .add lK (.k (.int .i64 1))), .m 6 lL]))
abbrev Q1L:AC:= .seq (.seq (.run [.o 6 (.mv (.k (.int .i64 0)))]) (.block 2 (.loop Q1G))) (.run [.o 55 (.aq cj 3), .o 56 (.load lO false 1), .m 57 cB, .c 58 kP [nr,oJ], .m 3 n7])
abbrev Q1Q:AC:= .seq (.block 1 (.seq (.run [.o 21 (.aq bt 1), .o 22 (.load ek false 1), .m 23 fl, .o 24 (.cf eD eH 5), .o 25 (.load eU true 5), .o 5 (.alloc [(.str []),(.slice .full 0 []),(.slice .full 0 []),(.slice .full 0 []),(.slice .full 0 [])]), .op none none (.store cj eW 5)]) (.seq Q17 Q1L))) (.run [.m 19 fl, .o 20 (.bin .add dY (.k (.int .i64 1))), .m 4 ey])
abbrev Q1R:AC:= .seq (.seq (.run [.m 10 fl, .o 11 (.aq bt 1), .o 12 (.load cJ false 1), .o 13 (.len cU), .o 14 (.bin .lss bT cZ), .m 15 cL, .g 16 15 true (.mv cB), .g 17 15 true (.bin .leq dh (.k (.int .i64 20000))), .o 18 (.pick dE dF (.k (.bool false)))]) (.cond dG .skip (.exit 0))) Q1Q
abbrev Q1X:AC:= .seq (.seq (.run [.o 4 (.mv (.k (.int .i64 0)))]) (.block 0 (.loop Q1R))) (.seq (.run [.m 59 cB, .o 60 (.bin .leq lX (.k (.int .i64 20000))), .m 2 pf]) .ret)
abbrev Q1Z:AC:= .seq (.run [.o 1 (.box br), .o 2 (.mv (.k (.bool false)))]) (.seq (.run [.o 7 (.aq bt 0), .o 8 (.load da false 1), .c 9 jJ [dc,(.k (.int .i64 0))], .m 3 df]) Q1X)
abbrev Q24:AC:= .cond eU (.seq (.run [.o 25 (.build [(.int .i64 0),(.int .i64 0),(.int .i64 0),(.slice .full 0 []),(.slice .full 0 [])] []), .op none none (.store dc eW 5), .o 9 (.mv (.k (.int .i64 1)))]) .ret) .skip
abbrev Q2E:AC:= .seq (.cond ix .skip (.exit 0)) (.seq (.block 1 (.run [.m 37 bT, .m 38 bT, .o 39 (.bV jQ), .o 40 (.aq jB 1), .o 41 (.load kg false 1), .o 42 (.alloc [(.int .i64 0)]), .o 43 (.dA [.dS] 1 1 [(0,kJ)]), .o 44 (.app 1 8 jR kz), .o 45 (.bV jf), .o 46 (.aq lK 1), .op none none (.store lL kK 1)])) (.run [.o 47 (.bin .add gT (.k (.int .i64 1))), .m 35 lW]))
abbrev Q2F:AC:= .seq (.run [.o 36 (.bin .lss gT iF)]) Q2E
abbrev Q2P:AC:= .cond nr (.seq (.run [.o 12 (.mv (.k (.int .i64 0)))]) (.goto 0)) .skip
abbrev Q2Q:AC:= .seq (.run [.m 55 cZ,(.o 56 (.bin .eql lO (.k (.int .i64 (-1)))))]) Q2P
abbrev Q2U:AC:= .cond qA (.seq (.run [.m 64 bT, .o 65 (.bV qB), .o 66 (.aq uf 6), .o 67 (.aq vD 0), .op none none (.store vE (.k (.int .i64 2)) 1)]) (.goto 2)) .skip
abbrev Q36:AC:= .seq (.run [.m 102 bT, .o 103 (.aq cJ 0), .o 104 (.load Xt true 13), .c 105 oH [Xs,Xu], .m 12 Xv]) (.seq (.run [.m 106 bT, .o 107 (.bV Xw), .o 108 (.aq Xx 6), .o 109 (.aq Xy 0), .o 110 (.load agx false 1), .o 111 (.bin .eql Xz (.k (.int .i64 0)))]) (.cond XA (.goto 0) .skip))
abbrev Q3A:AC:= .cond Vb (.run [.m 96 bT, .o 97 (.aq cJ 0), .o 98 (.load ac0 true 13), .c 99 o9 [acZ,ac1], .m 13 ac2]) (.seq (.run [.o 101 (.bin .eql DF (.k (.int .i64 9))), .m 100 Xr]) (.cond Xq Q36 (.run [.m 91 bT, .o 92 (.load cJ true 17), .c 93 qy [FX,JC], .m 13 Va])))
abbrev Q3C:AC:= .block 2 (.seq (.run [.o 95 (.bin .eql DF (.k (.int .i64 4))), .m 94 Vc]) Q3A)
abbrev Q3M:AC:= .seq (.run [.m 127 bT, .o 128 (.bV XO), .o 129 (.aq Ez 6), .o 130 (.load XP true 5), .op none none (.store dc XQ 5), .o 9 (.mv (.k (.int .i64 0)))]) .ret
abbrev Q3O:AC:= .seq (.seq (.run [.m 121 bT, .o 122 (.bV XJ), .o 123 (.aq XK 6), .o 124 (.aq XL 0), .o 125 (.load XM false 1), .o 126 (.bin .eql XN (.k (.int .i64 0)))]) (.cond agy (.goto 1) .skip)) (.seq (.label 2) Q3M)
abbrev Q3P:AC:= .seq (.run [.m 118 bT, .m 119 cU, .c 120 oI [XG,XH], .m 13 XI]) Q3O
abbrev Q3S:AC:= .seq (.seq (.run [.m 112 bT, .o 113 (.bV O7), .o 114 (.aq XB 6), .o 115 (.aq XC 0), .o 116 (.load XD false 1), .o 117 (.bin .eql XE (.k (.int .i64 0)))]) (.cond XF (.goto 1) .skip)) (.seq (.goto 2) (.seq (.label 0) Q3P))
abbrev Q3V:AC:= .seq (.run [.m 68 bT, .o 69 (.bV ug), .o 70 (.aq xF 6), .o 71 (.aq xG 1), .o 72 (.load Bv false 1), .o 73 (.bin .add zp (.k (.int .i64 1))), .o 74 (.bV ug), .o 75 (.aq Bw 6), .o 76 (.aq Bx 1), .op none none (.store zt zr 1)]) (.seq (.run [.m 77 bT, .o 78 (.bV By), .o 79 (.aq xH 0), .o 80 (.load DC false 1), .o 81 (.bV DD), .o 82 (.aq DE 2), .o 83 (.load FP false 1), .m 84 cZ, .o 85 (.bin .sub FR (.k (.int .i64 1))), .o 86 (.cf FQ FT 17), .o 87 (.load FU true 17), .op none none (.store cJ FV 17)]) (.seq (.seq (.run [.o 88 (.aq cJ 0), .o 89 (.aq FW 1), .o 90 (.load Bz false 1)]) Q3C) Q3S))
abbrev Q3X:AC:= .seq Q2Q (.seq (.seq (.run [.m 57 bT, .o 58 (.bV oJ), .o 59 (.aq n7 6), .o 60 (.aq lX 1), .o 61 (.load pf false 1), .m 62 dq, .o 63 (.bin .eql qz pV)]) Q2U) Q3V)
abbrev Q40:AC:= .seq (.run [.o 12 (.mv (.k (.int .i64 0)))]) (.seq (.run [.m 48 bT, .m 49 bT, .o 50 (.bV kZ), .o 51 (.aq lM 0), .o 52 (.load kL false 1),(.c 53 iE [kM,(.k (.str [109,97,105,110]))]),(.c 54 jn [kY,k6,(.k (.slice .full 0 [])),(.k (.int .i64 0))]), .m 13 lN]) (.seq (.label 1) Q3X))
abbrev Q41:AC:= .seq (.run [.o 11 (.alloc [(.int .i64 0),(.int .i64 0),(.slice .full 0 []),(.str []),(.str []),(.int .i64 0),(.int .i64 0),(.str []),(.slice .full 0 []),(.bool false),(.slice .full 0 []),(.slice .full 0 []),(.slice .full 0 []),(.int .i64 0),(.int .i64 0),(.int .i64 0),(.int .i64 0)])]) Q40
abbrev Q42:AC:= .seq (.seq (.run [.o 32 (.aq fl 0), .o 33 (.load gS false 1), .o 34 (.len gH), .o 35 (.mv (.k (.int .i64 0)))]) (.block 0 (.loop Q2F))) Q41
abbrev Q44:AC:= .seq (.seq (.run [.m 14 dq, .o 15 (.bin .lss cL (.k (.int .i64 0))), .m 16 dE, .g 17 16 false (.mv dq), .g 18 16 false (.bin .gtr dF (.k (.int .i64 1000000))), .o 19 (.pick dh (.k (.bool true)) dG), .m 20 dY, .g 21 20 false (.load fl true 2), .d 22 20 false sL [ek], .g 23 20 false (.un .not eD), .o 24 (.pick ey (.k (.bool true)) eH)]) Q24) (.seq (.run [.o 26 (.load fl true 2), .c 27 kW [fu], .m 28 bt, .m 29 cB, .o 30 (.build [.dS,(.slice .full 0 []),(.slice .full 0 []),(.slice .full 0 []),(.slice .full 0 []),(.slice .full 0 []),(.int .i64 0),(.int .i64 0),(.int .i64 0),(.slice .full 0 []),(.slice .full 0 [])] [(0,(1,fx)),(2,(1,gb)),(3,(1,gf))]), .o 31 (.box gy), .m 10 gu]) Q42)
abbrev Q45:AC:= .scope Q44
abbrev Q46:AC:= .seq (.run [.o 4 (.box br), .o 8 (.alloc [(.int .i64 0),(.int .i64 0),(.int .i64 0),(.slice .full 0 []),(.slice .full 0 [])]), .o 9 (.mv (.k (.int .i64 0)))]) Q45
abbrev Q4A:AC:= .seq (.run [.o 2 (.box br), .o 3 (.box bt), .o 4 (.mv (.k (.bool false)))]) (.seq (.run [.o 5 (.load dq true 5), .o 6 (.load cB true 5), .c 7 tW [cj,dD], .m 8 da, .g 9 8 true (.aq dq 4), .g 10 8 true (.load df false 1), .g 11 8 true (.aq cB 4), .g 12 8 true (.load cJ false 1), .d 13 8 true oR [bT,cU], .o 14 (.pick dc cZ (.k (.bool false))), .m 4 cL]) .ret)
abbrev Q4E:AC:= .seq (.run [.o 1 (.box br), .o 2 (.mv (.k (.bool false)))]) (.seq (.run [.o 3 (.load bt true 2), .c 4 xy [cB], .o 5 (.CT fl 0 false 1), .o 6 (.bin .eql cj (.k (.int .i64 0))), .m 2 dD]) .ret)
abbrev Q4I:AC:= .seq (.run [.o 3 (.box br), .o 6 (.mv (.k (.bool false)))]) (.seq (.run [.o 7 (.load cB true 2), .c 8 sL [da], .m 9 dc, .g 10 9 true (.mv dq), .g 11 9 true (.bin .geq bT (.k (.int .i64 0))), .o 12 (.pick df cJ (.k (.bool false))), .m 13 cU, .g 14 13 true (.mv dq), .g 15 13 true (.bin .leq cL (.k (.int .i64 400))), .o 16 (.pick cZ dE (.k (.bool false))), .m 17 dh, .g 18 17 true (.mv bt), .g 19 17 true (.len dG), .g 20 17 true (.bin .leq dY (.k (.int .i64 100))), .o 21 (.pick dF ey (.k (.bool false))), .m 6 ek]) .ret)
abbrev Q4K:AC:= .par [.o 10 (.load cB true 2), .m 11 bt, .m 12 dq, .o 13 (.load cB true 2), .c 14 zk [cZ,(.k (.int .i64 0))], .c 15 vw [bT,cJ,cU,cL], .m 9 dE, .o 16 (.ext df 0), .o 17 (.ext df 1), .o 7 (.alloc [(.int .i64 0),(.int .i64 0),(.int .i64 0),(.slice .full 0 []),(.slice .full 0 [])]), .op none none (.store da dh 5), .m 8 dF] [(3,0),(4,0),(0,1),(1,0),(2,0),(5,0),(9,0),(6,0),(7,0),(10,0),(8,0),(11,0)]
abbrev Q4O:AC:= .seq (.run [.o 3 (.box br), .o 6 (.alloc [(.int .i64 0),(.int .i64 0),(.int .i64 0),(.slice .full 0 []),(.slice .full 0 [])])]) (.seq Q4K (.seq (.run [.o 18 (.load da true 5), .op none none (.store dD dG 5)]) .ret))
abbrev Q4S:AC:= .seq (.run [.o 4 (.mv (.k (.bool false)))]) (.seq (.run [.m 5 br, .o 6 (.len cj), .m 7 bt, .o 8 (.len da), .o 9 (.bin .leq dD dc), .m 10 df, .g 11 10 true (.mv br), .g 12 10 true (.mv bt), .g 13 10 true (.mv br), .g 14 10 true (.len cZ), .g 15 10 true (.AU 1 cU none (some cL)), .d 16 10 true j9 [cJ,dE], .o 17 (.pick bT dh (.k (.bool false))), .m 4 dF]) .ret)
abbrev Q4X:AC:= .cond bT (.seq (.run [.o 4 (.mv (.k (.bool false)))]) .ret) .skip
abbrev Q53:AC:= .par [.m 16 br, .m 17 cj, .o 18 (.cf dh dF 2), .o 19 (.aq dG 0), .o 20 (.load dY false 1), .m 21 bt, .m 22 cj, .o 23 (.cf ek eD 2), .o 24 (.aq eH 0), .o 25 (.load eU false 1), .o 26 (.bin .neq ey eW), .m 27 fu, .g 28 27 false (.mv br), .g 29 27 false (.mv cj), .g 30 27 false (.cf gb gf 2), .g 31 27 false (.aq gy 1), .g 32 27 false (.load gu false 1), .g 33 27 false (.mv bt), .g 34 27 false (.mv cj), .g 35 27 false (.cf gH iF 2), .g 36 27 false (.aq gT 1), .g 37 27 false (.load ix false 1), .d 38 27 false j9 [gS,jf], .g 39 27 false (.un .not jQ), .o 40 (.pick fx (.k (.bool true)) jB)] [(0,0),(1,0),(2,0),(3,0),(4,0),(5,0),(6,0),(7,0),(8,0),(9,0),(10,0),(11,0),(12,0),(13,0),(14,0),(15,0),(16,0),(17,0),(18,0),(19,0),(20,0),(21,0),(22,0),(23,0),(24,0)]
abbrev Q56:AC:= .cond kg (.seq (.run [.o 4 (.mv (.k (.bool false)))]) .ret) .skip
abbrev Q5C:AC:= .seq (.cond cL .skip (.exit 0)) (.seq (.block 1 (.seq (.run [.m 15 cZ, .m 5 dE]) (.seq Q53 Q56))) (.run [.o 41 (.bin .add cZ (.k (.int .i64 1))), .m 13 jR]))
abbrev Q5G:AC:= .seq (.run [.m 11 br, .o 12 (.len cJ), .o 13 (.mv (.k (.int .i64 0)))]) (.block 0 (.loop (.seq (.run [.o 14 (.bin .lss cZ cU)]) Q5C)))
abbrev Q5J:AC:= .seq Q5G (.seq (.run [.o 4 (.mv (.k (.bool true)))]) .ret)
abbrev Q5L:AC:= .seq (.run [.o 4 (.mv (.k (.bool false)))]) (.seq (.seq (.run [.m 6 br, .o 7 (.len dD), .m 8 bt, .o 9 (.len dc), .o 10 (.bin .neq da df)]) Q4X) Q5J)
abbrev Q5N:AC:= .run [.o 5 (.aq dq 0), .o 6 (.load cj false 1), .o 7 (.aq cB 0), .o 8 (.load da false 1), .o 9 (.bin .eql dD dc), .m 10 df, .g 11 10 true (.aq dq 1), .g 12 10 true (.load cJ false 1), .g 13 10 true (.aq cB 1), .g 14 10 true (.load cZ false 1), .g 15 10 true (.bin .eql cU cL), .o 16 (.pick bT dE (.k (.bool false))), .m 17 dh, .g 18 17 true (.aq dq 2), .g 19 17 true (.load dG false 1), .g 20 17 true (.aq cB 2), .g 21 17 true (.load ey false 1), .g 22 17 true (.bin .eql dY ek), .o 23 (.pick dF eD (.k (.bool false))), .m 24 eH, .g 25 24 true (.aq dq 3), .g 26 24 true (.load eW false 1), .g 27 24 true (.aq cB 3), .g 28 24 true (.load fx false 1), .d 29 24 true j9 [fu,gb], .o 30 (.pick eU gf (.k (.bool false))), .m 4 gy]
abbrev Q5P:AC:= .seq (.run [.o 2 (.box br), .o 3 (.box bt), .o 4 (.mv (.k (.bool false)))]) (.seq Q5N .ret)
abbrev Q5U:AC:= .cond bT (.seq (.run [.o 4 (.mv (.k (.bool false)))]) .ret) .skip
abbrev Q60:AC:= .par [.m 16 br, .m 17 cj, .o 18 (.cf dh dF 1), .o 19 (.load dG false 1), .m 20 bt, .m 21 cj, .o 22 (.cf ey ek 1), .o 23 (.load eD false 1), .o 24 (.bin .neq dY eH)] [(0,0),(1,0),(2,0),(3,0),(4,0),(5,0),(6,0),(7,0),(8,0)]
abbrev Q63:AC:= .cond eU (.seq (.run [.o 4 (.mv (.k (.bool false)))]) .ret) .skip
abbrev Q69:AC:= .seq (.cond cL .skip (.exit 0)) (.seq (.block 1 (.seq (.run [.m 15 cZ, .m 5 dE]) (.seq Q60 Q63))) (.run [.o 25 (.bin .add cZ (.k (.int .i64 1))), .m 13 eW]))
abbrev Q6D:AC:= .seq (.run [.m 11 br, .o 12 (.len cJ), .o 13 (.mv (.k (.int .i64 0)))]) (.block 0 (.loop (.seq (.run [.o 14 (.bin .lss cZ cU)]) Q69)))
abbrev Q6G:AC:= .seq Q6D (.seq (.run [.o 4 (.mv (.k (.bool true)))]) .ret)
abbrev Q6I:AC:= .seq (.run [.o 4 (.mv (.k (.bool false)))]) (.seq (.seq (.run [.m 6 br, .o 7 (.len dD), .m 8 bt, .o 9 (.len dc), .o 10 (.bin .neq da df)]) Q5U) Q6G)
abbrev Q6M:AC:= .seq (.run [.o 1 (.box br), .o 2 (.mv (.k (.bool false)))]) (.seq (.run [.o 3 (.load bt true 4), .c 4 qb [cB,(.k (.int .i64 20))], .m 2 fl]) .ret)
abbrev Q6X:AC:= .seq (.run [.o 13 (.cf df cJ 16), .o 14 (.load cZ true 16), .o 7 (.alloc [(.int .i64 0),(.int .i64 0),(.slice .full 0 []),(.str []),(.str []),(.int .i64 0),(.int .i64 0),(.str []),(.slice .full 0 []),(.bool false),(.slice .full 0 []),(.slice .full 0 []),(.slice .full 0 []),(.int .i64 0),(.int .i64 0),(.bool false)]), .op none none (.store da cL 16)]) (.seq (.run [.m 15 bt, .o 16 (.bin .eql dE (.k (.int .i64 0))), .m 17 dh, .g 18 17 false (.aq da 0), .g 19 17 false (.aq dG 1), .g 20 17 false (.load dY false 1), .g 21 17 false (.mv bt), .g 22 17 false (.bin .eql ey ek), .o 23 (.pick dF (.k (.bool true)) eD)]) (.cond eH (.run [.m 24 cj, .o 25 (.aq da 0), .o 26 (.aq eW 0), .o 27 (.load fu false 1), .o 28 (.dA [(.int .i64 0)] 1 1 [(0,fx)]), .o 29 (.app 1 8 eU gb), .m 5 gf]) .skip))
abbrev Q71:AC:= .seq (.cond cU .skip (.exit 0)) (.seq (.block 1 Q6X) (.run [.o 30 (.bin .add cJ (.k (.int .i64 1))), .m 11 gy]))
abbrev Q75:AC:= .seq (.run [.o 8 (.load dq true 2), .c 9 zl [dc], .o 10 (.len df), .o 11 (.mv (.k (.int .i64 0)))]) (.block 0 (.loop (.seq (.run [.o 12 (.bin .lss cJ bT)]) Q71)))
abbrev Q7A:AC:= .seq (.run [.o 2 (.box br), .o 4 (.mv (.k (.slice .full 0 [])))]) (.seq (.run [.o 5 (.mv (.k (.slice .full 0 [])))]) (.seq Q75 (.seq (.run [.m 31 cj, .m 4 gu]) .ret)))
abbrev Q7F:AC:= .cond eH (.seq (.run [.o 2 (.mv (.k (.bool false)))]) .ret) .skip
abbrev Q7M:AC:= .run [.o 33 (.aq cj 1), .o 34 (.load gH false 1), .o 35 (.len iF), .o 36 (.bin .gtr gT (.k (.int .i64 8))), .m 37 ix, .g 38 37 false (.aq cj 2), .g 39 37 false (.load jQ false 1), .g 40 37 false (.len jB), .g 41 37 false (.bin .gtr kg (.k (.int .i64 16))), .o 42 (.pick jf (.k (.bool true)) jR), .m 43 kJ, .g 44 43 false (.aq cj 0), .g 45 43 false (.load kK false 1), .d 46 43 false n6 [lK], .g 47 43 false (.un .not lL), .o 48 (.pick kz (.k (.bool true)) lW), .m 49 kY, .g 50 49 false (.aq cj 2), .g 51 49 false (.load lM false 1), .d 52 49 false np [kL], .g 53 49 false (.un .not kM), .o 54 (.pick kZ (.k (.bool true)) k6), .m 55 lN, .g 56 55 false (.aq cj 4), .g 57 55 false (.load nr false 1), .d 58 55 false np [oJ], .g 59 55 false (.un .not n7), .o 60 (.pick lO (.k (.bool true)) lX)]
abbrev Q7P:AC:= .cond pf (.seq (.run [.o 2 (.mv (.k (.bool false)))]) .ret) .skip
abbrev Q7Y:AC:= .cond Bv (.seq (.run [.o 2 (.mv (.k (.bool false)))]) .ret) .skip
abbrev Q83:AC:= .seq (.block 3 (.seq (.run [.o 66 (.cf pV qB 2), .o 67 (.load vD true 2), .o 7 (.alloc [(.str []),(.bool false)]), .op none none (.store da vE 2)]) (.seq (.run [.o 68 (.aq da 0), .o 69 (.load ug false 1), .c 70 n6 [xF], .o 71 (.un .not xG)]) Q7Y))) (.run [.o 72 (.bin .add qB (.k (.int .i64 1))), .m 64 zp])
abbrev Q87:AC:= .block 2 (.loop (.seq (.run [.o 65 (.bin .lss qB qA)]) (.seq (.cond uf .skip (.exit 2)) Q83)))
abbrev Q8C:AC:= .cond By (.seq (.run [.o 2 (.mv (.k (.bool false)))]) .ret) .skip
abbrev Q8E:AC:= .seq (.seq (.run [.o 61 (.aq cj 1), .o 62 (.load qz false 1), .o 63 (.len pV), .o 64 (.mv (.k (.int .i64 0)))]) Q87) (.seq (.run [.m 73 cB, .o 74 (.aq cj 3), .o 75 (.load Bw false 1), .c 76 ky [zr,Bx,(.k (.int .i64 1))], .o 77 (.un .not zt)]) Q8C)
abbrev Q8J:AC:= .seq (.block 1 (.seq (.run [.o 31 (.cf fx gf 5), .o 32 (.load gu true 5), .o 5 (.alloc [(.str []),(.slice .full 0 []),(.slice .full 0 []),(.slice .full 0 []),(.slice .full 0 [])]), .op none none (.store cj gS 5)]) (.seq (.seq Q7M Q7P) Q8E))) (.run [.o 78 (.bin .add gf (.k (.int .i64 1))), .m 29 xH])
abbrev Q8N:AC:= .block 0 (.loop (.seq (.run [.o 30 (.bin .lss gf gb)]) (.seq (.cond gy .skip (.exit 0)) Q8J)))
abbrev Q8R:AC:= .seq (.seq (.run [.o 26 (.aq bt 1), .o 27 (.load fu false 1), .o 28 (.len fx), .o 29 (.mv (.k (.int .i64 0)))]) Q8N) (.seq (.run [.o 2 (.mv (.k (.bool true)))]) .ret)
abbrev Q8T:AC:= .seq (.seq (.run [.o 8 (.aq bt 0), .o 9 (.load dc false 1), .o 10 (.len df), .o 11 (.bin .gtr bT (.k (.int .i64 16))), .m 12 cJ, .g 13 12 false (.aq bt 1), .g 14 12 false (.load cZ false 1), .g 15 12 false (.len cL), .g 16 12 false (.bin .gtr dE (.k (.int .i64 16))), .o 17 (.pick cU (.k (.bool true)) dh), .m 18 dF, .g 19 18 false (.aq bt 0), .g 20 18 false (.load dY false 1), .d 21 18 false np [ey], .g 22 18 false (.un .not ek), .o 23 (.pick dG (.k (.bool true)) eD)]) Q7F) (.seq (.run [.o 24 (.build [(.int .i64 0)] []), .o 25 (.box eU), .m 3 eW]) Q8R)
abbrev Q8U:AC:= .seq (.run [.o 1 (.box br), .o 2 (.mv (.k (.bool false)))]) Q8T
open Go.Proofs
set_option maxRecDepth 20000 in
theorem jK : Has Tryz.prog wH 93 [(8, none)] Q0T := ⟨Tryz.f5, by kernel_rfl, by kernel_rfl⟩
set_option maxRecDepth 20000 in
theorem HR : Has Tryz.prog xu 56 [(0, none)] Q0Z := ⟨Tryz.f15, by kernel_rfl, by kernel_rfl⟩
theorem HS:Has Tryz.prog xv 61 [(2,none)] Q1Z:=⟨Tryz.f16,by kernel_rfl,by kernel_rfl⟩
theorem uQ:Has Tryz.prog vw 131 [(8,(some (true,5))),(9,none)] Q46:=⟨Tryz.f17,by kernel_rfl,by kernel_rfl⟩
theorem EA:Has Tryz.prog tT 15 [(4,none)] Q4A:=⟨Tryz.f19,by kernel_rfl,by kernel_rfl⟩
theorem HT:Has Tryz.prog sL 7 [(2,none)] Q4E:=⟨Tryz.f20,by kernel_rfl,by kernel_rfl⟩
theorem EB:Has Tryz.prog tU 22 [(6,none)] Q4I:=⟨Tryz.f21,by kernel_rfl,by kernel_rfl⟩
theorem EC:Has Tryz.prog qm 19 [(6,(some (true,5)))] Q4O:=⟨Tryz.f22,by kernel_rfl,by kernel_rfl⟩
theorem wJ:Has Tryz.prog tV 18 [(4,none)] Q4S:=⟨Tryz.f23,by kernel_rfl,by kernel_rfl⟩
theorem uE:Has Tryz.prog oR 42 [(4,none)] Q5L:=⟨Tryz.f24,by kernel_rfl,by kernel_rfl⟩
theorem ED:Has Tryz.prog tW 31 [(4,none)] Q5P:=⟨Tryz.f25,by kernel_rfl,by kernel_rfl⟩
theorem vF:Has Tryz.prog j9 26 [(4,none)] Q6I:=⟨Tryz.f28,by kernel_rfl,by kernel_rfl⟩
theorem DG:Has Tryz.prog nn 5 [(2,none)] Q6M:=⟨Tryz.f29,by kernel_rfl,by kernel_rfl⟩
theorem JD:Has Tryz.prog zk 32 [(4,none)] Q7A:=⟨Tryz.f33,by kernel_rfl,by kernel_rfl⟩
theorem JE:Has Tryz.prog rm 79 [(2,none)] Q8U:=⟨Tryz.f36,by kernel_rfl,by kernel_rfl⟩
end Go.Abs
