/-
  What is proved here: part 1 of the road to the claim (Frame, Frame2, Walk, Par, Par1, Par2, Par3, Step, Wp, Types, SelA, Lend, Sym, Frz, WpA, Mir, MirTree, Cnt, MirFlat, Nums, Codes0, Have0).
  No conditions.
-/
import Derived.Test.YtpjadlleefgcpaaGreatRnI0
import Derived.Attr
import Derived.Test.YtpjadlleefgcpaaGreatProg
import Derived.KernelRfl

set_option linter.unusedSimpArgs false
set_option linter.unusedVariables false
namespace Go.Abs
def Tag.ok (m:Nat):Tag→Bool
 | .tok t _=>decide (t<m)
 |_=>true
def Tag.cU (ts:List Nat):Tag→Tag
 | .tok t y=>match ts[t]? with|some t'=> .tok t' y|none=> .shared
 |g=>g
mutual
def D.ok (n m:Nat):D→Bool
 | .ptr o _=>decide (o<n)
 | .dR row _=>D.bM n m row
 | .slice g _ rows=>g.ok m && D.jb n m rows
 | .agg cs=>D.bM n m cs
 | .tuple ds=>D.bM n m ds
 | .ga _ o=>decide (o<n)
 | .ij _ cs=>D.bM n m cs
 | .gR o=>decide (o<n)
 | .dS _ o _ _=>decide (o<n)
 | .gb o _ _=>decide (o<n)
 |_=>true
def D.bM (n m:Nat):List D→Bool
 | []=>true
 |d::r=>D.ok n m d && D.bM n m r
def D.jb (n m:Nat):List (List D)→Bool
 | []=>true
 |d::r=>D.bM n m d && D.jb n m r
end
mutual
def D.cU (os ts:List Nat):D→D
 | .ptr o off=>match os[o]? with|some o'=> .ptr o' off|none=> .junk
 | .dR row off=> .dR (D.fa os ts row) off
 | .slice g z rows=> .slice (g.cU ts) z (D.px os ts rows)
 | .agg cs=> .agg (D.fa os ts cs)
 | .tuple ds=> .tuple (D.fa os ts ds)
 | .junk=> .junk
 | .int k x=> .int k x
 | .bool b=> .bool b
 | .str l=> .str l
 | .eW=> .eW
 | .val v=> .val v
 | .ga T o=>match os[o]? with|some o'=> .ga T o'|none=> .junk
 | .ij f cs=> .ij f (D.fa os ts cs)
 | .gR o=>match os[o]? with|some o'=> .gR o'|none=> .junk
 | .dS z o g len=>match os[o]? with|some o'=> .dS z o' g len|none=> .junk
 | .gb o g off=>match os[o]? with|some o'=> .gb o' g off|none=> .junk
 | .ff z=> .ff z
def D.fa (os ts:List Nat):List D→List D
 | []=> []
 |d::r=>D.cU os ts d::D.fa os ts r
def D.px (os ts:List Nat):List (List D)→List (List D)
 | []=> []
 |d::r=>D.fa os ts d::D.px os ts r
end
theorem gK (os ts:List Nat) : ∀ l,D.fa os ts l=l.map (D.cU os ts)
 | []=>by simp[D.fa]
 |d::r=>by simp[D.fa,gK os ts r]
theorem En (os ts:List Nat) : ∀ l,D.px os ts l=l.map (D.fa os ts)
 | []=>by simp[D.px]
 |d::r=>by simp[D.px,En os ts r]
theorem Ao (n m:Nat) : ∀ l,D.bM n m l=l.all (D.ok n m)
 | []=>by simp[D.bM]
 |d::r=>by simp[D.bM,Ao n m r]
theorem GV (n m:Nat) : ∀ l,D.jb n m l=l.all (D.bM n m)
 | []=>by simp[D.jb]
 |d::r=>by simp[D.jb,GV n m r]
theorem xi {n m:Nat} {l:List D} (h:D.bM n m l=true) {i:Nat} {d:D} (e:l[i]? = some d):D.ok n m d=true:=by
 rw[Ao]at h;exact List.all_eq_true.1 h d (List.mem_of_getElem? e)
theorem acU {n m:Nat} {l:List (List D)} (h:D.jb n m l=true) {i:Nat} {d:List D} (e:l[i]? = some d):D.bM n m d=true:=by
 rw[GV]at h;exact List.all_eq_true.1 h d (List.mem_of_getElem? e)
section
variable {M M0:Map} {s s0:St} {os ts:List Nat}
theorem jJ.Bd (lL : ∀ (i:Nat) t,ts[i]? = some t→M0.be i=M.be t) (ht : ∀ (i t:Nat),ts[i]? = some t→s0.aA[i]? = s.aA[t]?) (hlen:s0.aA.length=ts.length) {g:Tag} {z len cap:Nat} {base:Option (Nat×Nat)} (qh:g.ok ts.length=true) (h:jJ M s (g.cU ts) z len base cap):jJ M0 s0 g z len base cap:=by
 cases g with
 |full=>exact h
 |shared=>exact h
 |tok t y=>
  have hD:t<ts.length:=by simpa[Tag.ok]using qh
  have e:ts[t]? = some ts[t]:=List.getElem?_eq_getElem hD
  simp only[Tag.cU,e]at h
  obtain⟨h1,h2⟩:=h
  refine⟨by omega,fun n hn=>?_⟩
  rw[ht t _ e]at hn
  rw[lL t _ e]
  exact h2 n hn
theorem RD.Bd (hG:M0.G=M.G) (j8 : ∀ (i:Nat) o,os[i]? = some o→M0.loc i=M.loc o) (jy:s0.al.length=os.length)
 (lL : ∀ (i:Nat) t,ts[i]? = some t→M0.be i=M.be t) (ht : ∀ (i t:Nat),ts[i]? = some t→s0.aA[i]? = s.aA[t]?) (hlen:s0.aA.length=ts.length) {d:D} {v:Value} (h:RD M s d v) :
 ∀ d0:D,d0.cU os ts=d→d0.ok os.length ts.length=true→RD M0 s0 d0 v:=by
 have oj : ∀ (i:Nat) o,os[i]? = some o→M0.mu i=M.mu o:=fun i o h=>congrArg Prod.fst (j8 i o h)
 have tag:=fun {g z len cap base}=>@jJ.Bd M M0 s s0 ts lL ht hlen g z len cap base
 induction h with
 | junk v=>
  intro d0 e ok
  cases d0<;>simp only[D.cU]at e<;>try (cases e;done)
  ·exact .junk v
  ·rename_i o off
   have hD:o<os.length:=by simpa[D.ok]using ok
   rw[List.getElem?_eq_getElem hD]at e;cases e
  ·rename_i T o
   have hD:o<os.length:=by simpa[D.ok]using ok
   rw[List.getElem?_eq_getElem hD]at e;cases e
  ·rename_i o
   have hD:o<os.length:=by simpa[D.ok]using ok
   rw[List.getElem?_eq_getElem hD]at e;cases e
  ·rename_i z o g len
   have hD:o<os.length:=by simpa[D.ok]using ok
   rw[List.getElem?_eq_getElem hD]at e;cases e
  ·rename_i o g off
   have hD:o<os.length:=by simpa[D.ok]using ok
   rw[List.getElem?_eq_getElem hD]at e;cases e
 |ff z a=>intro d0 e ok;cases d0<;>simp only[D.cU]at e<;>first|(cases e;exact .ff _ _)|(split at e<;>cases e)|cases e
 |dS z o g len b cap A ho hm ha hl=>
  intro d0 e ok
  cases d0<;>simp only[D.cU]at e<;>first|(cases e;done)|skip
  all_goals try (split at e<;>cases e;done)
  rename_i z0 o0 g0 Rp
  have hD:o0<os.length:=by simpa[D.ok]using ok
  rw[List.getElem?_eq_getElem hD]at e
  cases e
  exact RD.dS (s:=s0) z o0 g len b cap A (by omega) ((congrArg Prod.snd (j8 o0 _ (List.getElem?_eq_getElem hD))).trans hm) ha hl
 |gb z o g off b cap A ho hm ha=>
  intro d0 e ok
  cases d0<;>simp only[D.cU]at e<;>first|(cases e;done)|skip
  all_goals try (split at e<;>cases e;done)
  rename_i o0 g0 XR
  have hD:o0<os.length:=by simpa[D.ok]using ok
  rw[List.getElem?_eq_getElem hD]at e
  cases e
  exact RD.gb (s:=s0) z o0 g off b cap A (by omega) ((congrArg Prod.snd (j8 o0 _ (List.getElem?_eq_getElem hD))).trans hm) ha
 |val v hv=>intro d0 e ok;cases d0<;>simp only[D.cU]at e<;>first|(cases e;exact .val _ hv)|(split at e<;>cases e)|cases e
 |ga T o v ho ht hv=>
  intro d0 e ok
  cases d0<;>simp only[D.cU]at e<;>first|(split at e<;>cases e;done)|skip
  all_goals try (cases e;done)
  rename_i T0 o0
  have hD:o0<os.length:=by simpa[D.ok]using ok
  rw[List.getElem?_eq_getElem hD]at e
  cases e
  have hl:=j8 o0 _ (List.getElem?_eq_getElem hD)
  exact .ga _ o0 v (by omega) ((congrArg (fun x=>x.2.ty?) hl).trans ht) (by rw[oj o0 _ (List.getElem?_eq_getElem hD)];exact hv)
 |int k x=>intro d0 e ok;cases d0<;>simp only[D.cU]at e<;>first|(cases e;exact .int _ _)|(split at e<;>cases e)|cases e
 |bool b=>intro d0 e ok;cases d0<;>simp only[D.cU]at e<;>first|(cases e;exact .bool _)|(split at e<;>cases e)|cases e
 |str l=>intro d0 e ok;cases d0<;>simp only[D.cU]at e<;>first|(cases e;exact .str _)|(split at e<;>cases e)|cases e
 |eW=>intro d0 e ok;cases d0<;>simp only[D.cU]at e<;>first|(cases e;exact .eW)|(split at e<;>cases e)|cases e
 |gR o ho hm=>
  intro d0 e ok
  cases d0<;>simp only[D.cU]at e<;>first|(cases e;done)|skip
  all_goals try (split at e<;>cases e;done)
  rename_i o0
  have hD:o0<os.length:=by simpa[D.ok]using ok
  rw[List.getElem?_eq_getElem hD]at e
  cases e
  rw[← oj o0 _ (List.getElem?_eq_getElem hD)]
  exact RD.gR (s:=s0) o0 (by omega) ((congrArg Prod.snd (j8 o0 _ (List.getElem?_eq_getElem hD))).trans hm)
 |ij f ds vs hl _ ih=>
  intro d0 e ok
  cases d0<;>simp only[D.cU]at e<;>first|(split at e<;>cases e;done)|skip
  all_goals try (cases e;done)
  rename_i f0 UP
  simp only[D.ij.injEq]at e
  obtain⟨rfl,rfl⟩:=e
  simp only[D.ok]at ok
  rw[gK]at hl ih
  refine .ij _ UP vs (by simpa using hl) (fun i d v e1 e2=>ih i _ v (by rw[List.getElem?_map,e1];rfl) e2 d rfl (xi ok e1))
 |ptr o off ho hm=>
  intro d0 e ok
  cases d0<;>simp only[D.cU]at e<;>first|(cases e;done)|skip
  all_goals try (split at e<;>cases e;done)
  rename_i o0 XR
  have hD:o0<os.length:=by simpa[D.ok]using ok
  rw[List.getElem?_eq_getElem hD]at e
  cases e
  rw[← oj o0 _ (List.getElem?_eq_getElem hD)]
  exact RD.ptr (s:=s0) o0 _ (by omega) (by rw[show M0.ob o0=_ from congrArg Prod.snd (j8 o0 _ (List.getElem?_eq_getElem hD))];exact hm)
 |dR row off b k h1 h2 ih=>
  intro d0 e ok
  cases d0<;>simp only[D.cU]at e<;>first|(split at e<;>cases e;done)|skip
  all_goals try (cases e;done)
  rename_i aox XR
  simp only[D.dR.injEq]at e
  obtain⟨rfl,rfl⟩:=e
  simp only[D.ok]at ok
  rw[gK]at h1 ih
  refine .dR aox XR b k (fun i d e=>?_) (fun i d u e eu=>?_)
  ·rw[hG];exact h1 i _ (by rw[List.getElem?_map,e];rfl)
  ·rw[hG]at eu;exact ih i _ u (by rw[List.getElem?_map,e];rfl) eu d rfl (xi ok e)
 |jE g z cap hc ri=>
  intro d0 e ok
  cases d0<;>simp only[D.cU]at e<;>first|(split at e<;>cases e;done)|skip
  all_goals try (cases e;done)
  rename_i g0 z0 lh
  simp only[D.slice.injEq]at e
  obtain⟨rfl,rfl,e⟩:=e
  have:lh = []:=by cases lh<;>simp[D.px]at e;rfl
  subst this
  simp only[D.ok,Bool.and_eq_true]at ok
  exact .jE g0 z0 cap hc (tag ok.1 ri)
 | mD z a cap=>
  intro d0 e ok
  cases d0<;>simp only[D.cU]at e<;>first|(split at e<;>cases e;done)|skip
  all_goals try (cases e;done)
  rename_i g0 z0 lh
  simp only[D.slice.injEq]at e
  obtain⟨hg,rfl,e⟩:=e
  have:lh = []:=by cases lh<;>simp[D.px]at e;rfl
  subst this
  simp only[D.ok,Bool.and_eq_true]at ok
  have:g0 = .shared:=by
   cases g0 with
   |tok t y=>
    have ht:t<ts.length:=by simpa[Tag.ok]using ok.1
    simp[Tag.cU,ht]at hg
   |shared=>rfl
   |_=>simp[Tag.cU]at hg
  subst this
  exact .mD _ a cap
 | slice g z rows b k cap hl hs h1 h2 ri ih=>
  intro d0 e ok
  cases d0<;>simp only[D.cU]at e<;>first|(split at e<;>cases e;done)|skip
  all_goals try (cases e;done)
  rename_i g0 z0 lh
  simp only[D.slice.injEq]at e
  obtain⟨rfl,rfl,rfl⟩:=e
  simp only[D.ok,Bool.and_eq_true]at ok
  rw[En]at hl hs h1 ih ri
  simp only[En,List.length_map]at hl ri ⊢
  have eJ : ∀ (i:Nat) (row:List D),lh[i]? = some row→(lh.map (D.fa os ts))[i]? = some (D.fa os ts row):=fun i row e=>by rw[List.getElem?_map,e];rfl
  have iR : ∀ (row:List D) (j:Nat) (d:D),row[j]? = some d→(D.fa os ts row)[j]? = some (D.cU os ts d):=fun row j d e=>by rw[gK,List.getElem?_map,e];rfl
  refine .slice g0 z0 lh b k cap hl (fun row hr=>?_) (fun i row j d e1 e2=>?_) (fun i row j d u e1 e2 eu=>?_) (tag ok.1 ri)
  ·have:=hs (D.fa os ts row) (List.mem_map.2 ⟨row,hr,rfl⟩)
   rwa [gK,List.length_map]at this
  ·rw[hG];exact h1 i _ j _ (eJ i row e1) (iR row j d e2)
  ·rw[hG]at eu;exact ih i _ j _ u (eJ i row e1) (iR row j d e2) eu d rfl (xi (acU ok.2 e1) e2)
 |agg cells vs hl h1 _ ih=>
  intro d0 e ok
  cases d0<;>simp only[D.cU]at e<;>first|(split at e<;>cases e;done)|skip
  all_goals try (cases e;done)
  rename_i UP
  simp only[D.agg.injEq]at e
  subst e
  simp only[D.ok]at ok
  rw[gK]at hl ih
  refine .agg UP vs (by simpa using hl) h1 (fun i d v e1 e2=>ih i _ v (by rw[List.getElem?_map,e1];rfl) e2 d rfl (xi ok e1))
 |tuple ds vs hl _ ih=>
  intro d0 e ok
  cases d0<;>simp only[D.cU]at e<;>first|(split at e<;>cases e;done)|skip
  all_goals try (cases e;done)
  rename_i UP
  simp only[D.tuple.injEq]at e
  subst e
  simp only[D.ok]at ok
  rw[gK]at hl ih
  refine .tuple UP vs (by simpa using hl) (fun i d v e1 e2=>ih i _ v (by rw[List.getElem?_map,e1];rfl) e2 d rfl (xi ok e1))
theorem RD.cU (hG:M0.G=M.G) (j8 : ∀ i,i<s0.al.length→∃ o,os[i]? = some o∧o<s.al.length∧M.loc o=M0.loc i)
 (lL : ∀ i,i<s0.aA.length→∃ t,ts[i]? = some t∧t<s.aA.length∧s.aA[t]? = s0.aA[i]? ∧M.be t=M0.be i) {d:D} {v:Value} (h:RD M0 s0 d v):RD M s (d.cU os ts) v:=by
 have tag : ∀ {g:Tag} {z len cap:Nat} {base:Option (Nat×Nat)},jJ M0 s0 g z len base cap→jJ M s (g.cU ts) z len base cap:=by
  intro g z len cap base h
  cases g with
  |full=>exact h
  |shared=>exact h
  |tok t y=>
   obtain⟨h1,h2⟩:=h
   obtain⟨t',e,hD,LW,hb⟩:=lL t h1
   simp only[Tag.cU,e]
   refine⟨hD,fun n hn=>?_⟩
   rw[hb]
   exact h2 n (LW ▸ hn)
 induction h with
 |junk v=>simp only[D.cU];exact .junk v
 |int k x=>simp only[D.cU];exact .int k x
 |bool b=>simp only[D.cU];exact .bool b
 |str l=>simp only[D.cU];exact .str l
 |eW=>simp only[D.cU];exact .eW
 |ptr o off ho hk=>
  obtain⟨o',e,hD,hm⟩:=j8 o ho
  simp only[D.cU,e]
  have hb:M.ob o'=M0.ob o:=congrArg Prod.snd hm
  have hm:M.mu o'=M0.mu o:=congrArg Prod.fst hm
  rw[← hm]
  exact .ptr o' off hD (by rw[hb];exact hk)
 |gR o ho hk=>
  obtain⟨o',e,hD,hm⟩:=j8 o ho
  simp only[D.cU,e]
  have hb:M.ob o'=M0.ob o:=congrArg Prod.snd hm
  have hm:M.mu o'=M0.mu o:=congrArg Prod.fst hm
  rw[← hm]
  exact .gR o' hD (by rw[hb];exact hk)
 |ff z a=>simp only[D.cU];exact .ff z a
 |dS z o g len b cap A ho hk ha hl=>
  obtain⟨o',e,hD,hm⟩:=j8 o ho
  simp only[D.cU,e]
  exact .dS z o' g len b cap A hD ((congrArg Prod.snd hm).trans hk) ha hl
 |gb z o g off b cap A ho hk ha=>
  obtain⟨o',e,hD,hm⟩:=j8 o ho
  simp only[D.cU,e]
  exact .gb z o' g off b cap A hD ((congrArg Prod.snd hm).trans hk) ha
 |ij f ds vs hl _ ih=>
  simp only[D.cU,gK]
  refine .ij f _ vs (by simpa using hl) (fun i d v e1 e2=>?_)
  simp only[List.getElem?_map,Option.map_eq_some_iff]at e1
  obtain⟨d',e1,rfl⟩:=e1
  exact ih i d' v e1 e2
 |val v hv=>simp only[D.cU];exact .val v hv
 |ga T o v ho ht hv=>
  obtain⟨o',e,hD,hm⟩:=j8 o ho
  simp only[D.cU,e]
  have h1:M.mu o'=M0.mu o:=congrArg Prod.fst hm
  have h2:M.ty o'=M0.ty o:=congrArg (fun x=>x.2.ty?) hm
  exact .ga T o' v hD (by rw[h2];exact ht) (by rw[h1];exact hv)
 | dR row off b k h1 h2 ih=>
  simp only[D.cU,gK]
  refine .dR _ off b k (fun i d e=>?_) (fun i d u e eu=>?_)
  ·simp only [List.getElem?_map,Option.map_eq_some_iff]at e
   obtain⟨d',e,rfl⟩:=e
   rw[← hG];exact h1 i d' e
  ·simp only [List.getElem?_map,Option.map_eq_some_iff]at e
   obtain⟨d',e,rfl⟩:=e
   rw[← hG]at eu;exact ih i d' u e eu
 |jE g z cap hc ht=>simp only[D.cU,D.px];exact .jE _ z cap hc (tag ht)
 |mD z a cap=>simp only[D.cU,D.px,Tag.cU];exact .mD z a cap
 | slice g z rows b k cap hl hs h1 h2 ht ih=>
  simp only[D.cU,En]
  have hlen:(rows.map (D.fa os ts)).length=rows.length:=by simp
  have key:=RD.slice (M:=M) (s:=s) (g.cU ts) z (rows.map (D.fa os ts)) b k cap (by rw[hlen];exact hl) (fun row hr=>by
   obtain⟨ll,h',rfl⟩:=List.mem_map.1 hr
   rw[gK,List.length_map];exact hs ll h')
   (fun i row j d e1 e2=>by
    simp only[List.getElem?_map,Option.map_eq_some_iff]at e1
    obtain⟨ll,e1,rfl⟩:=e1
    rw[gK]at e2
    simp only[List.getElem?_map,Option.map_eq_some_iff]at e2
    obtain⟨d',e2,rfl⟩:=e2
    rw[← hG];exact h1 i ll j d' e1 e2)
   (fun i row j d u e1 e2 eu=>by
    simp only[List.getElem?_map,Option.map_eq_some_iff]at e1
    obtain⟨ll,e1,rfl⟩:=e1
    rw[gK]at e2
    simp only[List.getElem?_map,Option.map_eq_some_iff]at e2
    obtain⟨d',e2,rfl⟩:=e2
    rw[← hG]at eu;exact ih i ll j d' u e1 e2 eu)
   (by rw[hlen];exact tag ht)
  rw[hlen]at key
  exact key
 |agg cells vs hl h1 _ ih=>
  simp only[D.cU,gK]
  refine .agg _ vs (by simpa using hl) h1 (fun i d v e1 e2=>?_)
  simp only[List.getElem?_map,Option.map_eq_some_iff]at e1
  obtain⟨d',e1,rfl⟩:=e1
  exact ih i d' v e1 e2
 |tuple ds vs hl _ ih=>
  simp only[D.cU,gK]
  refine .tuple _ vs (by simpa using hl) (fun i d v e1 e2=>?_)
  simp only[List.getElem?_map,Option.map_eq_some_iff]at e1
  obtain⟨d',e1,rfl⟩:=e1
  exact ih i d' v e1 e2
def lq {α:Type} : List Nat→List α→List α→List α
 | [],new,l=>l++new
 |_::_,[],l=>l
 |o::os,x::xs,l=>lq os xs (l.set o x)
def kE (os:List Nat) (n k:Nat):List Nat:=os++(List.range k).map (n + ·)
theorem zr {α:Type} : ∀ (os:List Nat) (xs l:List α),os.length≤xs.length→(lq os xs l).length=l.length+(xs.length - os.length)
 | [],xs,l,_=>by simp[lq]
 |o::os,[],l,h=>by simp at h
 |o::os,x::xs,l,h=>by
  simp only[lq]
  rw[zr os xs _ (by simpa using h)]
  simp
theorem FI {α:Type} : ∀ (os:List Nat) (xs l:List α),os.length≤xs.length→os.Nodup→(∀ o∈os,o<l.length)→
 (∀ (i:Nat) (o:Nat),os[i]? = some o→(lq os xs l)[o]? = xs[i]?)∧(∀ o,o<l.length→o∉os→(lq os xs l)[o]? = l[o]?)∧
 (∀ k,(lq os xs l)[l.length+k]? = xs[os.length+k]?)
 | [],xs,l,_,_,_=>by
  refine⟨by simp,fun o ho _=>by simp only[lq];rw[List.getElem?_append_left ho],fun k=>by simp only[lq];rw[List.getElem?_append_right (by omega)];simp⟩
 |o::os,[],l,h,_,_=>by simp at h
 | o::os,x::xs,l,h,hn,hD=>by
  simp only[List.nodup_cons]at hn
  have Cg : ∀ q∈os,q<(l.set o x).length:=fun q hq=>by simpa using hD q (by simp[hq])
  obtain⟨h1,h2,h3⟩:=FI os xs (l.set o x) (by simpa using h) hn.2 Cg
  have ho:o<l.length:=hD o (by simp)
  simp only[lq]
  refine⟨fun i q e=>?_,fun q hq Dj=>?_,fun k=>?_⟩
  ·cases i with
   |zero=>
    simp only[List.getElem?_cons_zero,Option.some.injEq]at e
    subst e
    rw[h2 o (by simpa using ho) hn.1]
    simp[ho]
   |succ i=>simpa using h1 i q (by simpa using e)
  ·have vy:q≠o:=fun e=>Dj (by simp [e])
   rw[h2 q (by simpa using hq) (fun h=>Dj (by simp[h])),List.getElem?_set_ne (Ne.symm vy)]
  ·have:=h3 k
   simp only[List.length_set]at this
   rw[this]
   simp only[List.length_cons]
   rw[show os.length+1+k=(os.length+k)+1 by omega];simp
theorem Fb (os:List Nat) (n k i:Nat):(kE os n k)[i]? = if i<os.length then os[i]? else if i<os.length+k then some (n+(i - os.length))else none:=by
 unfold kE
 split
 ·rename_i h;rw[List.getElem?_append_left h]
 ·rename_i h
  rw[List.getElem?_append_right (by omega)]
  split
  ·rename_i h2
   rw[List.getElem?_map,List.getElem?_range (by omega)];rfl
  ·rename_i h2
   rw[List.getElem?_eq_none]
   simp;omega
def posOf:List Nat→Nat→Option Nat
 | [],_=>none
 |x::r,o=>if x=o then some 0 else(posOf r o).map (· + 1)
theorem jL : ∀ {l:List Nat} {o i:Nat},posOf l o=some i→l[i]? = some o
 | x::r,o,i,h=>by
  simp only[posOf]at h
  split at h
  ·rename_i e;cases h;simp[e]
  ·cases hp:posOf r o with
   |none=>rw[hp]at h;cases h
   |some j=>rw[hp]at h;cases h;simpa using jL hp
theorem nE : ∀ {l:List Nat} {o i:Nat},l.Nodup→l[i]? = some o→posOf l o=some i
 | x::r,o,i,hn,h=>by
  simp only[List.nodup_cons]at hn
  simp only[posOf]
  cases i with
  |zero=>simp at h;simp[h]
  |succ i=>
   simp at h
   have:x≠o:=fun e=>hn.1 (by rw[e];exact List.mem_of_getElem? h)
   rw[if_neg this,nE hn.2 h];rfl
end
end Go.Abs
namespace Go.Abs
theorem Ch {l:List Nat} {n k:Nat} (h:l.Nodup) (hl : ∀ o∈l,o<n):(kE l n k).Nodup:=by
 unfold kE
 rw[List.nodup_append]
 refine⟨h, ?_,fun a ha b hb=>?_⟩
 ·rw [List.nodup_iff_pairwise_ne,List.pairwise_map]
  exact List.Pairwise.imp (fun h=>by omega) (List.nodup_iff_pairwise_ne.1 List.nodup_range)
 ·obtain⟨c,hc,rfl⟩:=List.mem_map.1 hb
  have:=hl a ha
  omega
def gC (M:Map) (os ts:List Nat):Map:=⟨M.G,fun i=>M.loc (os.getD i 0),fun i=>M.be (ts.getD i 0)⟩
def Ap (M M0:Map) (os ts:List Nat):Map:=
 ⟨M0.G,fun o=>match posOf os o with|some i=>M0.loc i|none=>M.loc o,fun t=>match posOf ts t with|some i=>M0.be i|none=>M.be t⟩
section
variable {P:Program} {M:Map} {s s0:St} {w:World} {os ts:List Nat}
theorem uE {l:List Nat} {i o:Nat} (h:l[i]? = some o):l.getD i 0=o:=by simp[List.getD,h]
theorem Rel.sub (r:Rel M s w) (um:os.Nodup) (xj:ts.Nodup) (jy : ∀ o∈os,o<s.al.length)
 (ho:s0.al.length=os.length) (qx : ∀ (i o:Nat) (ds:List D),os[i]? = some o→s0.al[i]? = some ds→s.al[o]? = some (D.fa os ts ds)∧D.bM os.length ts.length ds=true)
 (ht:s0.aA.length=ts.length) (vS : ∀ (i t:Nat),ts[i]? = some t→s0.aA[i]? = s.aA[t]?):Rel (gC M os ts) s0 w:=by
 have nth : ∀ i,i<s0.al.length→∃ o,os[i]? = some o∧o<s.al.length:=fun i hi=>⟨os[i],List.getElem?_eq_getElem (by omega),jy _ (List.getElem_mem _)⟩
 have loc : ∀ (i:Nat) o,os[i]? = some o→(gC M os ts).loc i=M.loc o:=fun i o h=>by simp only[gC,uE h]
 have mu : ∀ (i:Nat) o,os[i]? = some o→(gC M os ts).mu i=M.mu o:=fun i o h=>congrArg Prod.fst (loc i o h)
 have be : ∀ (i:Nat) t,ts[i]? = some t→(gC M os ts).be i=M.be t:=fun i t h=>by simp only[gC,uE h]
 have tth : ∀ t,s0.live t→∃ t',ts[t]? = some t'∧s.live t':=fun t ⟨n,hn⟩=>by
  have hD:=(List.getElem?_eq_some_iff.1 hn).1
  have e:ts[t]? = some ts[t]:=List.getElem?_eq_getElem (by omega)
  exact⟨_,e,n,by rw[← vS t _ e];exact hn⟩
 refine⟨r.comm,fun i ds e=>?_,fun i hi off=>?_,fun i i' hi iS e=>?_,fun t n e=>?_,fun t b c z i hl e hi=>?_,fun t t' b c z c' z' h h' e e'=>?_⟩
 ·obtain⟨o,h1,_⟩:=nth i (List.getElem?_eq_some_iff.1 e).1
  obtain⟨h2,h3⟩:=qx i o ds h1 e
  obtain⟨vs,T,g1,g2,g3,g4⟩:=r.obj o _ h2
  refine⟨vs,T,by rw[loc i o h1];exact g1,by rw[gK]at g2;simpa using g2,⟨g3.1,by rw[show(gC M os ts).ty i=M.ty o from congrArg (fun x=>x.2.ty?) (loc i o h1)];exact g3.2⟩,fun j d v e1 e2=>?_⟩
  exact RD.Bd (M:=M) (M0:=gC M os ts) (s:=s) rfl loc ho be vS ht (g4 j (d.cU os ts) v (by rw[gK,List.getElem?_map,e1];rfl) e2) d rfl (xi h3 e1)
 ·obtain⟨o,h1,h2⟩:=nth i hi
  rw[mu i o h1];exact r.j7 o h2 off
 ·obtain⟨o,h1,h2⟩:=nth i hi
  obtain⟨o',uq,wx⟩:=nth i' iS
  rw[mu i o h1,mu i' o' uq]at e
  have:=r.inj o o' h2 wx e
  subst this
  have a:=nE um h1
  have b:=nE um uq
  rw[a]at b;cases b;rfl
 ·obtain⟨t',h1,h2⟩:=tth t ⟨n,e⟩
  rw[be t t' h1]
  exact r.tok t' n (by rw[← vS t t' h1];exact e)
 ·obtain⟨t',h1,h2⟩:=tth t hl
  obtain⟨o,h3,h4⟩:=nth i hi
  rw[be t t' h1]at e
  rw[mu i o h3]
  exact r.fM t' b c z o h2 e h4
 ·obtain⟨q,h1,h2⟩:=tth t h
  obtain⟨q',uq,wx⟩:=tth t' h'
  rw[be t q h1]at e
  rw[be t' q' uq]at e'
  have:=r.gN q q' b c z c' z' h2 wx e e'
  subst this
  have a:=nE xj h1
  have b:=nE xj uq
  rw[a]at b;cases b;rfl
end
def St.back (s:St) (os ts:List Nat) (s':St):St:=
 ⟨lq os (s'.al.map (D.fa (kE os s.al.length (s'.al.length - os.length)) (kE ts s.aA.length (s'.aA.length - ts.length)))) s.al,lq ts s'.aA s.aA⟩
def D.back (s:St) (os ts:List Nat) (s':St) (d:D):D:=
 d.cU (kE os s.al.length (s'.al.length - os.length)) (kE ts s.aA.length (s'.aA.length - ts.length))
theorem bV.frame {P:Program} {f:FuncId} {Rq args:List D} {s s0:St} {Q0 Q:D→St→Prop} (os ts:List Nat) (h:bV P f Rq s0 Q0) (um:os.Nodup) (xj:ts.Nodup) (jy : ∀ o∈os,o<s.al.length) (wu : ∀ t∈ts,t<s.aA.length)
 (ho:s0.al.length=os.length) (qx : ∀ (i o:Nat) (ds:List D),os[i]? = some o→s0.al[i]? = some ds→s.al[o]? = some (D.fa os ts ds)∧D.bM os.length ts.length ds=true)
 (ht:s0.aA.length=ts.length) (vS : ∀ (i t:Nat),ts[i]? = some t→s0.aA[i]? = s.aA[t]?)
 (Be:args=D.fa os ts Rq) (qh:D.bM os.length ts.length Rq=true) (k : ∀ d s',Q0 d s'→Q (d.back s os ts s') (s.back os ts s')):bV P f args s Q:=by
 intro M w gv r kN dU ha
 have r0:=r.sub um xj jy ho qx ht vS
 have loc : ∀ (i:Nat) o,os[i]? = some o→(gC M os ts).loc i=M.loc o:=fun i o h=>by simp only[gC,uE h]
 have mu : ∀ (i:Nat) o,os[i]? = some o→(gC M os ts).mu i=M.mu o:=fun i o h=>congrArg Prod.fst (loc i o h)
 have be : ∀ (i:Nat) t,ts[i]? = some t→(gC M os ts).be i=M.be t:=fun i t h=>by simp only[gC,uE h]
 subst Be
 have afH:Laid (gC M os ts) s0 w:=by
  intro g cs hg
  obtain⟨h1,h2,h3⟩:=kN g cs hg
  refine⟨h1,fun o hD=>?_,fun t c z hl hb=>?_⟩
  ·obtain⟨o',o8⟩ : ∃ o',os[o]? = some o':=⟨_,List.getElem?_eq_getElem (by omega)⟩
   rw[mu o o' o8]
   exact h2 o' (jy o' (List.mem_of_getElem? o8))
  ·obtain⟨n,hn⟩:=hl
   have hD:=(List.getElem?_eq_some_iff.1 hn).1
   obtain⟨t',Ci⟩ : ∃ t',ts[t]? = some t':=⟨_,List.getElem?_eq_getElem (by omega)⟩
   rw[be t t' Ci]at hb
   exact h3 t' c z ⟨n,by rw[← vS t t' Ci];exact hn⟩ hb
 have hc:=h (gC M os ts) w gv r0 afH (by rw[dU,gK,List.length_map]) (fun i d v e1 e2=>
  RD.Bd (M:=M) (M0:=gC M os ts) (s:=s) rfl loc ho be vS ht (ha i (d.cU os ts) v (by rw[gK,List.getElem?_map,e1];rfl) e2) d rfl (xi qh e1))
 refine hc.mono ?_
 rintro en w' ⟨Aq,d,v,s',rfl,hq,e,r',hv⟩
 have L0:=e.le.n
 have GD:=e.le.t
 generalize Rr:kE os s.al.length (s'.al.length - os.length)=mZ
 generalize Rs:kE ts s.aA.length (s'.aA.length - ts.length)=qy
 have nd:mZ.Nodup:=by rw[← Rr];exact Ch um jy
 have ndt:qy.Nodup:=by rw[← Rs];exact Ch xj wu
 have Rt : ∀ i,mZ[i]? = if i<os.length then os[i]? else if i<s'.al.length then some (s.al.length+(i - os.length))else none:=fun i=>by
  rw[← Rr,Fb];split
  ·rfl
  ·rw[show os.length+(s'.al.length - os.length)=s'.al.length by omega]
 have Ru : ∀ i,qy[i]? = if i<ts.length then ts[i]? else if i<s'.aA.length then some (s.aA.length+(i - ts.length))else none:=fun i=>by
  rw[← Rs,Fb];split
  ·rfl
  ·rw[show ts.length+(s'.aA.length - ts.length)=s'.aA.length by omega]
 have hsb:s.back os ts s' = ⟨lq os (s'.al.map (D.fa mZ qy)) s.al,lq ts s'.aA s.aA⟩:=by simp only[St.back,Rr,Rs]
 have hdb:d.back s os ts s'=d.cU mZ qy:=by simp only[D.back,Rr,Rs]
 have la:=k d s' hq
 rw[hsb,hdb]at la
 obtain⟨p1,p2,p3⟩:=FI os (s'.al.map (D.fa mZ qy)) s.al (by simp;omega) um jy
 obtain⟨q1,q2,q3⟩:=FI ts s'.aA s.aA (by omega) xj wu
 have L8:=zr os (s'.al.map (D.fa mZ qy)) s.al (by simp;omega)
 have L9:=zr ts s'.aA s.aA (by omega)
 simp only[List.length_map]at L8
 generalize Cd:(⟨lq os (s'.al.map (D.fa mZ qy)) s.al,lq ts s'.aA s.aA⟩:St)=s2 at la
 have so:s2.al=lq os (s'.al.map (D.fa mZ qy)) s.al:=by rw[← Cd]
 have st:s2.aA=lq ts s'.aA s.aA:=by rw[← Cd]
 -- the framed objects
 have fo : ∀ (i o:Nat),mZ[i]? = some o→o<s2.al.length∧s2.al[o]? = (s'.al[i]?).map (D.fa mZ qy)∧i<s'.al.length∧(i<os.length→o<s.al.length∧os[i]? = some o)∧(os.length≤i→s.al.length≤o):=by
  intro i o hi
  rw[Rt]at hi
  split at hi
  ·rename_i h1
   have hD:=jy o (List.mem_of_getElem? hi)
   refine⟨by rw[so,L8];omega,by rw[so,p1 i o hi,List.getElem?_map],by omega,fun _=>⟨hD,hi⟩,fun h=>by omega⟩
  ·split at hi
   ·rename_i h1 h2
    cases hi
    refine⟨by rw[so,L8];omega, ?_,h2,fun h=>by omega,fun _=>by omega⟩
    rw[so,p3,List.getElem?_map,show os.length+(i - os.length)=i by omega]
   ·cases hi
 have ft : ∀ (i t:Nat),qy[i]? = some t→t<s2.aA.length∧s2.aA[t]? = s'.aA[i]? ∧i<s'.aA.length∧(i<ts.length→t<s.aA.length∧ts[i]? = some t)∧(ts.length≤i→s.aA.length≤t):=by
  intro i t hi
  rw[Ru]at hi
  split at hi
  ·rename_i h1
   have hD:=wu t (List.mem_of_getElem? hi)
   refine⟨by rw[st,L9];omega,by rw[st,q1 i t hi],by omega,fun _=>⟨hD,hi⟩,fun h=>by omega⟩
  ·split at hi
   ·rename_i h1 h2
    cases hi
    refine⟨by rw[st,L9];omega, ?_,h2,fun h=>by omega,fun _=>by omega⟩
    rw[st,q3,show ts.length+(i - ts.length)=i by omega]
   ·cases hi
 -- all others
 have uo : ∀ o,o<s2.al.length→posOf mZ o=none→o<s.al.length∧o∉os∧s2.al[o]? = s.al[o]? :=by
  intro o hD hp
  have py : ∀ i,mZ[i]? ≠some o:=fun i hi=>by rw[nE nd hi]at hp;cases hp
  have h1:o<s.al.length:=by
   rcases Nat.lt_or_ge o s.al.length with h|h
   ·exact h
   ·exfalso
    rw[so,L8]at hD
    refine py (os.length+(o - s.al.length)) ?_
    rw[Rt,if_neg (by omega),if_pos (by omega)]
    congr 1;omega
  have h2:o∉os:=fun hm=>by
   obtain⟨i,hi⟩:=List.mem_iff_getElem?.1 hm
   have sG:=(List.getElem?_eq_some_iff.1 hi).1
   exact py i (by rw[Rt,if_pos sG];exact hi)
  exact⟨h1,h2,by rw[so,p2 o h1 h2]⟩
 have ut : ∀ t,t<s2.aA.length→posOf qy t=none→t<s.aA.length∧t∉ts∧s2.aA[t]? = s.aA[t]? :=by
  intro t hD hp
  have py : ∀ i,qy[i]? ≠some t:=fun i hi=>by rw[nE ndt hi]at hp;cases hp
  have h1:t<s.aA.length:=by
   rcases Nat.lt_or_ge t s.aA.length with h|h
   ·exact h
   ·exfalso
    rw[st,L9]at hD
    refine py (ts.length+(t - s.aA.length)) ?_
    rw[Ru,if_neg (by omega),if_pos (by omega)]
    congr 1;omega
  have h2:t∉ts:=fun hm=>by
   obtain⟨i,hi⟩:=List.mem_iff_getElem?.1 hm
   have sG:=(List.getElem?_eq_some_iff.1 hi).1
   exact py i (by rw[Ru,if_pos sG];exact hi)
  exact⟨h1,h2,by rw[st,q2 t h1 h2]⟩
 generalize UR:Ap M Aq mZ qy=M2
 have mG:Aq.G=M2.G:=by rw[← UR];rfl
 have lo : ∀ (i o:Nat),mZ[i]? = some o→M2.loc o=Aq.loc i:=fun i o hi=>by rw[← UR];simp only[Ap,nE nd hi]
 have lo0 : ∀ o,posOf mZ o=none→M2.loc o=M.loc o:=fun o hp=>by rw[← UR];simp only[Ap,hp]
 have mo : ∀ (i o:Nat),mZ[i]? = some o→M2.mu o=Aq.mu i:=fun i o hi=>congrArg Prod.fst (lo i o hi)
 have Ma : ∀ o,posOf mZ o=none→M2.mu o=M.mu o:=fun o hp=>congrArg Prod.fst (lo0 o hp)
 have mt : ∀ (i t:Nat),qy[i]? = some t→M2.be t=Aq.be i:=fun i t hi=>by rw[← UR];simp only[Ap,nE ndt hi]
 have Mb : ∀ t,posOf qy t=none→M2.be t=M.be t:=fun t hp=>by rw[← UR];simp only[Ap,hp]
 have le:Le M s M2 s2:=by
  refine⟨fun b o v hg=>by rw[← mG];exact e.le.G b o v hg,by rw[so,L8];omega,fun o hD=>?_,by rw[st,L9];omega,fun t n' hD rh=>?_⟩
  ·cases hp:posOf mZ o with
   |none=>rw[lo0 o hp];exact .refl _
   | some i=>
    have hi:=jL hp
    rw[lo i o hi]
    obtain⟨_,_,_,h1,h2⟩:=fo i o hi
    have sG:i<os.length:=by
     rcases Nat.lt_or_ge i os.length with h|h
     ·exact h
     ·have:=h2 h;omega
    have h3:=e.le.loc i (by omega)
    rw[loc i o (h1 sG).2]at h3
    exact h3
  ·cases hp:posOf qy t with
   |none=>
    obtain⟨_,_,h3⟩:=ut t (by rw[st,L9];omega) hp
    rw[h3]at rh
    exact⟨n',rh,Nat.le_refl _,fun _=>Mb t hp⟩
   | some i=>
    have hi:=jL hp
    obtain⟨_,g1,_,h1,h2⟩:=ft i t hi
    have sG:i<ts.length:=by
     rcases Nat.lt_or_ge i ts.length with h|h
     ·exact h
     ·have:=h2 h;omega
    rw[g1]at rh
    obtain⟨n,h3,h4,h5⟩:=e.le.tk i n' (by omega) rh
    refine⟨n,by rw[← vS i t (h1 sG).2];exact h3,h4,fun eq=>?_⟩
    rw[mt i t hi,h5 eq,be i t (h1 sG).2]
 have afI : ∀ {d:D} {v:Value},RD Aq s' d v→RD M2 s2 (d.cU mZ qy) v:=fun hd=>RD.cU mG
  (fun i hi=>by
   obtain⟨o,ho⟩ : ∃ o,mZ[i]? = some o:=by
    rw[Rt];split
    ·rename_i h1;exact⟨_,List.getElem?_eq_getElem h1⟩
    ·exact⟨_,rfl⟩
   exact⟨o,ho,(fo i o ho).1,lo i o ho⟩)
  (fun i hi=>by
   obtain⟨t,ht⟩ : ∃ t,qy[i]? = some t:=by
    rw[Ru];split
    ·rename_i h1;exact⟨_,List.getElem?_eq_getElem h1⟩
    ·exact⟨_,rfl⟩
   exact⟨t,ht,(ft i t ht).1,(ft i t ht).2.1,mt i t ht⟩) hd
 -- blocks that the callee did not know
 have Lj : ∀ i,s0.live i→∃ t,ts[i]? = some t∧s.live t:=fun i ⟨n,hn⟩=>by
  have hD:=(List.getElem?_eq_some_iff.1 hn).1
  have e1:ts[i]? = some ts[i]:=List.getElem?_eq_getElem (by omega)
  exact⟨_,e1,n,by rw[← vS i _ e1];exact hn⟩
 have Rv : ∀ b,b<w.heap.size→(∀ (i o:Nat),os[i]? = some o→M.mu o≠b)→(∀ (i t:Nat) c z,ts[i]? = some t→s.live t→M.be t≠some (b,c,z))→
  w'.heap[b]? = w.heap[b]? ∧∀ off,Aq.G b off=M.G b off:=by
  intro b hb h1 h2
  refine⟨e.kept b hb (fun i hi=>?_) (fun i c z hl=>?_),fun off=>?_⟩
  ·have e1:os[i]? = some os[i]:=List.getElem?_eq_getElem (by omega)
   rw[mu i _ e1];exact h1 i _ e1
  ·obtain⟨t,e1,hD⟩:=Lj i hl
   rw[be i t e1];exact h2 i t c z e1 hD
  ·apply Classical.byContradiction
   intro fk
   rcases e.sg b off fk with h3|⟨i,c,z,hl,h3⟩
   ·omega
   ·obtain⟨t,e1,hD⟩:=Lj i hl
    rw[be i t e1]at h3
    exact h2 i t c z e1 hD h3
 have aaW : ∀ o,o<s.al.length→o∉os→w'.heap[M.mu o]? = w.heap[M.mu o]? ∧∀ off,Aq.G (M.mu o) off=M.G (M.mu o) off:=fun o hD py=>
  Rv _ (r.rV hD) (fun i o' h1 h2=>py (by rw[← r.inj o' o (jy o' (List.mem_of_getElem? h1)) hD h2];exact List.mem_of_getElem? h1))
   (fun i t c z _ hl h2=>r.fM t _ c z o hl h2 hD rfl)
 have ajX : ∀ t b c z,s.live t→t∉ts→M.be t=some (b,c,z)→w'.heap[b]? = w.heap[b]? ∧∀ off,Aq.G b off=M.G b off:=fun t b c z hl py hb=>
  Rv b (r.uV hl hb) (fun i o h1=>r.fM t b c z o hl hb (jy o (List.mem_of_getElem? h1)))
   (fun i t' c' z' h1 mF h2=>py (by rw[r.gN t t' b c z c' z' hl mF hb h2];exact List.mem_of_getElem? h1))
 have lv : ∀ t,s2.live t→(∃ i,qy[i]? = some t∧s'.live i)∨(posOf qy t=none∧s.live t∧t∉ts):=by
  rintro t ⟨n,hn⟩
  cases hp:posOf qy t with
  |none=>
   obtain⟨h1,h2,h3⟩:=ut t (List.getElem?_eq_some_iff.1 hn).1 hp
   exact .inr ⟨rfl,⟨n,by rw[← h3];exact hn⟩,h2⟩
  |some i=>
   have hi:=jL hp
   exact .inl ⟨i,hi,n,by rw[← (ft i t hi).2.1];exact hn⟩
 -- where a framed object lies
 have muc : ∀ (i o:Nat),mZ[i]? = some o→(o<s.al.length∧o∈os∧Aq.mu i=M.mu o)∨w.heap.size≤Aq.mu i:=by
  intro i o hi
  obtain⟨_,_,h1,h2,h3⟩:=fo i o hi
  rcases e.mo h1 with ⟨h4,h5⟩|h4
  ·have h:i<os.length:=by omega
   exact .inl ⟨(h2 h).1,List.mem_of_getElem? (h2 h).2,by rw[h5,mu i o (h2 h).2]⟩
  ·exact .inr h4
 have bec : ∀ (i t b c z:Nat),qy[i]? = some t→s'.live i→Aq.be i=some (b,c,z)→(s.live t∧t∈ts∧∃ c' z',M.be t=some (b,c',z'))∨w.heap.size≤b:=by
  intro i t b c z hi hl hb
  rcases e.rr i b c z hl hb with ⟨h1,c',z',h2⟩|h1
  ·obtain⟨t',e1,hD⟩:=Lj i h1
   have sG:=(List.getElem?_eq_some_iff.1 e1).1
   obtain⟨_,_,_,h3,_⟩:=ft i t hi
   have:=(h3 sG).2
   rw[e1]at this;cases this
   rw[be i _ e1]at h2
   exact .inl ⟨hD,List.mem_of_getElem? e1,c',z',h2⟩
  ·exact .inr h1
 refine⟨M2,d.cU mZ qy,v,s2,rfl,la, ?_, ?_,afI hv⟩
 ·-- Ext
  refine⟨le,fun b hb h1 h2=>?_,fun o h1 h2=>?_,fun t b c z hl hb=>?_,fun b off fk=>?_,e.size,e.os,e.tape,e.output⟩
  ·exact(Rv b hb (fun i o h3=>h1 o (jy o (List.mem_of_getElem? h3))) (fun i t c z _ hl=>h2 t c z hl)).1
  ·cases hp:posOf mZ o with
   |none=>
    have:=(uo o h2 hp).1
    rcases h1 with h1|h1
    ·omega
    ·exact(h1 (Ma o hp)).elim
   | some i=>
    have hi:=jL hp
    rw[mo i o hi]at h1 ⊢
    rcases muc i o hi with ⟨h3,_,h5⟩|h3
    ·rcases h1 with h1 | h1
     ·omega
     ·exact(h1 h5).elim
    ·exact h3
  ·rcases lv t hl with ⟨i,hi,mF⟩ | ⟨hp,mF,_⟩
   ·rw [mt i t hi]at hb
    rcases bec i t b c z hi mF hb with ⟨h1,_,h2⟩|h1
    ·exact .inl ⟨h1,h2⟩
    ·exact .inr h1
   ·rw [Mb t hp]at hb
    exact .inl ⟨mF,c,z,hb⟩
  ·rw [← mG]at fk
   rcases e.sg b off fk with h1|⟨i,c,z,hl,hb⟩
   ·exact .inl h1
   ·obtain⟨t,e1,hD⟩:=Lj i hl
    rw[be i t e1]at hb
    exact .inr ⟨t,c,z,hD,hb⟩
 ·-- Rel
  refine⟨fun b o v hg=>r'.comm b o v (by rw[mG];exact hg),fun o ds Dd=>?_,fun o hD off=>?_,fun o o' hD Cg heq=>?_,fun t n hn=>?_,fun t b c z o hl hb hD=>?_,fun t t' b c z c' z' hl mF hb uj=>?_⟩
  ·cases hp:posOf mZ o with
   |some i=>
    have hi:=jL hp
    obtain⟨_,g1,_⟩:=fo i o hi
    rw[g1]at Dd
    obtain⟨o7,h1,rfl⟩:=Option.map_eq_some_iff.1 Dd
    obtain⟨vs,T,h2,h3,h4,h5⟩:=r'.obj i o7 h1
    refine⟨vs,T,by rw[lo i o hi];exact h2,by rw[gK];simpa using h3,⟨h4.1,by rw[show M2.ty o=Aq.ty i from congrArg (fun x=>x.2.ty?) (lo i o hi)];exact h4.2⟩,fun j d v e1 e2=>?_⟩
    rw[gK]at e1
    simp only[List.getElem?_map,Option.map_eq_some_iff]at e1
    obtain⟨d',e1,rfl⟩:=e1
    exact afI (h5 j d' v e1 e2)
   |none=>
    obtain⟨h1,h2,h3⟩:=uo o (List.getElem?_eq_some_iff.1 Dd).1 hp
    rw[h3]at Dd
    obtain⟨vs,T,g1,g2,g3,g4⟩:=r.obj o ds Dd
    exact⟨vs,T,by rw[lo0 o hp];exact g1.keep (aaW o h1 h2).1,g2,⟨g3.1,by rw[show M2.ty o=M.ty o from congrArg (fun x=>x.2.ty?) (lo0 o hp)];exact g3.2⟩,fun j d v e1 e2=>(g4 j d v e1 e2).mono le⟩
  ·cases hp:posOf mZ o with
   |some i=>
    have hi:=jL hp
    rw[mo i o hi, ← mG];exact r'.j7 i (fo i o hi).2.2.1 off
   |none=>
    obtain⟨h1,h2,h3⟩:=uo o hD hp
    rw[Ma o hp, ← mG,(aaW o h1 h2).2 off];exact r.j7 o h1 off
  ·cases hp:posOf mZ o with
   | some i=>
    have hi:=jL hp
    rw[mo i o hi]at heq
    cases og:posOf mZ o' with
    |some i'=>
     have iS:=jL og
     rw[mo i' o' iS]at heq
     have:=r'.inj i i' (fo i o hi).2.2.1 (fo i' o' iS).2.2.1 heq
     subst this
     rw[hi]at iS;cases iS;rfl
    | none=>
     obtain⟨h1,h2,_⟩:=uo o' Cg og
     rw[Ma o' og]at heq
     rcases muc i o hi with ⟨h3,h4,h5⟩|h3
     ·rw [h5]at heq
      have:=r.inj o o' h3 h1 heq
      subst this;exact(h2 h4).elim
     ·have:=r.rV h1;omega
   | none=>
    obtain⟨h1,h2,_⟩:=uo o hD hp
    rw[Ma o hp]at heq
    cases og:posOf mZ o' with
    | some i'=>
     have iS:=jL og
     rw[mo i' o' iS]at heq
     rcases muc i' o' iS with ⟨h3,h4,h5⟩|h3
     ·rw [h5]at heq
      have:=r.inj o o' h1 h3 heq
      subst this;exact(h2 h4).elim
     ·have:=r.rV h1;omega
    |none=>
     obtain⟨uq,_,_⟩:=uo o' Cg og
     rw[Ma o' og]at heq
     exact r.inj o o' h1 uq heq
  ·rcases lv t ⟨n,hn⟩with ⟨i,hi,hl⟩ | ⟨hp,hl,py⟩
   ·rw [mt i t hi, ← mG]
    exact r'.tok i n (by rw[← (ft i t hi).2.1];exact hn)
   ·obtain⟨_,_,h3⟩:=ut t (List.getElem?_eq_some_iff.1 hn).1 hp
    rw[h3]at hn
    rw[Mb t hp]
    rcases r.tok t n hn with h4|⟨b,cap,size,vs,T,g1,g2,g3,g4,g5⟩
    ·exact .inl h4
    ·obtain⟨k1,k2⟩:=ajX t b cap size hl py g1
     exact .inr ⟨b,cap,size,vs,T,g1,by rw[k1];exact g2,g3,g4,fun off ho=>by rw[← mG,k2 off];exact g5.1 off ho,g5.2⟩
  ·rcases lv t hl with ⟨i,hi,mF⟩ | ⟨hp,mF,py⟩
   ·rw [mt i t hi]at hb
    cases Md:posOf mZ o with
    |some j=>
     have hj:=jL Md
     rw[mo j o hj]
     exact r'.fM i b c z j mF hb (fo j o hj).2.2.1
    |none=>
     obtain⟨h1,h2,_⟩:=uo o hD Md
     rw[Ma o Md]
     rcases bec i t b c z hi mF hb with ⟨h3,_,c',z',h4⟩|h3
     ·exact r.fM t b c' z' o h3 h4 h1
     ·have:=r.rV h1;omega
   ·rw [Mb t hp]at hb
    cases Md:posOf mZ o with
    |some j=>
     have hj:=jL Md
     rw[mo j o hj]
     rcases muc j o hj with ⟨h3,_,h5⟩|h3
     ·rw[h5];exact r.fM t b c z o mF hb h3
     ·have:=r.uV mF hb;omega
    |none=>
     obtain⟨h1,_,_⟩:=uo o hD Md
     rw[Ma o Md];exact r.fM t b c z o mF hb h1
  ·rcases lv t hl with ⟨i,hi,Cj⟩ | ⟨hp,hD,py⟩
   ·rw [mt i t hi]at hb
    rcases lv t' mF with ⟨i',iS,XS⟩|⟨og,Cg,aaZ⟩
    ·rw [mt i' t' iS]at uj
     have:=r'.gN i i' b c z c' z' Cj XS hb uj
     subst this
     rw[hi]at iS;cases iS;rfl
    ·rw [Mb t' og]at uj
     rcases bec i t b c z hi Cj hb with ⟨h3,h4,c2,z2,h5⟩|h3
     ·have:=r.gN t t' b c2 z2 c' z' h3 Cg h5 uj
      subst this;exact(aaZ h4).elim
     ·have:=r.uV Cg uj;omega
   ·rw [Mb t hp]at hb
    rcases lv t' mF with ⟨i',iS,XS⟩|⟨og,Cg,aaZ⟩
    ·rw [mt i' t' iS]at uj
     rcases bec i' t' b c' z' iS XS uj with ⟨h3,h4,c2,z2,h5⟩|h3
     ·have:=r.gN t t' b c z c2 z2 hD h3 hb h5
      subst this;exact(py h4).elim
     ·have:=r.uV hD hb;omega
    ·rw [Mb t' og]at uj
     exact r.gN t t' b c z c' z' hD Cg hb uj
end Go.Abs
namespace Go.Abs
def Wk (d d':D):Prop:=∀ (M:Map) (s:St) (v:Value),RD M s d v→RD M s d' v
inductive kh:List D→List D→Prop where
 |nil:kh [] []
 |cons {d d':D} {l l':List D} (h:Wk d d') (t:kh l l'):kh (d::l) (d'::l')
inductive il:List (List D)→List (List D)→Prop where
 |nil:il [] []
 |cons {r r':List D} {l l':List (List D)} (h:kh r r') (t:il l l'):il (r::l) (r'::l')
theorem Wk.refl (d:D):Wk d d:=fun _ _ _ h=>h
theorem Wk.trans {a b c:D} (h:Wk a b) (k:Wk b c):Wk a c:=fun M s v r=>k M s v (h M s v r)
theorem Wk.junk (d:D):Wk d .junk:=fun _ _ v _=> .junk v
theorem kh.refl : ∀ l,kh l l
 | []=> .nil
 |d::l=> .cons (Wk.refl d) (kh.refl l)
theorem il.refl : ∀ l,il l l
 | []=> .nil
 |d::l=> .cons (kh.refl d) (il.refl l)
theorem kh.len {l l':List D} (h:kh l l'):l.length=l'.length:=by
 induction h with
 |nil=>rfl
 |cons _ _ ih=>simp[ih]
theorem il.len {l l':List (List D)} (h:il l l'):l.length=l'.length:=by
 induction h with
 |nil=>rfl
 |cons _ _ ih=>simp[ih]
theorem kh.get {l l':List D} (h:kh l l') : ∀ {i:Nat} {d':D},l'[i]? = some d'→∃ d,l[i]? = some d∧Wk d d':=by
 induction h with
 |nil=>intro i d' e;simp at e
 |cons hd _ ih=>
  intro i d' e
  cases i with
  |zero=>simp at e;subst e;exact⟨_,rfl,hd⟩
  |succ i=>simp at e;simpa using ih e
theorem il.get {l l':List (List D)} (h:il l l') : ∀ {i:Nat} {d':List D},l'[i]? = some d'→∃ d,l[i]? = some d∧kh d d':=by
 induction h with
 |nil=>intro i d' e;simp at e
 |cons hd _ ih=>
  intro i d' e
  cases i with
  |zero=>simp at e;subst e;exact⟨_,rfl,hd⟩
  |succ i=>simp at e;simpa using ih e
theorem kh.append {a a' b b':List D} (h:kh a a') (k:kh b b'):kh (a++b) (a'++b'):=by
 induction h with
 |nil=>exact k
 |cons hd _ ih=>exact .cons hd ih
theorem il.append {a a' b b':List (List D)} (h:il a a') (k:il b b'):il (a++b) (a'++b'):=by
 induction h with
 |nil=>exact k
 |cons hd _ ih=>exact .cons hd ih
theorem Wk.agg {l l':List D} (h:kh l l'):Wk (.agg l) (.agg l'):=by
 intro M s v r
 cases r with
 |agg _ vs hl h1 hr=>
  refine .agg _ vs (by rw[← hl,h.len]) h1 fun i d' u e e2=>?_
  obtain⟨d,e1,hw⟩:=h.get e
  exact hw M s u (hr i d u e1 e2)
theorem Wk.tuple {l l':List D} (h:kh l l'):Wk (.tuple l) (.tuple l'):=by
 intro M s v r
 cases r with
 |tuple _ vs hl hr=>
  refine .tuple _ vs (by rw[← hl,h.len]) fun i d' u e e2=>?_
  obtain⟨d,e1,hw⟩:=h.get e
  exact hw M s u (hr i d u e1 e2)
theorem Wk.rows {g:Tag} {z:Nat} {l l':List (List D)} (h:il l l'):Wk (.slice g z l) (.slice g z l'):=by
 intro M s v r
 cases r with
 |jE _ _ cap hc ht=>cases h;exact .jE _ _ _ hc ht
 |mD _ a cap=>cases h;exact .mD _ a cap
 | slice _ _ _ b k cap hl hs h1 h2 ht=>
  rw[h.len]
  refine .slice g z l' b k cap (by rw[← h.len];exact hl) (fun row hm=>?_) (fun i row j d e e2=>?_) (fun i row j d u e e2 eu=>?_) (by rw[← h.len];exact ht)
  ·obtain⟨i,hi,he⟩:=List.mem_iff_getElem.1 hm
   obtain⟨r0,g1,g2⟩:=h.get (i:=i) (by rw[List.getElem?_eq_getElem hi,he])
   rw[← g2.len];exact hs r0 (List.mem_of_getElem? g1)
  ·obtain⟨r0,g1,g2⟩:=h.get e
   obtain⟨d0,g3,_⟩:=g2.get e2
   exact h1 i r0 j d0 g1 g3
  ·obtain⟨r0,g1,g2⟩:=h.get e
   obtain⟨d0,g3,g4⟩:=g2.get e2
   exact g4 M s u (h2 i r0 j d0 u g1 g3 eu)
theorem Wk.shared (g:Tag) (z:Nat) (l:List (List D)):Wk (.slice g z l) (.slice .shared z l):=by
 intro M s v r
 cases r with
 |jE _ _ cap hc ht=>exact .jE _ _ _ hc trivial
 |mD _ a cap=>exact .mD _ a cap
 |slice _ _ _ b k cap hl hs h1 h2 ht=>exact .slice _ _ _ b k cap hl hs h1 h2 trivial
theorem Wk.slice {g:Tag} {z:Nat} {l l':List (List D)} (h:il l l'):Wk (.slice g z l) (.slice .shared z l'):=(Wk.shared g z l).trans (Wk.rows h)
theorem Wk.nil (g:Tag) (z z':Nat):Wk (.slice g z []) (.slice .shared z' []):=by
 intro M s v r
 cases r with
 |jE _ _ cap hc ht=>exact .jE _ _ _ hc trivial
 |mD _ a cap=>exact .mD _ a cap
 |slice _ _ _ b k cap hl hs h1 h2 ht=>exact .slice _ _ [] b k cap hl (by simp) (by simp) (by simp) trivial
theorem Wk.aoy (z z':Nat):Wk (.slice .full z []) (.slice .full z' []):=by
 intro M s v r
 cases r with
 |jE _ _ cap hc ht=>exact .jE _ _ _ hc ht
 |slice _ _ _ b k cap hl hs h1 h2 ht=>exact .slice _ _ [] b k cap hl (by simp) (by simp) (by simp) ht
theorem Rel.qA {M:Map} {s:St} {w:World} {al:List (List D)} (r:Rel M s w) (h:il s.al al):Rel M ⟨al,s.aA⟩ w∧Le M s M ⟨al,s.aA⟩:=by
 have le:Le M s M ⟨al,s.aA⟩:=⟨fun _ _ _ h=>h,Nat.le_of_eq h.len,fun _ _=> .refl _,Nat.le_refl _,fun t n' _ e=>⟨n',e,Nat.le_refl _,fun _=>rfl⟩⟩
 have hl:=h.len
 refine⟨⟨r.comm,fun o ds e=>?_,fun o ho=>r.j7 o (by rw[hl];exact ho),fun o o' ho o8=>r.inj o o' (by rw[hl];exact ho) (by rw[hl];exact o8),r.tok,
  fun t b c z o hv e ho=>r.fM t b c z o hv e (by rw[hl];exact ho),r.gN⟩,le⟩
 obtain⟨Me,g1,g2⟩:=h.get e
 obtain⟨vs,T,h1,h2,h3,h4⟩:=r.obj o Me g1
 refine⟨vs,T,h1,by rw[h2,g2.len],h3,fun i d v e1 e2=>?_⟩
 obtain⟨d0,k1,k2⟩:=g2.get e1
 exact(k2 _ _ _ (h4 i d0 v k1 e2)).mono le
theorem Rel.blank {M:Map} {s:St} {w:World} (r:Rel M s w) :
 Rel (M.fN s.aA.length none) {s with aA:=s.aA++ [some 0]} w∧Le M s (M.fN s.aA.length none) {s with aA:=s.aA++ [some 0]}:=by
 have jx : ∀ t,St.live {s with aA:=s.aA++ [some 0]} t→s.live t∨t=s.aA.length:=by
  rintro t ⟨k,hk⟩
  rcases Nat.lt_or_ge t s.aA.length with h|h
  ·rw[List.getElem?_append_left h]at hk;exact .inl ⟨k,hk⟩
  ·have:=(List.getElem?_eq_some_iff.1 hk).1
   simp at this;exact .inr (by omega)
 have hD : ∀ t,s.live t→t<s.aA.length:=fun t ⟨k,hk⟩=>(List.getElem?_eq_some_iff.1 hk).1
 have hold : ∀ t,t<s.aA.length→(M.fN s.aA.length none).be t=M.be t:=fun t h=>by simp[Map.fN];omega
 have dA:(M.fN s.aA.length none).be s.aA.length=none:=by simp[Map.fN]
 have le:Le M s (M.fN s.aA.length none) {s with aA:=s.aA++ [some 0]}:=
  ⟨fun _ _ _ h=>h,Nat.le_refl _,fun _ _=> .refl _,by simp,fun t k h e=>by
   rw[List.getElem?_append_left h]at e
   exact⟨k,e,Nat.le_refl _,fun _=>hold t h⟩⟩
 refine⟨⟨r.comm,fun o ds e=>?_,r.j7,r.inj,fun t k e=>?_,fun t b' c z o hl e o8=>?_,fun t t' b' c z c' z' h h' e e'=>?_⟩,le⟩
 ·obtain⟨gk,T',h3,h4,h5,h6⟩:=r.obj o ds e
  exact⟨gk,T',h3,h4,h5,fun i d v e1 e2=>(h6 i d v e1 e2).mono le⟩
 ·rcases Nat.lt_or_ge t s.aA.length with h | h
  ·rw [List.getElem?_append_left h]at e
   rw[hold t h];exact r.tok t k e
  ·have:=(List.getElem?_eq_some_iff.1 e).1
   simp at this
   have:t=s.aA.length:=by omega
   subst this
   simp at e;subst e
   exact .inl ⟨dA,rfl⟩
 ·rcases jx t hl with h | h
  ·rw[hold t (hD t h)]at e;exact r.fM t b' c z o h e o8
  ·subst h;rw[dA]at e;cases e
 ·rcases jx t h with h | h <;> rcases jx t' h' with h' | h'
  ·rw[hold t (hD t h)]at e;rw[hold t' (hD t' h')]at e';exact r.gN t t' b' c z c' z' h h' e e'
  ·subst h';rw[dA]at e';cases e'
  ·subst h;rw[dA]at e;cases e
  ·omega
theorem RD.own {M:Map} {s:St} {z z':Nat} {v:Value} (h:RD M s (.slice .full z []) v):RD (M.fN s.aA.length none) {s with aA:=s.aA++ [some 0]} (.slice (.tok s.aA.length) z' []) v:=by
 have key : ∀ base:Option (Nat×Nat),jJ (M.fN s.aA.length none) {s with aA:=s.aA++ [some 0]} (.tok s.aA.length) z' 0 base 0:=by
  intro base
  refine⟨by simp,fun n e=>?_⟩
  simp at e
  subst e
  exact⟨Nat.le_refl _,fun _=> .inl ⟨by simp[Map.fN],rfl,fun h=>by cases h⟩⟩
 cases h with
 |jE _ _ cap hc ht=>subst hc;exact .jE _ _ _ rfl (key none)
 |slice _ _ _ b k cap hl hs h1 h2 ht=>
  have:cap=0:=ht
  subst this
  exact .slice _ _ [] b k 0 (Nat.le_refl _) (by simp) (by simp) (by simp) (key _)
section
variable {P:Program} {B:gW} {nt:Nat} {Q:Exit→Tm→St→Prop} {tm:Tm} {s:St}
theorem Sem.wkO {ac:AC} (al:List (List D)) (hw:il s.al al) (h:Sem P B nt ac Q tm ⟨al,s.aA⟩):Sem P B nt ac Q tm s:=by
 intro c hc act w ⟨M,e,r,ht,h1,h2⟩
 obtain⟨r',le⟩:=r.qA hw
 refine h c hc act w ⟨M,e.trans ⟨le,fun _ _ _ _=>rfl,fun o h1 h2=>?_,fun t b c z hl e=> .inl ⟨hl,c,z,e⟩,fun _ _ h=>(h rfl).elim,Nat.le_refl _,rfl,rfl,rfl⟩,r',fun k=>(ht k).mono le,h1,h2⟩
 simp only[← hw.len]at h2
 exact h1.elim (fun h1=>absurd h2 (Nat.not_lt.2 h1)) fun h1=>(h1 rfl).elim
theorem JL {M0 M:Map} {s0 s:St} {w0 w:World} (e:Ext M0 s0 w0 M s w) (le:Le M s (M.fN s.aA.length none) {s with aA:=s.aA++ [some 0]}) :
 Ext M0 s0 w0 (M.fN s.aA.length none) {s with aA:=s.aA++ [some 0]} w:=by
 refine e.trans ⟨le,fun _ _ _ _=>rfl,fun o h1 h2=>h1.elim (fun h1=>absurd h2 (Nat.not_lt.2 h1)) (fun h1=>(h1 rfl).elim),fun t b c z hl eq=>?_,fun _ _ h=>(h rfl).elim,Nat.le_refl _,rfl,rfl,rfl⟩
 obtain⟨k,hk⟩:=hl
 rcases Nat.lt_or_ge t s.aA.length with h|h
 ·refine .inl ⟨⟨k,by rw [List.getElem?_append_left h]at hk;exact hk⟩,c,z, ?_⟩
  have:(M.fN s.aA.length none).be t=M.be t:=by simp[Map.fN];omega
  rw[← this];exact eq
 ·have:=(List.getElem?_eq_some_iff.1 hk).1
  simp at this
  have:t=s.aA.length:=by omega
  subst this
  simp[Map.fN]at eq
end
def aH (P:Program) (f:Nat) (args:List D) (s:St) (d:D) (s':St):Prop:=bV P f args s fun x y=>x=d∧y=s'
def rB (n m:Nat) (res:List (Nat×Option (Bool×Nat))) (d:D) (s':St):Exit→Tm→St→Prop
 | .normal,tm,s| .ret,tm,s=>∃ l,bh res tm s=some l∧Wk ((bj l).fg n m) d∧il (s.cut n m).al s'.al∧(s.cut n m).aA=s'.aA
 |_,_,_=>False
theorem bV.qA {P:Program} {f:FuncId} {args GX:List D} {s:St} {Q:D→St→Prop} (ha:kh args GX) (h:bV P f GX s Q):bV P f args s Q:=
 fun M w gv r kN hl hr=>h M w gv r kN (by rw[hl,ha.len]) fun i d v e1 e2=>by
  obtain⟨d0,g1,g2⟩:=ha.get e1
  exact g2 _ _ _ (hr i d0 v g1 e2)
theorem bV.Ll {P:Program} {f:FuncId} {args:List D} {s:St} {Q Q':D→St→Prop} (h:bV P f args s Q) (hq : ∀ d s1,Q d s1→∃ d' s',Wk d d'∧il s1.al s'.al∧s1.aA=s'.aA∧Q' d' s'):bV P f args s Q':=
 fun M w gv r kN hl ha=>(h M w gv r kN hl ha).mono fun _ _ ⟨M',d,v,s1,h1,h2,h3,h4,h5⟩=>by
  obtain⟨d',s',g1,g2,g3,g4⟩:=hq d s1 h2
  obtain⟨r',le⟩:=h4.qA g2
  have hs:(⟨s'.al,s1.aA⟩:St)=s':=by rw[g3]
  rw[hs]at r' le
  refine⟨M',d',v,s',h1,g4,h3.trans ⟨le,fun _ _ _ _=>rfl,fun o h1 h2=>?_,fun t b c z hl e=> .inl ⟨by obtain⟨n,hn⟩:=hl;exact⟨n,by rw[g3];exact hn⟩,c,z,e⟩,fun _ _ h=>(h rfl).elim,Nat.le_refl _,rfl,rfl,rfl⟩,r',(g1 _ _ _ h5).mono le⟩
  rw[← g2.len]at h2
  exact h1.elim (fun h1=>absurd h2 (Nat.not_lt.2 h1)) fun h1=>(h1 rfl).elim
theorem aH.intro {P:Program} {f:FuncId} {af:AF} {args:List D} {s:St} {d:D} {s':St} (h0 : ∃ fn,P.funcs[f]? = some fn∧cF P fn=some af) (hl:args.length≤af.ntmps)
 (h : ∀ B:gW,B.s=s→Sem P B af.ntmps af.body (rB s.al.length s.aA.length af.results d s') (oc 0 args) s):aH P f args s d s':=by
 obtain⟨fn,hf,hc⟩:=h0
 refine bV.Ll (bV.intro (Q:=fun d1 s1=>Wk d1 d∧il s1.al s'.al∧s1.aA=s'.aA) hf hc hl fun B hB=>(h B hB).mono fun e tm s1 hr=>?_) fun d1 s1 ⟨h1,h2,h3⟩=>⟨d,s',h1,h2,h3,rfl,rfl⟩
 subst hB
 cases e with
 |normal=>obtain⟨l,h1,h2,h3,h4⟩:=hr;exact⟨l,h1,_,_,Nat.le_refl _,Nat.le_refl _,h2,h3,h4⟩
 |ret=>obtain⟨l,h1,h2,h3,h4⟩:=hr;exact⟨l,h1,_,_,Nat.le_refl _,Nat.le_refl _,h2,h3,h4⟩
 |exit id=>exact hr.elim
 |goto l=>exact hr.elim
 |panic ch=>exact hr.elim
 |outgrown=>exact hr.elim
theorem aH.use {P:Program} {f:FuncId} {args:List D} {s:St} {d:D} {s':St} {Q:D→St→Prop} (h:aH P f args s d s') (hq:Q d s'):bV P f args s Q:=
 bV.mono h fun x y ⟨h1,h2⟩=>by subst h1;subst h2;exact hq
mutual
theorem sn (os ts:List Nat) : ∀ d,D.ok 0 0 d=true→D.cU os ts d=d
 | .junk,_=>by simp[D.cU]
 | .int k n,_=>by simp[D.cU]
 | .bool b,_=>by simp[D.cU]
 | .str l,_=>by simp[D.cU]
 | .eW,_=>by simp[D.cU]
 | .val v,_=>by simp[D.cU]
 | .ga T o,h=>by simp[D.ok]at h
 | .gR o,h=>by simp[D.ok]at h
 | .dS z o g len,h=>by simp[D.ok]at h
 | .gb o g off,h=>by simp[D.ok]at h
 | .ff z,_=>by simp[D.cU]
 | .ij f cs,h=>by
  simp only[D.ok]at h
  simp only[D.cU,fV os ts cs h]
 | .ptr o f,h=>by simp[D.ok]at h
 | .dR r f,h=>by
  simp only[D.ok]at h
  simp only[D.cU,fV os ts r h]
 | .slice g z rows,h=>by
  simp only[D.ok,Bool.and_eq_true]at h
  simp only[D.cU,jY os ts rows h.2]
  cases g with
  |tok t y=>simp[Tag.ok]at h
  |full=>rfl
  |shared=>rfl
 | .agg cs,h=>by
  simp only[D.ok]at h
  simp only[D.cU,fV os ts cs h]
 | .tuple cs,h=>by
  simp only[D.ok]at h
  simp only[D.cU,fV os ts cs h]
theorem fV (os ts:List Nat) : ∀ l,D.bM 0 0 l=true→D.fa os ts l=l
 | [],_=>by simp[D.fa]
 |d::r,h=>by
  simp only[D.bM,Bool.and_eq_true]at h
  simp only[D.fa,sn os ts d h.1,fV os ts r h.2]
theorem jY (os ts:List Nat) : ∀ l,D.jb 0 0 l=true→D.px os ts l=l
 | [],_=>by simp[D.px]
 |d::r,h=>by
  simp only[D.jb,Bool.and_eq_true]at h
  simp only[D.px,fV os ts d h.1,jY os ts r h.2]
end
mutual
theorem IK {n m n' m':Nat} (hn:n≤n') (hm:m≤m') : ∀ d,D.ok n m d=true→D.ok n' m' d=true
 | .junk,_=>rfl
 | .int k n,_=>rfl
 | .bool b,_=>rfl
 | .str l,_=>rfl
 | .eW,_=>rfl
 | .val v,_=>rfl
 | .ga T o,h=>by simp[D.ok]at h ⊢;omega
 | .gR o,h=>by simp[D.ok]at h ⊢;omega
 | .dS z o g len,h=>by simp[D.ok]at h ⊢;omega
 | .gb o g off,h=>by simp[D.ok]at h ⊢;omega
 | .ff z,_=>rfl
 | .ij f cs,h=>by
  simp only[D.ok]at h ⊢
  exact jr hn hm cs h
 | .ptr o f,h=>by simp only[D.ok,decide_eq_true_eq]at h ⊢;omega
 | .dR r f,h=>by
  simp only[D.ok]at h ⊢
  exact jr hn hm r h
 | .slice g z rows,h=>by
  simp only[D.ok,Bool.and_eq_true]at h ⊢
  refine⟨?_,nN hn hm rows h.2⟩
  cases g with
  |tok t y=>simp only[Tag.ok,decide_eq_true_eq]at h ⊢;omega
  |full=>rfl
  |shared=>rfl
 | .agg cs,h=>by
  simp only[D.ok]at h ⊢
  exact jr hn hm cs h
 | .tuple cs,h=>by
  simp only[D.ok]at h ⊢
  exact jr hn hm cs h
theorem jr {n m n' m':Nat} (hn:n≤n') (hm:m≤m') : ∀ l,D.bM n m l=true→D.bM n' m' l=true
 | [],_=>rfl
 |d::r,h=>by
  simp only[D.bM,Bool.and_eq_true]at h ⊢
  exact⟨IK hn hm d h.1,jr hn hm r h.2⟩
theorem nN {n m n' m':Nat} (hn:n≤n') (hm:m≤m') : ∀ l,D.jb n m l=true→D.jb n' m' l=true
 | [],_=>rfl
 |d::r,h=>by
  simp only[D.jb,Bool.and_eq_true]at h ⊢
  exact⟨jr hn hm d h.1,nN hn hm r h.2⟩
end
def S0:St:=⟨[],[]⟩
section
variable {P:Program} {f:Nat}
theorem aH.pure {args:List D} {d:D} (h:aH P f args S0 d S0) (ha:D.bM 0 0 args=true) (hd:D.ok 0 0 d=true) (s:St):aH P f args s d s:=by
 refine bV.frame [] [] h List.nodup_nil List.nodup_nil (by simp) (by simp) rfl (by simp) rfl (by simp) (by rw[fV _ _ _ ha]) ha ?_
 rintro _ _ ⟨rfl,rfl⟩
 refine⟨sn _ _ _ hd, ?_⟩
 simp[St.back,lq,S0]
theorem aH.XT {args row ll:List D} {d:D} (h:aH P f (.ptr 0 0::args) ⟨[row],[]⟩ d ⟨[ll],[]⟩) (ha:D.bM 0 0 args=true) (hr:D.bM 0 0 row=true) (Uy:D.bM 0 0 ll=true) (hd:D.ok 0 0 d=true)
 {s:St} {o:Nat} (ho:s.al[o]? = some row):aH P f (.ptr o 0::args) s d ⟨s.al.set o ll,s.aA⟩:=by
 refine bV.frame [o] [] h (by simp) List.nodup_nil (by simpa using (List.getElem?_eq_some_iff.1 ho).1) (by simp) rfl (fun i o' ds e1 e2=>?_) rfl (by simp) (by simp[D.fa,D.cU,fV _ _ _ ha])
  (by simp[D.bM,D.ok,jr (Nat.zero_le 1) (Nat.le_refl 0) _ ha]) ?_
 ·cases i with
  |zero=>simp at e1 e2;subst e1;subst e2;exact⟨by rw[fV _ _ _ hr];exact ho,jr (Nat.zero_le 1) (Nat.le_refl 0) _ hr⟩
  |succ i=>simp at e1
 ·rintro _ _ ⟨rfl,rfl⟩
  refine⟨sn _ _ _ hd, ?_⟩
  simp[St.back,lq,fV _ _ _ Uy]
end
end Go.Abs
namespace Go.Abs
theorem X.cG {x:X} {tm bJ:Tm} (h : ∀ t∈x.reads,tm.get t=bJ.get t):x.ev tm=x.ev bJ:=by
 cases x with
 |s t=>exact h t (by simp[X.reads])
 |k d=>rfl
theorem s6 {t:Nat} {x:X} : ∀ {l:List X},x∈l→t∈x.reads→t∈pL l
 | [],h,_=>by cases h
 |y::r,h,ht=>by
  simp only[pL,List.mem_append]
  rcases List.mem_cons.1 h with rfl|h
  ·exact .inl ht
  ·exact .inr (s6 h ht)
theorem yv {x:Option X} {tm bJ:Tm} (h : ∀ t∈CW x,tm.get t=bJ.get t):x.map (·.ev tm)=x.map (·.ev bJ):=by
 cases x with
 |none=>rfl
 |some y=>simp only[Option.map_some];rw[X.cG h]
theorem Fc {o:AO} {tm bJ:Tm} {s:St} (h : ∀ t∈o.reads,tm.get t=bJ.get t):aV o tm s=aV o bJ s:=by
 cases o with
 |mv x=>
  have hx:x.ev tm=x.ev bJ:=X.cG fun t ht=>h t (by simp[AO.reads,ht])
  simp only[aV,hx]
 |pick c a b=>
  have hc:c.ev tm=c.ev bJ:=X.cG fun t ht=>h t (by simp[AO.reads,ht])
  have ha:a.ev tm=a.ev bJ:=X.cG fun t ht=>h t (by simp[AO.reads,ht])
  have hb:b.ev tm=b.ev bJ:=X.cG fun t ht=>h t (by simp[AO.reads,ht])
  simp only[aV,hc,ha,hb]
 |alloc z=>
  rfl
 |vn z T=>rfl
 |CQ x T=>
  have hx:x.ev tm=x.ev bJ:=X.cG fun t ht=>h t (by simp[AO.reads,ht])
  simp only[aV,hx]
 |CS x y=>
  have hx:x.ev tm=x.ev bJ:=X.cG fun t ht=>h t (by simp[AO.reads,ht])
  have hy:y.ev tm=y.ev bJ:=X.cG fun t ht=>h t (by simp[AO.reads,ht])
  simp only[aV,hx,hy]
 |apps x y=>
  have hx:x.ev tm=x.ev bJ:=X.cG fun t ht=>h t (by simp[AO.reads,ht])
  have hy:y.ev tm=y.ev bJ:=X.cG fun t ht=>h t (by simp[AO.reads,ht])
  simp only[aV,hx,hy]
 |box x=>
  have hx:x.ev tm=x.ev bJ:=X.cG fun t ht=>h t (by simp[AO.reads,ht])
  simp only[aV,hx]
 |CN x=>
  have hx:x.ev tm=x.ev bJ:=X.cG fun t ht=>h t (by simp[AO.reads,ht])
  simp only[aV,hx]
 |load x g n=>
  have hx:x.ev tm=x.ev bJ:=X.cG fun t ht=>h t (by simp[AO.reads,ht])
  simp only[aV,hx]
 |store p x n=>
  have hp:p.ev tm=p.ev bJ:=X.cG fun t ht=>h t (by simp[AO.reads,ht])
  have hx:x.ev tm=x.ev bJ:=X.cG fun t ht=>h t (by simp[AO.reads,ht])
  simp only[aV,hp,hx]
 |cz x=>
  have hx:x.ev tm=x.ev bJ:=X.cG fun t ht=>h t (by simp[AO.reads,ht])
  simp only[aV,hx]
 |bin op x y=>
  have hx:x.ev tm=x.ev bJ:=X.cG fun t ht=>h t (by simp[AO.reads,ht])
  have hy:y.ev tm=y.ev bJ:=X.cG fun t ht=>h t (by simp[AO.reads,ht])
  simp only[aV,hx,hy]
 |Ju n x y=>
  have hx:x.ev tm=x.ev bJ:=X.cG fun t ht=>h t (by simp[AO.reads,ht])
  have hy:y.ev tm=y.ev bJ:=X.cG fun t ht=>h t (by simp[AO.reads,ht])
  simp only[aV,hx,hy]
 |eqs n ks x y=>
  have hx:x.ev tm=x.ev bJ:=X.cG fun t ht=>h t (by simp[AO.reads,ht])
  have hy:y.ev tm=y.ev bJ:=X.cG fun t ht=>h t (by simp[AO.reads,ht])
  simp only[aV,hx,hy]
 |Jv n x y=>
  have hx:x.ev tm=x.ev bJ:=X.cG fun t ht=>h t (by simp[AO.reads,ht])
  have hy:y.ev tm=y.ev bJ:=X.cG fun t ht=>h t (by simp[AO.reads,ht])
  simp only[aV,hx,hy]
 |un op x=>
  have hx:x.ev tm=x.ev bJ:=X.cG fun t ht=>h t (by simp[AO.reads,ht])
  simp only[aV,hx]
 |conv k x=>
  have hx:x.ev tm=x.ev bJ:=X.cG fun t ht=>h t (by simp[AO.reads,ht])
  simp only[aV,hx]
 |Gv x=>
  have hx:x.ev tm=x.ev bJ:=X.cG fun t ht=>h t (by simp[AO.reads,ht])
  simp only[aV,hx]
 |Ab x=>
  have hx:x.ev tm=x.ev bJ:=X.cG fun t ht=>h t (by simp[AO.reads,ht])
  simp only[aV,hx]
 |aw x n=>
  have hx:x.ev tm=x.ev bJ:=X.cG fun t ht=>h t (by simp[AO.reads,ht])
  simp only[aV,hx]
 |E4 x n g m=>
  have hx:x.ev tm=x.ev bJ:=X.cG fun t ht=>h t (by simp[AO.reads,ht])
  simp only[aV,hx]
 |cH x i n=>
  have hx:x.ev tm=x.ev bJ:=X.cG fun t ht=>h t (by simp[AO.reads,ht])
  have hi:i.ev tm=i.ev bJ:=X.cG fun t ht=>h t (by simp[AO.reads,ht])
  simp only[aV,hx,hi]
 |CP x i=>
  have hx:x.ev tm=x.ev bJ:=X.cG fun t ht=>h t (by simp[AO.reads,ht])
  have hi:i.ev tm=i.ev bJ:=X.cG fun t ht=>h t (by simp[AO.reads,ht])
  simp only[aV,hx,hi]
 |ext x i=>
  have hx:x.ev tm=x.ev bJ:=X.cG fun t ht=>h t (by simp[AO.reads,ht])
  simp only[aV,hx]
 |len x=>
  have hx:x.ev tm=x.ev bJ:=X.cG fun t ht=>h t (by simp[AO.reads,ht])
  simp only[aV,hx]
 |w7 x=>
  have hx:x.ev tm=x.ev bJ:=X.cG fun t ht=>h t (by simp[AO.reads,ht])
  simp only[aV,hx]
 |app a b x y=>
  have hx:x.ev tm=x.ev bJ:=X.cG fun t ht=>h t (by simp[AO.reads,ht])
  have hy:y.ev tm=y.ev bJ:=X.cG fun t ht=>h t (by simp[AO.reads,ht])
  simp only[aV,hx,hy]
 |mm b x y=>
  have hx:x.ev tm=x.ev bJ:=X.cG fun t ht=>h t (by simp[AO.reads,ht])
  have hy:y.ev tm=y.ev bJ:=X.cG fun t ht=>h t (by simp[AO.reads,ht])
  simp only[aV,hx,hy]
 | build z ps=>
  have hp:(ps.map fun p=>(p.1,p.2.1,p.2.2.ev tm))=ps.map fun p=>(p.1,p.2.1,p.2.2.ev bJ):=List.map_congr_left fun p hp=>by
   have:p.2.2.ev tm=p.2.2.ev bJ:=X.cG fun t ht=>h t (by simp only[AO.reads];exact s6 (List.mem_map_of_mem hp) ht)
   rw[this]
  simp only[aV,hp]
 | dv z m n ps=>
  have hp:(ps.map fun p=>(p.1,p.2.ev tm))=ps.map fun p=>(p.1,p.2.ev bJ):=List.map_congr_left fun p hp=>by
   have:p.2.ev tm=p.2.ev bJ:=X.cG fun t ht=>h t (by simp only[AO.reads];exact s6 (List.mem_map_of_mem hp) ht)
   rw[this]
  simp only[aV,hp]
 | w6 z m n ps=>
  have hp:(ps.map fun p=>(p.1,p.2.ev tm))=ps.map fun p=>(p.1,p.2.ev bJ):=List.map_congr_left fun p hp=>by
   have:p.2.ev tm=p.2.ev bJ:=X.cG fun t ht=>h t (by simp only[AO.reads];exact s6 (List.mem_map_of_mem hp) ht)
   rw[this]
  simp only[aV,hp]
 |CO n x lo hi=>
  have hx:x.ev tm=x.ev bJ:=X.cG fun t ht=>h t (by simp[AO.reads,ht])
  have hl:lo.map (·.ev tm)=lo.map (·.ev bJ):=yv fun t ht=>h t (by simp[AO.reads,ht])
  have hh:hi.map (·.ev tm)=hi.map (·.ev bJ):=yv fun t ht=>h t (by simp[AO.reads,ht])
  simp only[aV,hx,hl,hh]
 |LA x lo hi=>
  have hx:x.ev tm=x.ev bJ:=X.cG fun t ht=>h t (by simp[AO.reads,ht])
  have hl:lo.map (·.ev tm)=lo.map (·.ev bJ):=yv fun t ht=>h t (by simp[AO.reads,ht])
  have hh:hi.map (·.ev tm)=hi.map (·.ev bJ):=yv fun t ht=>h t (by simp[AO.reads,ht])
  simp only[aV,hx,hl,hh]
 |wG f xs=>
  have hp:(xs.map fun x=>x.ev tm)=xs.map fun x=>x.ev bJ:=List.map_congr_left fun x hx=>X.cG fun t ht=>h t (by simp only[AO.reads];exact s6 hx ht)
  simp only[aV,hp]
 |wH=>rfl
 |A0 m k v=>
  have hm:m.ev tm=m.ev bJ:=X.cG fun t ht=>h t (by simp[AO.reads,ht])
  have hk:k.ev tm=k.ev bJ:=X.cG fun t ht=>h t (by simp[AO.reads,ht])
  have hv:v.ev tm=v.ev bJ:=X.cG fun t ht=>h t (by simp[AO.reads,ht])
  simp only[aV,hm,hk,hv]
 |CT a b z l c=>
  have hl:l.ev tm=l.ev bJ:=X.cG fun t ht=>h t (by simp[AO.reads,ht])
  have hk:c.ev tm=c.ev bJ:=X.cG fun t ht=>h t (by simp[AO.reads,ht])
  simp only[aV,hl,hk]
 |sP o x y=>
  have hx:x.ev tm=x.ev bJ:=X.cG fun t ht=>h t (by simp[AO.reads,ht])
  have hy:y.ev tm=y.ev bJ:=X.cG fun t ht=>h t (by simp[AO.reads,ht])
  simp only[aV,hx,hy]
 |yh m k z=>
  have hm:m.ev tm=m.ev bJ:=X.cG fun t ht=>h t (by simp[AO.reads,ht])
  have hk:k.ev tm=k.ev bJ:=X.cG fun t ht=>h t (by simp[AO.reads,ht])
  simp only[aV,hm,hk]
theorem ON {x d:D} {agg:Bool} {size:Nat} {s s':St} (h:A2 x agg size s=some (d,s')):s'=s:=by
 unfold A2 at h
 (repeat' (split at h))<;>first|(cases h;rfl)|cases h
theorem OO {o:AO} (ho:iQ o.kind=false) {tm:Tm} {s s':St} {d:D} (h:aV o tm s=some (d,s')):s'=s:=by
 cases o<;>simp only[AO.kind,iQ]at ho<;>first|cases ho|skip
 all_goals
  simp only[aV]at h
  first
   |(cases h;rfl)
   |(repeat' (split at h))<;>first|exact ON h|(cases h;rfl)|cases h
theorem Rw {o:AO} (ho:o.kind = .pure) {tm:Tm} {s s':St} : (aV o tm s).map (·.1)=(aV o tm s').map (·.1):=by
 cases o<;>simp only[AO.kind]at ho<;>first|cases ho|skip
 all_goals
  simp only[aV]
  first
   |rfl
   |(repeat' split)<;>rfl
def kR (ai:AI) (tm:Tm) (s:St):Option D:=
 match ai with
 | .op _ none o=>(aV o tm s).map (·.1)
 | .op _ (some (t,want)) o=>
  match tm.get t with
  | .bool b=>if b=want then(aV o tm s).map (·.1)else some (.tuple [])
  | .tuple _=>some (.tuple [])
  |_=>none
 |_=>none
def uZ (P:Program) (ai:AI) (tm:Tm) (s:St) (d:D) (s':St):Prop:=
 match ai with
 | .op _ g o=>guarded g tm (aV o tm s=some (d,s')) (d = .tuple []∧s'=s)
 | .call _ g f xs=>guarded g tm (bV P f (xs.map (·.ev tm)) s fun x y=>x=d∧y=s') (d = .tuple []∧s'=s)
 | .nil .. =>False
 | .kj .. =>False
def lS (P:Program) (is:List AI) (K:Tm→St→Prop):List (Nat×Nat)→List St→Tm→St→Prop
 | [],_,tm,s=>K tm s
 | (q,b)::r,bS,tm,s=>
  match is[q]? with
  |none=>False
  |some ai=>
   match iQ ai.kind with
   |true=>∃ d s',uZ P ai tm s d s'∧lS P is K r (s::bS) (tm.put ai.dst d) s'
   |false=>∃ d,kR ai tm s=some d∧(ai.kind = .load→∀ s'∈bS.take b,kR ai tm s'=some d)∧lS P is K r bS (tm.put ai.dst d) s
def Tm.eqv (a b:Tm):Prop:=∀ t,a.get t=b.get t
theorem Tm.mA (tm:Tm) (dst:Option Nat) (d:D) (t:Nat):(tm.put dst d).get t=if dst=some t then d else tm.get t:=by
 cases dst with
 |none=>simp[Tm.put]
 |some u=>
  simp only[Tm.put,Tm.IC,Option.some.injEq]
  by_cases h:t=u
  ·subst h;simp
  ·rw[if_neg h,if_neg (fun e=>h e.symm)]
theorem Tm.eqv.put {a b:Tm} (h:a.eqv b) (dst:Option Nat) (d:D):(a.put dst d).eqv (b.put dst d):=fun t=>by
 rw[Tm.mA,Tm.mA,h t]
theorem Tm.Mf (tm:Tm) {x y:Option Nat} (h : ∀ t,x=some t→y≠some t) (d e:D):((tm.put x d).put y e).eqv ((tm.put y e).put x d):=fun t=>by
 simp only[Tm.mA]
 by_cases h1:x=some t
 ·simp only[h1,h t h1,if_true,if_false]
 ·simp only[h1,if_false]
theorem Ck {g:Option (Nat×Bool)} {tm bJ:Tm} {A A' C:Prop} (h : ∀ t∈w8 g,tm.get t=bJ.get t) (ha:A→A') (hh:guarded g tm A C):guarded g bJ A' C:=by
 cases g with
 |none=>exact ha hh
 | some p=>
  obtain⟨t,want⟩:=p
  unfold guarded at *
  simp only at *
  rw[← h t (by simp[w8])]
  split
  ·rename_i b hb
   rw[hb]at hh
   exact⟨fun e=>ha (hh.1 e),hh.2⟩
  ·rename_i hb
   rw[hb]at hh
   exact hh
  ·rename_i x h1 h2
   split at hh
   ·exact h1 _ ‹_›
   ·exact h2 _ ‹_›
   ·exact hh
theorem JM {tm bJ:Tm} : ∀ {l:List X},(∀ t∈pL l,tm.get t=bJ.get t)→l.map (·.ev tm)=l.map (·.ev bJ)
 | [],_=>rfl
 |x::r,h=>by
  simp only[List.map_cons]
  rw[X.cG fun t ht=>h t (by simp[pL,ht]),JM (l:=r) fun t ht=>h t (by simp[pL,ht])]
theorem zt {P:Program} {ai:AI} {tm bJ:Tm} {s s':St} {d:D} (h : ∀ t∈ai.reads,tm.get t=bJ.get t) (hh:uZ P ai tm s d s'):uZ P ai bJ s d s':=by
 cases ai with
 |op dst g o=>
  simp only[AI.reads,List.mem_append]at h
  exact Ck (fun t ht=>h t (.inl ht)) (fun e=>by rw[← Fc fun t ht=>h t (.inr ht)];exact e) hh
 |call dst g f xs=>
  simp only[AI.reads,List.mem_append]at h
  exact Ck (fun t ht=>h t (.inl ht)) (fun e=>by rw[← JM fun t ht=>h t (.inr ht)];exact e) hh
 |nil dst g n x=>exact hh
 |kj dst g t xs=>exact hh
theorem sH {ai:AI} {tm bJ:Tm} {s:St} (h : ∀ t∈ai.reads,tm.get t=bJ.get t):kR ai tm s=kR ai bJ s:=by
 cases ai with
 | op dst g o=>
  simp only[AI.reads,List.mem_append]at h
  have he:=Fc (s:=s) fun t ht=>h t (.inr ht)
  cases g with
  |none=>simp only[kR,he]
  |some p=>
   obtain⟨t,want⟩:=p
   simp only[kR,he,h t (.inl (by simp[w8]))]
 |call dst g f xs=>rfl
 |nil dst g n x=>rfl
 |kj dst g t xs=>rfl
theorem PF {dst:Option Nat} {g:Option (Nat×Bool)} {o:AO} (h:iQ (AI.op dst g o).kind=false):(AI.op dst g o).kind=o.kind:=by
 unfold AI.kind at *
 split at h
 ·cases h
 ·rename_i heq;cases heq;rfl
 ·cases h
theorem XU {ai:AI} (hk:ai.kind = .pure) {tm:Tm} {s s':St} : kR ai tm s=kR ai tm s':=by
 cases ai with
 |op dst g o=>
  have ho:o.kind = .pure:=by rw[← hk];exact(PF (by rw[hk];rfl)).symm
  have he:=Rw ho (tm:=tm) (s:=s) (s':=s')
  cases g with
  |none=>simp only[kR,he]
  |some p=>simp only[kR,he]
 |call dst g f xs=>rfl
 |nil dst g n x=>rfl
 |kj dst g t xs=>rfl
theorem apart_spec {a q:AI} (h:a.apart q=true):(∀ t,a.dst=some t→t∉q.reads)∧(∀ t,q.dst=some t→t∉a.reads)∧(∀ t,a.dst=some t→q.dst≠some t):=by
 unfold AI.apart at h
 simp only[Bool.and_eq_true]at h
 obtain⟨⟨h1,h2⟩,h3⟩:=h
 refine⟨fun t e=>?_,fun t e=>?_,fun t e e'=>?_⟩
 ·rw[e]at h1;simpa[Gx]using h1
 ·rw[e]at h2;simpa[Gx]using h2
 ·rw[e,e']at h3;simp at h3
theorem u5 {tm:Tm} {dst:Option Nat} {d:D} {l:List Nat} (h : ∀ t,dst=some t→t∉l) : ∀ t∈l,tm.get t=(tm.put dst d).get t:=fun t ht=>by
 rw[Tm.mA,if_neg fun e=>h t e ht]
section
variable {P:Program} {is:List AI} {K:Tm→St→Prop}
theorem u6 (hK : ∀ tm bJ s,Tm.eqv tm bJ→K tm s→K bJ s) : ∀ (R:List (Nat×Nat)) (bS:List St) (tm bJ:Tm) (s:St),tm.eqv bJ→lS P is K R bS tm s→lS P is K R bS bJ s
 | [],_,tm,bJ,s,e,h=>hK tm bJ s e h
 | (q,b)::R,bS,tm,bJ,s,e,h=>by
  unfold lS at *
  split at h
  ·exact h.elim
  ·rename_i ai yu
   split at h
   ·rename_i hc
    obtain⟨d,s',h1,h2⟩:=h
    exact⟨d,s',zt (fun t _=>e t) h1,u6 hK R _ _ _ _ (e.put _ d) h2⟩
   ·rename_i hc
    obtain⟨d,h1,h2,h3⟩:=h
    refine⟨d, ?_,fun hl s' oq=>?_,u6 hK R _ _ _ _ (e.put _ d) h3⟩
    ·rw[← sH fun t _=>e t];exact h1
    ·rw[← sH fun t _=>e t];exact h2 hl s' oq
theorem Mg (i:Nat) (l:List Nat):kD is (i::l)=(if iQ (kl is i)then 1 else 0)+kD is l:=by
 unfold kD
 rw[List.filter_cons]
 split<;>simp<;>omega
theorem zu (hK : ∀ tm bJ s,Tm.eqv tm bJ→K tm s→K bJ s) {q b:Nat} {ai:AI} (hq:is[q]? = some ai) (hm:iQ ai.kind=false) (Y:List (Nat×Nat)) :
 ∀ (X:List (Nat×Nat)) (bS:List St) (tm:Tm) (s:St),(∀ a∈X,mr is a.1 q=true)→(ai.kind = .load→kD is (X.map (·.1))≤b)→
  lS P is K (X++(q,b)::Y) bS tm s→
  ∃ d,kR ai tm s=some d∧(ai.kind = .load→∀ s'∈bS.take (b - kD is (X.map (·.1))),kR ai tm s'=some d)∧lS P is K (X++Y) bS (tm.put ai.dst d) s
 | [],bS,tm,s,_,_,h=>by
  simp only[List.nil_append,lS,hq,hm]at h
  obtain⟨d,h1,h2,h3⟩:=h
  exact⟨d,h1,fun hl s' oq=>h2 hl s' (by simpa[kD]using oq),h3⟩
 | (a,c)::X,bS,tm,s,fl,hb,h=>by
  have Rx:=fl (a,c) (by simp)
  unfold mr at Rx
  split at Rx
  ·rename_i ia iq hia wy
   rw[hq]at wy
   cases wy
   obtain⟨p1,p2,p3⟩:=apart_spec Rx
   have JH:kl is a=ia.kind:=by simp[kl,hia]
   have Li : ∀ x∈X,mr is x.1 q=true:=fun x hx=>fl x (List.mem_cons_of_mem _ hx)
   rw[List.map_cons,Mg,JH]at hb ⊢
   simp only[List.cons_append,lS,hia]at h ⊢
   cases hc:iQ ia.kind
   ·simp only [hc,Bool.false_eq_true,if_false,Nat.zero_add]at h hb ⊢
    obtain⟨d,h1,h2,h3⟩:=h
    obtain⟨e,g1,g2,g3⟩:=zu hK hq hm Y X bS _ s Li hb h3
    have cg : ∀ s,kR ai tm s=kR ai (tm.put ia.dst d) s:=fun s=>sH (u5 p1)
    have cg' : ∀ s,kR ia tm s=kR ia (tm.put ai.dst e) s:=fun s=>sH (u5 p2)
    refine⟨e,by rw[cg];exact g1,fun hl s' oq=>by rw[cg];exact g2 hl s' oq,d,by rw[← cg'];exact h1,fun hl s' oq=>by rw[← cg'];exact h2 hl s' oq, ?_⟩
    exact u6 hK _ _ _ _ _ (Tm.Mf tm p3 d e) g3
   ·simp only [hc,if_true]at h hb ⊢
    obtain⟨d,s1,h1,h3⟩:=h
    obtain⟨e,g1,g2,g3⟩:=zu hK hq hm Y X (s::bS) _ s1 Li (fun hl=>by have:=hb hl;omega) h3
    have cg : ∀ s,kR ai tm s=kR ai (tm.put ia.dst d) s:=fun s=>sH (u5 p1)
    have rX:kR ai tm s=some e:=by
     cases hk:ai.kind with
     |pure=>rw[cg,XU hk (s':=s1)];exact g1
     |load=>
      have:=hb hk
      rw[cg]
      refine g2 hk s ?_
      rw[show b - kD is (X.map (·.1))=(b - (1+kD is (X.map (·.1))))+1 by omega,List.take_succ_cons]
      exact List.mem_cons_self
     |alloc=>rw[hk]at hm;cases hm
     |core=>rw[hk]at hm;cases hm
    refine⟨e,rX,fun hl s' oq=>?_,d,s1,zt (u5 p2) h1,u6 hK _ _ _ _ _ (Tm.Mf tm p3 d e) g3⟩
    have:=hb hl
    rw[cg]
    refine g2 hl s' ?_
    rw[show b - kD is (X.map (·.1))=(b - (1+kD is (X.map (·.1))))+1 by omega,List.take_succ_cons]
    exact List.mem_cons_of_mem _ oq
  ·cases Rx
end
end Go.Abs
namespace Go.Abs
section
variable {P:Program}
theorem UT {o:Oper} {z:List D} (h:Gz P o=some (.alloc z)) : ∃ t,o.op = .alloc t∧zeroOf P t=some z:=by
 obtain⟨dst,op,type,pos,after,guard⟩:=o
 unfold Gz at h
 simp only at h
 split at h
 case h_4 t=>
  split at h
  ·obtain⟨z',h1,h2⟩:=map_some h;cases h2
  ·obtain⟨z',h1,h2⟩:=map_some h;cases h2;exact⟨t,rfl,h1⟩
 all_goals
  first
   |(rw[Option.map_eq_some_iff]at h;obtain⟨_,_,h⟩:=h;cases h)
   |skip
 all_goals
  (repeat' (split at h))<;>first|(cases h;done)|(rw[Option.map_eq_some_iff]at h;obtain⟨_,_,h⟩:=h;cases h)
theorem Dk {nt:Nat} {ops:Array Oper} {o:Oper} {ai:AI} (h:cI P nt ops o=some ai) :
 ∃ g,w9 ops o.guard=some g∧(∀ t,o.dst=some t→t<nt)∧uU P ops o g=some ai:=by
 have h2:=An h
 unfold cI at h
 split at h
 ·cases h
 ·rename_i g hg
  split at h
  ·exact⟨g,hg,h2,h⟩
  ·cases h
theorem vA {ops:Array Oper} {o:Oper} {g:Option (Nat×Bool)} {ai:AI} (h:uU P ops o g=some ai):ai.dst=o.dst:=by
 unfold uU at h
 split at h
 ·split at h
  ·obtain⟨xs,_,rfl⟩:=map_some h;rfl
  ·cases h
 ·obtain⟨xs,_,rfl⟩:=map_some h;rfl
 ·split at h
  ·cases h;rfl
  ·split at h
   ·cases h;rfl
   ·cases h;rfl
   ·cases h
theorem vB {nt:Nat} {ops:Array Oper} {o:Oper} {ai:AI} (h:cI P nt ops o=some ai):ai.dst=o.dst:=by
 obtain⟨g,_,_,h⟩:=Dk h
 exact vA h
theorem zv {nt:Nat} {ops:Array Oper} {i:Nat} {o:Oper} {ai:AI} (hi:ops[i]? = some o) (hc:cI P nt ops o=some ai)
 {M:Map} {s:St} {w:World} {tm:Tm} {act:Act} (r:Rel M s w) (kN:Laid M s w) (ht:ny M s tm act.tmps) {K':Tm→St→Prop} (h:jR P [ai] K' tm s)
 {K:Act→World→Prop} {Q:Exit→Act→World→Prop}
 (hK : ∀ d v s1 w1 M1,K' (tm.put ai.dst d) s1→Ext M s w M1 s1 w1→Rel M1 s1 w1→RD M1 s1 d v→K (act.put o.dst v) w1):wpOp P ops Q i K act w:=by
 obtain⟨g,hg,_,hb⟩:=Dk hc
 rw[vA hb]at hK
 simp only[wpOp,hi]
 have skip:K' (tm.put o.dst (.tuple [])) s→K (act.put o.dst Go.undef) w:=fun hk=>hK _ _ _ _ _ hk (Ext.refl M s w) r .undef
 unfold uU at hb
 split at hb
 ·rename_i f args nY nX
  split at hb
  ·rename_i Ba
   obtain⟨xs,qg,rfl⟩:=map_some hb
   simp only[jR]at h
   rcases lg hg ht h with ⟨hw,hA⟩|⟨hw,hB⟩
   ·simp only [hw,if_true]
    left
    have hex:(execOp act.eval o).run P w = .ok (.enter f (args.map act.eval)) w:=by
     obtain⟨dst,op,type,pos,after,guard⟩:=o
     simp only at nX
     subst nX
     exact zp act.eval dst f args nY type pos after guard rfl Ba w
    obtain⟨c1,c2⟩:=yr ht qg
    unfold Oper.wp
    rw[hex,Oper.upon_enter]
    refine(hA M w (args.map act.eval) r kN (by simp[c1]) (fun i d v e1 e2=>c2 i d v e1 (by simpa using e2))).mono ?_
    rintro en w' ⟨M',d,v,s',rfl,hk,e',r',hv⟩
    exact hK _ _ _ _ _ hk e' r' hv
   ·simp only [hw]
    exact skip hB
  ·cases hb
 ·rename_i t args nY nX
  obtain⟨xs,qg,rfl⟩:=map_some hb
  simp only[jR]at h
  rcases lg hg ht h with ⟨hw,hA⟩|⟨hw,hB⟩
  ·simp only [hw,if_true]
   left
   split at hA
   ·rename_i f ph ou
    obtain⟨Ba,hA⟩:=hA
    have UJ:=ht t
    rw[ou]at UJ
    obtain⟨vs,qv,hlen,GU⟩:=UJ.PA
    have hex:(execOp act.eval o).run P w = .ok (.enter f (args.map act.eval++vs)) w:=by
     obtain⟨dst,op,type,pos,after,guard⟩:=o
     simp only at nX
     subst nX
     exact Df act.eval dst (.tmp t) f vs args nY type pos after guard qv Ba w
    have cc:=JI qg ht hlen GU
    unfold Oper.wp
    rw[hex,Oper.upon_enter]
    refine(hA M w (args.map act.eval++vs) r kN cc.1 cc.2).mono ?_
    rintro en w' ⟨M',d,v,s',rfl,hk,e',r',hv⟩
    exact hK _ _ _ _ _ hk e' r' hv
   ·exact hA.elim
  ·simp only [hw]
   exact skip hB
 ·split at hb
  ·rename_i neg x FG
   cases hb
   simp only[jR]at h
   rcases lg hg ht h with ⟨hw,hA⟩|⟨hw,hB⟩
   ·simp only [hw,if_true]
    left
    split at hA
    ·rename_i g' z rows hx
     obtain⟨b,hb,hex⟩:=Cf (w:=w) FG ht hx
     unfold Oper.wp
     rw[hex,Oper.upon_value]
     exact hK _ _ _ _ _ (hA b hb) (Ext.refl M s w) r (.bool _)
    ·exact hA.elim
   ·simp only [hw]
    exact skip hB
  ·have fin : ∀ ao,ai = .op o.dst g ao→(∀ d s',aV ao tm s=some (d,s')→dk P M s w (execOp act.eval o) d s')→
    (if Region.wanted o (yielded ops act.tmps)=true then o.wp P act w K Q∨(o.asks P act w∧LetsOut Q)else K (act.put o.dst Go.undef) w):=by
    intro ao yu hdo
    subst yu
    simp only[jR]at h
    rcases lg hg ht h with ⟨hw,hA⟩|⟨hw,hB⟩
    ·simp only [hw,if_true]
     left
     split at hA
     ·rename_i d s' sF
      obtain⟨v,w',M',ep,r',hv,e'⟩:=hdo d s' sF
      unfold Oper.wp
      rcases ep with ep|⟨ep,rfl⟩
      ·rw [ep,Oper.upon_value]
       exact hK _ _ _ _ _ hA e' r' hv
      ·rw [ep,Oper.upon_skip]
       exact hK _ _ _ _ _ hA e' r' hv
     ·exact hA.elim
    ·simp only [hw]
     exact skip hB
   split at hb
   ·rename_i z k n ps pN
    cases hb
    refine fin _ rfl (fun d s' sF=>?_)
    split at sF
    ·exact A9 pN r ht sF
    ·exact uY pN r ht sF
   ·rename_i ao pN
    cases hb
    exact fin _ rfl (fun d s' sF=>uY pN r ht sF)
   ·cases hb
structure PG (M:Map) (s:St) (b:Nat):Prop where
 o : ∀ o,o<s.al.length→M.mu o≠b
 t : ∀ t c z,s.live t→M.be t≠some (b,c,z)
 g : ∀ off,M.G b off=none
theorem PG.mono {M M':Map} {s s':St} {w w':World} {b:Nat} (h:PG M s b) (e:Ext M s w M' s' w') (hb:b<w.heap.size):PG M' s' b:=by
 refine⟨fun o ho=>?_,fun t c z hl he=>?_,fun off=>?_⟩
 ·rcases e.mo ho with ⟨h1,h2⟩ | h1
  ·rw[h2];exact h.o o h1
  ·omega
 ·rcases e.rr t b c z hl he with ⟨h1,c',z',h2⟩ | h1
  ·exact h.t t c' z' h1 h2
  ·omega
 ·by_cases hg:M'.G b off=M.G b off
  ·rw[hg];exact h.g off
  ·rcases e.sg b off hg with h1 | ⟨t,c,z,h1,h2⟩
   ·omega
   ·exact(h.t t c z h1 h2).elim
theorem Rel.idle {M:Map} {s:St} {w:World} (r:Rel M s w) (x:Obj):Rel M s (w.alloc x)∧Ext M s w M s (w.alloc x)∧PG M s w.heap.size:=by
 refine⟨⟨fun b o v e=>?_,fun o ds e=>?_,r.j7,r.inj,fun t n e=>?_,r.fM,r.gN⟩, ?_,⟨fun o ho=>?_,fun t c z hl e=>?_,fun off=>r.QQ (Nat.le_refl _) off⟩⟩
 ·obtain⟨h3,h4⟩:=r.comm b o v e
  refine⟨?_,h4⟩
  rw[World.cell?_alloc_lt]
  ·exact h3
  ·exact r.C0 e
 ·obtain⟨vs,T,h3,h4,h5,h6⟩:=r.obj o ds e
  exact⟨vs,T,h3.keep (heap_alloc_old w _ _ h3.lt),h4,h5,h6⟩
 ·rcases r.tok t n e with h3 | ⟨b,cap,size,gk,T',h3,h4,h5⟩
  ·exact .inl h3
  ·exact .inr ⟨b,cap,size,gk,T',h3,by rw[heap_alloc_old w _ _ (ld h4)];exact h4,h5⟩
 ·exact⟨Le.refl M s,fun b hb _ _=>heap_alloc_old w _ b hb,fun o h3 h4=>by rcases h3 with h3|h3;omega;exact(h3 rfl).elim,fun t b c z h e=> .inl ⟨h,c,z,e⟩,fun _ _ h=>(h rfl).elim,by simp,rfl,rfl,rfl⟩
 ·have:=r.rV ho;omega
 ·have:=r.uV hl e;omega
theorem Rel.ajY {M:Map} {s:St} {w:World} (r:Rel M s w) {B:gW} (e:Ext B.M B.s B.w M s w) {b:Nat} (u:PG M s b) (hb:B.w.heap.size≤b)
 (ds:List D) (vs:Array Value) (T:TypeId) (hh:w.heap[b]? = some (.cells vs T (0,0))) (hl:vs.size=ds.length) (h1 : ∀ v∈vs,v.oneCell'=true)
 (h2 : ∀ (i:Nat) (d:D) (v:Value),ds[i]? = some d→vs[i]? = some v→RD M s d v) :
 Rel (M.eQ s.al.length b) {s with al:=s.al++ [ds]} w∧Ext B.M B.s B.w (M.eQ s.al.length b) {s with al:=s.al++ [ds]} w∧
 Le M s (M.eQ s.al.length b) {s with al:=s.al++ [ds]}:=by
 have le:=ux (M:=M) s b ds
 have oj : ∀ o,o<s.al.length→(M.eQ s.al.length b).mu o=M.mu o:=fun o ho=>congrArg Prod.fst (vt M b .any ho)
 have dA:(M.eQ s.al.length b).mu s.al.length=b:=by simp[Map.eQ,Map.mu]
 refine⟨⟨r.comm,fun o o7 e'=>?_,fun o ho off=>?_,fun o o' ho o8 e'=>?_,r.tok,fun t b' c z o hl e' ho=>?_,r.gN⟩, ?_,le⟩
 ·rcases Nat.lt_or_ge o s.al.length with ho | ho
  ·rw [List.getElem?_append_left ho]at e'
   obtain⟨gk,T',h3,h4,h5,h6⟩:=r.obj o o7 e'
   refine⟨gk,T', ?_,h4,⟨h5.1,by rw[le.ty o ho];exact h5.2⟩,fun i d v e1 e2=>(h6 i d v e1 e2).mono le⟩
   rw[vt M b .any ho];exact h3
  ·rw [List.getElem?_append_right ho]at e'
   have:o=s.al.length:=by
    have:=(List.getElem?_eq_some_iff.1 e').1
    simp at this;omega
   subst this
   simp at e';subst e'
   refine⟨vs,T, ?_,hl,⟨h1,fun T' h=>by simp[Map.eQ,Map.ty,Ob.ty?]at h⟩,fun i d v e1 e2=>(h2 i d v e1 e2).mono le⟩
   have hl:(M.eQ s.al.length b).loc s.al.length=(b, .any):=by simp[Map.eQ]
   rw[hl];exact jv.of hh trivial
 ·simp at ho
  rcases Nat.lt_or_ge o s.al.length with h3|h3
  ·rw[oj o h3];exact r.j7 o h3 off
  ·have:o=s.al.length:=by omega
   subst this
   rw[dA];exact u.g off
 ·simp at ho o8
  rcases Nat.lt_or_ge o s.al.length with h3|h3<;>rcases Nat.lt_or_ge o' s.al.length with h4|h4
  ·rw[oj o h3,oj o' h4]at e';exact r.inj o o' h3 h4 e'
  ·have:o'=s.al.length:=by omega
   subst this
   rw[oj o h3,dA]at e'
   exact(u.o o h3 e').elim
  ·have:o=s.al.length:=by omega
   subst this
   rw[oj o' h4,dA]at e'
   exact(u.o o' h4 e'.symm).elim
  ·omega
 ·simp at ho
  rcases Nat.lt_or_ge o s.al.length with h3|h3
  ·rw[oj o h3];exact r.fM t b' c z o hl e' h3
  ·have:o=s.al.length:=by omega
   subst this
   rw[dA]
   intro he
   subst he
   exact u.t t c z hl e'
 ·refine⟨e.le.trans le,e.kept,fun o h3 h4=> ?_,e.rr,e.sg,e.size,e.os,e.tape,e.output⟩
  simp at h4
  rcases Nat.lt_or_ge o s.al.length with h5|h5
  ·rw[oj o h5]at h3 ⊢;exact e.sf o h3 h5
  ·have:o=s.al.length:=by omega
   subst this
   rw[dA];exact hb
theorem OP {nt:Nat} {ops:Array Oper} {i:Nat} {o:Oper} {t:Nat} {z:List D} (hi:ops[i]? = some o) (hc:cI P nt ops o=some (.op (some t) none (.alloc z)))
 {w:World} {act:Act} {K:Act→World→Prop} {Q:Exit→Act→World→Prop}
 (hK : ∀ vs T,vs.size=z.length→(∀ v∈vs,v.oneCell'=true)→(∀ (M:Map) (s:St) (i:Nat) (d:D) (v:Value),z[i]? = some d→vs[i]? = some v→RD M s d v)→
  K (act.put (some t) (.pointer (some ⟨w.heap.size,0,none⟩))) (w.alloc (.cells vs T))):wpOp P ops Q i K act w:=by
 obtain⟨g,hg,_,hb⟩:=Dk hc
 have sm:=vA hb
 simp only[AI.dst]at sm
 simp only[wpOp,hi]
 have nX:g=none∧Gz P o=some (.alloc z):=by
  unfold uU at hb
  split at hb
  ·split at hb
   ·obtain⟨xs,_,h⟩:=map_some hb;cases h
   ·cases hb
  ·obtain⟨xs,_,h⟩:=map_some hb;cases h
  ·split at hb
   ·cases hb
   ·split at hb
    ·rename_i pN
     simp only[Option.some.injEq,AI.op.injEq]at hb
     obtain⟨_,_,h⟩:=hb
     split at h<;>cases h
    ·rename_i ao pN
     simp only[Option.some.injEq,AI.op.injEq]at hb
     obtain⟨_,h1,h2⟩:=hb
     subst h2
     exact⟨h1,pN⟩
    ·cases hb
 obtain⟨rfl,pN⟩:=nX
 obtain⟨T,hT,hz⟩:=UT pN
 have hw:Region.wanted o (yielded ops act.tmps)=true:=by
  have:o.guard=none:=by
   cases Jy:o.guard with
   |none=>rfl
   |some p=>
    obtain⟨j,b⟩:=p
    rw[Jy]at hg
    unfold w9 at hg
    simp only at hg
    split at hg<;>cases hg
  simp[Region.wanted,this]
 simp only[hw,if_true]
 left
 unfold zeroOf at hz
 split at hz
 ·rename_i inf Rn
  split at hz
  ·rename_i v hv
   split at hz
   ·have ep:(execOp act.eval o).run P w = .ok (.value (.pointer (some ⟨w.heap.size,0,none⟩))) (w.alloc (.cells v.cells T)):=by
     obtain⟨dst,op,type,pos,after,guard⟩:=o
     simp only at hT
     subst hT
     simp[execOp,Instr.alloc,zeroValue,gV P Rn,hv,newVar,newRow]
    have h3:=fun M s=>mz (M:=M) (s:=s) hz
    obtain⟨h1,h2,_⟩:=h3 ⟨fun _ _=>none,fun _=>(0, .any),fun _=>none⟩ ⟨[],[]⟩
    unfold Oper.wp
    rw[ep,Oper.upon_value, ← sm]
    exact hK _ _ (by rw[h1];simp) (fun u hu=>h2 u (by simpa using hu)) (fun M s i d u e1 e2=>(h3 M s).2.2 i d u e1 (by simpa using e2))
   ·cases hz
  ·cases hz
 ·cases hz
end
end Go.Abs
namespace Go.Abs
section
variable {is:List AI} {af pt:List (List Nat)}
theorem Cl {pq:List Nat} {l l':List Nat} (h:l'.Sublist l) (hb:l5 is pq l=true):l5 is pq l'=true:=by
 induction h with
 |slnil=>rfl
 |cons a h ih=>
  simp only[l5,Bool.and_eq_true]at hb
  exact ih hb.2
 |cons_cons a h ih=>
  simp only[l5,Bool.and_eq_true,Bool.or_eq_true]at hb ⊢
  refine⟨hb.1.imp id fun h1=>?_,ih hb.2⟩
  rw[List.all_eq_true]at h1 ⊢
  exact fun x hx=>h1 x (h.subset hx)
theorem Eo {f:Nat→Bool} {l l':List Nat} (h:l'.Sublist l) (ha:l.all f=true):l'.all f=true:=by
 rw[List.all_eq_true]at ha ⊢
 exact fun x hx=>ha x (h.subset hx)
theorem OQ {l l':List Nat} (h:l'.Sublist l):kD is l'≤kD is l:=(h.filter _).length_le
theorem Ry {pre IL:List Nat} {q b:Nat} (h:IL.Sublist pre) (hs:qs is pt pre q b=true):qs is pt IL q b=true:=by
 unfold qs at *
 split at hs
 ·exact Eo h hs
 ·exact Eo h hs
 ·simp only [Bool.and_eq_true]at hs ⊢
  exact⟨Eo h hs.1,Cl h hs.2⟩
 ·simp only [Bool.and_eq_true,decide_eq_true_eq]at hs ⊢
  exact⟨⟨Eo h hs.1.1,Cl h hs.1.2⟩,Nat.le_trans (OQ (h.filter _)) hs.2⟩
theorem Mh : ∀ {R:List (Nat×Nat)} {pre IL:List Nat},IL.Sublist pre→wq is af pt pre R=true→wq is af pt IL R=true
 | [],_,_,_,_=>rfl
 |(q,b)::R,pre,IL,h,ho=>by
  simp only[wq,Bool.and_eq_true,Bool.not_eq_true']at ho ⊢
  obtain⟨⟨⟨h1,h2⟩,h3⟩,h4⟩:=ho
  refine⟨⟨⟨Ry h h1, ?_⟩,h3⟩,Mh (h.cons_cons q) h4⟩
  rw[← Bool.not_eq_true,List.contains_iff_mem]at h2 ⊢
  exact fun hm=>h2 (h.subset hm)
theorem IM : ∀ {X:List (Nat×Nat)} {e:Nat×Nat} {Y:List (Nat×Nat)} {pre:List Nat},wq is af pt pre (X++e::Y)=true→wq is af pt pre (X++Y)=true
 | [],(q,b),Y,pre,h=>by
  simp only[List.nil_append,wq,Bool.and_eq_true]at h
  exact Mh (List.sublist_cons_self q pre) h.2
 |(a,c)::X,e,Y,pre,h=>by
  simp only[List.cons_append,wq,Bool.and_eq_true]at h ⊢
  obtain⟨⟨⟨h1,h2⟩,h3⟩,h4⟩:=h
  refine⟨⟨⟨h1,h2⟩, ?_⟩,IM h4⟩
  rw[List.all_eq_true]at h3 ⊢
  intro j hj
  have:=h3 j hj
  simp only[Bool.and_eq_true,Bool.not_eq_true']at this ⊢
  refine⟨this.1, ?_⟩
  have h5:=this.2
  rw[← Bool.not_eq_true,List.contains_iff_mem]at h5 ⊢
  refine fun hm=>h5 ?_
  simp only[List.map_append,List.map_cons,List.mem_append,List.mem_cons]at hm ⊢
  exact hm.imp id .inr
theorem vC : ∀ {X:List (Nat×Nat)} {q b:Nat} {Y:List (Nat×Nat)} {pre:List Nat},wq is af pt pre (X++(q,b)::Y)=true→
 qs is pt ((X.map (·.1)).reverse++pre) q b=true∧q∉X.map (·.1)∧q∉pre∧(∀ j∈jd af q,j≠q∧j∉Y.map (·.1))∧wq is af pt (q::((X.map (·.1)).reverse++pre)) Y=true
 | [],q,b,Y,pre,h=>by
  simp only[List.nil_append,wq,Bool.and_eq_true,Bool.not_eq_true']at h
  obtain⟨⟨⟨h1,h2⟩,h3⟩,h4⟩:=h
  rw[← Bool.not_eq_true,List.contains_iff_mem]at h2
  refine⟨h1,by simp,h2,fun j hj=>?_,h4⟩
  rw[List.all_eq_true]at h3
  have:=h3 j hj
  simp only[Bool.and_eq_true,bne_iff_ne,Bool.not_eq_true', ← Bool.not_eq_true,List.contains_iff_mem]at this
  exact this
 |(a,c)::X,q,b,Y,pre,h=>by
  simp only[List.cons_append,wq,Bool.and_eq_true]at h
  obtain⟨_,h4⟩:=h
  obtain⟨g1,g2,g3,g4,g5⟩:=vC h4
  simp only[List.map_cons,List.reverse_cons,List.append_assoc,List.singleton_append]
  refine⟨g1, ?_,fun h=>g3 (List.mem_cons_of_mem _ h),g4,g5⟩
  intro hm
  rcases List.mem_cons.1 hm with rfl|hm
  ·exact g3 (by simp)
  ·exact g2 hm
theorem Ep : ∀ {Y:List (Nat×Nat)} {pre:List Nat},wq is af pt pre Y=true→∀ x∈Y,x.1∉pre∧(kl is x.1 = .alloc→∀ a∈pre,mr is a x.1=true)
 | [],_,_,x,hx=>by cases hx
 | (q,b)::Y,pre,h,x,hx=>by
  simp only[wq,Bool.and_eq_true,Bool.not_eq_true']at h
  obtain⟨⟨⟨h1,h2⟩,_⟩,h4⟩:=h
  rw[← Bool.not_eq_true,List.contains_iff_mem]at h2
  rcases List.mem_cons.1 hx with rfl|hx
  ·refine⟨h2,fun hk a ha=> ?_⟩
   unfold qs at h1
   simp only[hk]at h1
   rw[List.all_eq_true]at h1
   exact h1 a ha
  ·obtain⟨g1,g2⟩:=Ep h4 x hx
   exact⟨fun h=>g1 (List.mem_cons_of_mem _ h),fun hk a ha=>g2 hk a (List.mem_cons_of_mem _ ha)⟩
theorem Fe : ∀ {n:Nat},Ac af pt n=true→∀ i,i<n→∀ j∈jd pt i,j∈jd af i∨∃ k∈jd af i,j∈jd pt k
 | 0,_,i,hi=>by omega
 | n+1,h,i,hi=>by
  simp only[Ac,Bool.and_eq_true]at h
  rcases Nat.lt_or_ge i n with h1|h1
  ·exact Fe h.2 i h1
  ·have:i=n:=by omega
   subst this
   intro j hj
   have:=h.1
   rw[List.all_eq_true]at this
   have:=this j hj
   simp only[Bool.or_eq_true,List.contains_iff_mem,List.any_eq_true]at this
   exact this
theorem As {pq:List Nat} : ∀ {l:List Nat},l5 is pq l=true→∀ (x:Nat) (l1 l2:List Nat),l=l1++x::l2→kl is x = .alloc→x∈pq→∀ y∈l2,y∈pq
 | [],_,x,l1,l2,h=>by simp at h
 | a::l,hb,x,l1,l2,h=>by
  simp only[l5,Bool.and_eq_true,Bool.or_eq_true,Bool.not_eq_true',Bool.and_eq_false_iff]at hb
  intro hk hx y hy
  cases l1 with
  | nil=>
   simp only[List.nil_append,List.cons.injEq]at h
   obtain⟨rfl,rfl⟩:=h
   rcases hb.1 with h1|h1
   ·rcases h1 with h1 | h1
    ·simp[hk]at h1
    ·rw [← Bool.not_eq_true,List.contains_iff_mem]at h1
     exact(h1 hx).elim
   ·rw [List.all_eq_true]at h1
    have:=h1 y hy
    rwa [List.contains_iff_mem]at this
  |cons b l1=>
   simp only[List.cons_append,List.cons.injEq]at h
   exact As hb.2 x l1 l2 h.2 hk hx y hy
end
structure Pd where
 q:Nat
 t:Nat
 z:List D
 b:Nat
structure afJ (is:List AI) (R:List (Nat×Nat)) (B:gW) (M:Map) (s:St) (act:Act) (w:World) (p:Pd):Prop where
 mem:p.q∈R.map (·.1)
 ai:is[p.q]? = some (.op (some p.t) none (.alloc p.z))
 cells : ∃ (vs:Array Value) (T:TypeId),w.heap[p.b]? = some (.cells vs T (0,0))∧vs.size=p.z.length∧(∀ v∈vs,v.oneCell'=true)∧
  ∀ (M:Map) (s:St) (i:Nat) (d:D) (v:Value),p.z[i]? = some d→vs[i]? = some v→RD M s d v
 unk:PG M s p.b
 base:B.w.heap.size≤p.b
 slot:act.tmps.getD p.t Go.undef = .pointer (some ⟨p.b,0,none⟩)
def Bf (P:Program) (is:List AI) (K:Tm→St→Prop) (B:gW) (nt:Nat) (R:List (Nat×Nat)) (fh:List Pd) (act:Act) (w:World):Prop:=
 ∃ (M:Map) (s:St) (tm vD:Tm) (bS:List St),Ext B.M B.s B.w M s w∧Rel M s w∧ny M s vD act.tmps∧(∀ t,(∀ p∈fh,p.t≠t)→vD.get t=tm.get t)∧
  act.tmps.size=nt∧act.defers = []∧lS P is K R bS tm s∧(∀ p∈fh,afJ is R B M s act w p)∧
  (∀ p∈fh,∀ p'∈fh,p.q=p'.q∨p.t=p'.t∨p.b=p'.b→p=p')
structure s8 (is:List AI) (af pt:List (List Nat)) (dH:Array Bool) (R:List (Nat×Nat)) (fh:List Pd):Prop where
 ok:wq is af pt [] R=true
 JN : ∀ i,i<is.length→(dH.getD i false=true↔(i∉R.map (·.1)∨∃ p∈fh,p.q=i))
 cl : ∀ i,i<is.length→dH.getD i false=true→∀ j∈jd pt i,dH.getD j false=true
 size:dH.size=is.length
 lt : ∀ x∈R,x.1<is.length
section
variable {P:Program} {is:List AI} {af pt:List (List Nat)} {K:Tm→St→Prop} {B:gW} {nt:Nat}
theorem afK {dH:Array Bool} {q b:Nat} {R:List (Nat×Nat)} {fh:List Pd} {act:Act} {w:World} (hs:s8 is af pt dH ((q,b)::R) fh) (h:Bf P is K B nt ((q,b)::R) fh act w)
 {p:Pd} (hp:p∈fh) (sI:p.q=q) :
 s8 is af pt dH R (fh.filter fun p'=>decide (p'.q≠q))∧Bf P is K B nt R (fh.filter fun p'=>decide (p'.q≠q)) act w:=by
 have iM : ∀ p',p'∈(fh.filter fun p'=>decide (p'.q≠q))↔p'∈fh∧p'.q≠q:=fun p'=>by simp
 constructor
 ·have qh:=hs.ok
  have Bg:=vC (X:= []) qh
  refine⟨IM (X:= []) qh,fun i hi=>?_,hs.cl,hs.size,fun x hx=>hs.lt x (List.mem_cons_of_mem _ hx)⟩
  rw[hs.JN i hi]
  simp only[List.map_cons,List.mem_cons,not_or]
  have hqR:q∉R.map (·.1):=fun hm=>by
   obtain⟨x,hx,rfl⟩:=List.mem_map.1 hm
   exact(Ep Bg.2.2.2.2 x hx).1 (by simp)
  constructor
  ·rintro(⟨h1,h2⟩ | ⟨p',h1,h2⟩)
   ·exact .inl h2
   ·by_cases hq:i=q
    ·subst hq;exact .inl hqR
    ·exact .inr ⟨p',(iM p').2 ⟨h1,by rw[h2];exact hq⟩,h2⟩
  ·rintro(h1 | ⟨p',h1,h2⟩)
   ·by_cases hq:i=q
    ·subst hq;exact .inr ⟨p,hp,sI⟩
    ·exact .inl ⟨hq,h1⟩
   ·exact .inr ⟨p',((iM p').1 h1).1,h2⟩
 ·obtain⟨M,s,tm,vD,bS,e,r,ht,rX,hn,hd,hg,yw,u7⟩:=h
  have hk:=yw p hp
  obtain⟨vs,T,hh,hl,h1,h2⟩:=hk.cells
  have yu:=hk.ai
  rw[sI]at yu
  simp only[lS,yu,AI.kind,iQ]at hg
  obtain⟨d,s',jm,hg⟩:=hg
  have sF:aV (.alloc p.z) tm s=some (d,s'):=jm
  simp only[aV,Option.some.injEq,Prod.mk.injEq]at sF
  obtain⟨rfl,rfl⟩:=sF
  obtain⟨r',e',le⟩:=r.ajY e hk.unk hk.base p.z vs T hh hl h1 (h2 M s)
  refine⟨_,_,_,vD.put (some p.t) (.ptr s.al.length 0),_,e',r',fun u=>?_,fun t PH=>?_,hn,hd,hg,fun p' og=>?_,fun p1 h1 p2 h2=>u7 p1 ((iM p1).1 h1).1 p2 ((iM p2).1 h2).1⟩
  ·rw [Tm.mA]
   split
   ·rename_i heq
    cases heq
    rw[hk.slot]
    have:(M.eQ s.al.length p.b).mu s.al.length=p.b:=by simp[Map.eQ,Map.mu]
    have h5:=RD.ptr (M:=M.eQ s.al.length p.b) (s:= {s with al:=s.al++ [p.z]}) s.al.length 0 (by simp) (by simp[Map.eQ,Map.ob,Ob.plain])
    rw[this]at h5
    exact h5
   ·exact(ht u).mono le
  ·simp only [AI.dst]
   rw[Tm.mA,Tm.mA]
   split
   ·rfl
   ·rename_i fk
    refine rX t fun p' og=>?_
    by_cases hq:p'.q=q
    ·have:=u7 p' og p hp (.inl (hq.trans sI.symm))
     subst this
     exact fun h=>fk (by rw[h])
    ·exact PH p' ((iM p').2 ⟨og,hq⟩)
  ·obtain⟨hp1,hp2⟩:=(iM p').1 og
   have sC:=yw p' hp1
   refine⟨?_,sC.ai,sC.cells,⟨fun o ho=>?_,sC.unk.t,sC.unk.g⟩,sC.base,sC.slot⟩
   ·have:=sC.mem
    simp only[List.map_cons,List.mem_cons]at this
    exact this.resolve_left hp2
   ·simp at ho
    rcases Nat.lt_or_ge o s.al.length with h5|h5
    ·rw[show(M.eQ s.al.length p.b).mu o=M.mu o from congrArg Prod.fst (vt M p.b .any h5)];exact sC.unk.o o h5
    ·have:o=s.al.length:=by omega
     subst this
     have:(M.eQ s.al.length p.b).mu s.al.length=p.b:=by simp[Map.eQ,Map.mu]
     rw[this]
     intro hb
     have:=u7 p hp p' hp1 (.inr (.inr hb))
     subst this
     exact hp2 sI
theorem norm {dH:Array Bool} {act:Act} {w:World} : ∀ (R:List (Nat×Nat)) (fh:List Pd),s8 is af pt dH R fh→Bf P is K B nt R fh act w→
 ∃ R' yx,s8 is af pt dH R' yx∧Bf P is K B nt R' yx act w∧∀ x l,R'=x::l→∀ p∈yx,p.q≠x.1
 | [],fh,hs,h=>⟨[],fh,hs,h,fun _ _ he=>by cases he⟩
 | (q,b)::R,fh,hs,h=>by
  by_cases hp : ∃ p∈fh,p.q=q
  ·obtain⟨p,hp,sI⟩:=hp
   obtain⟨h1,h2⟩:=afK hs h hp sI
   exact norm R _ h1 h2
  ·refine⟨(q,b)::R,fh,hs,h,fun x l he p hpm sI=>hp ⟨p,hpm, ?_⟩⟩
   cases he
   exact sI
theorem aa0 {ops:Array Oper} {q:Nat} {o:Oper} {ai:AI} (hi:ops[q]? = some o) (hc:cI P nt ops o=some ai) {R R':List (Nat×Nat)} {fh:List Pd} {act:Act} {w:World} {M:Map} {s s1:St} {tm vD:Tm} {d:D} {aa1:List St}
 (e:Ext B.M B.s B.w M s w) (r:Rel M s w) (ht:ny M s vD act.tmps) (rX : ∀ t,(∀ p∈fh,p.t≠t)→vD.get t=tm.get t) (hn:act.tmps.size=nt) (hd:act.defers = [])
 (yw : ∀ p∈fh,afJ is R B M s act w p) (u7 : ∀ p∈fh,∀ p'∈fh,p.q=p'.q∨p.t=p'.t∨p.b=p'.b→p=p')
 (hv:jR P [ai] (fun a b=>a=vD.put ai.dst d∧b=s1) vD s) (hg:lS P is K R' aa1 (tm.put ai.dst d) s1)
 (iM : ∀ p∈fh,p.q∈R'.map (·.1)) (sm : ∀ p∈fh,ai.dst≠some p.t) {Q:Exit→Act→World→Prop} :
 wpOp P ops Q q (Bf P is K B nt R' fh) act w:=by
 refine zv hi hc r (B.laid.ext e) ht hv fun d' v s2 w1 M1 hk e1 r1 jF=>?_
 obtain⟨yk,rfl⟩:=hk
 have hde:=vB hc
 have hD : ∀ t,o.dst=some t→t<act.tmps.size:=fun t h=>by rw[hn];exact An hc t h
 refine⟨M1,s2,tm.put ai.dst d,vD.put ai.dst d,aa1,e.trans e1,r1, ?_,fun t PH=>?_, ?_, ?_,hg,fun p hp=>?_,u7⟩
 ·rw [← yk,hde]
  exact(ht.mono e1.le).put hD jF
 ·rw[Tm.mA,Tm.mA,rX t PH]
 ·cases ho:o.dst<;>simp[Act.put,hn]
 ·cases ho:o.dst<;>simp[Act.put,hd]
 ·have hk:=yw p hp
  obtain⟨vs,T,hh,hl,h1,h2⟩:=hk.cells
  have hb:=ld hh
  refine⟨iM p hp,hk.ai,⟨vs,T,by rw[e1.kept p.b hb hk.unk.o hk.unk.t];exact hh,hl,h1,h2⟩,hk.unk.mono e1 hb,hk.base, ?_⟩
  rw[← hk.slot]
  have:=sm p hp
  rw[hde]at this
  cases ho:o.dst with
  |none=>rfl
  |some t=>
   rw[ho]at this
   have fk:t≠p.t:=fun h=>this (by rw[h])
   simp[Act.put,Array.getElem?_setIfInBounds_ne fk]
theorem Rz {ai:AI} (hm:iQ ai.kind=false) {tm:Tm} {s:St} {d:D} (h:kR ai tm s=some d):jR P [ai] (fun a b=>a=tm.put ai.dst d∧b=s) tm s:=by
 cases ai with
 | op dst g o=>
  have hko:=PF hm
  have key : ∀ {d},(aV o tm s).map (·.1)=some d→aV o tm s=some (d,s):=by
   intro d h
   cases he:aV o tm s with
   |none=>rw[he]at h;cases h
   |some p=>
    obtain⟨d',s'⟩:=p
    rw[he]at h
    simp only[Option.map_some,Option.some.injEq]at h
    subst h
    rw[OO (by rw[← hko];exact hm) he]
  simp only[jR,AI.dst]
  cases g with
  |none=>
   simp only[kR]at h
   simp only[guarded,key h,and_self]
  | some p=>
   obtain⟨t,want⟩:=p
   simp only[kR]at h
   simp only[guarded]
   split at h
   ·rename_i b hb
    simp only[hb]
    split at h
    ·rename_i heq
     refine⟨fun _=>by simp only[key h,and_self],fun fk=>?_⟩
     subst heq
     cases b<;>cases fk
    ·rename_i fk
     cases h
     exact⟨fun heq=>(fk heq).elim,fun _=>by simp⟩
   ·rename_i ds hb
    cases h
    simp only[hb,and_self]
   ·cases h
 |call dst g f xs=>cases hm
 |nil dst g n x=>cases hm
 |kj dst g t xs=>cases hm
theorem Dl {g:Option (Nat×Bool)} {tm:Tm} {A A' C C':Prop} (ha:A→A') (hc:C→C') (hh:guarded g tm A C):guarded g tm A' C':=by
 cases g with
 |none=>exact ha hh
 | some p=>
  obtain⟨t,want⟩:=p
  unfold guarded at *
  simp only at *
  split
  ·rename_i b hb;rw[hb]at hh;exact⟨fun e=>ha (hh.1 e),fun e=>hc (hh.2 e)⟩
  ·rename_i hb;rw[hb]at hh;exact hc hh
  ·rename_i x h1 h2
   split at hh
   ·exact h1 _ ‹_›
   ·exact h2 _ ‹_›
   ·exact hh
theorem Mi {ai:AI} {tm:Tm} {s s1:St} {d:D} (h:uZ P ai tm s d s1):jR P [ai] (fun a b=>a=tm.put ai.dst d∧b=s1) tm s:=by
 cases ai with
 |op dst g o=>
  refine Dl (fun e=>?_) (fun e=>?_) h
  ·rw[e];exact⟨rfl,rfl⟩
  ·obtain⟨rfl,rfl⟩:=e;exact⟨rfl,rfl⟩
 |call dst g f xs=>
  refine Dl (fun e=>?_) (fun e=>?_) h
  ·exact e.mono fun x y hxy=>by obtain⟨rfl,rfl⟩:=hxy;exact⟨rfl,rfl⟩
  ·obtain⟨rfl,rfl⟩:=e;exact⟨rfl,rfl⟩
 |nil dst g n x=>exact h.elim
 |kj dst g t xs=>exact h.elim
end
end Go.Abs
namespace Go.Abs
section
variable {P:Program} {is:List AI} {af pt:List (List Nat)} {K:Tm→St→Prop} {B:gW} {nt:Nat}
theorem Er {ops:Array Oper} : ∀ {ol:List Oper} {is:List AI},sS P nt ops ol=some is→is.length=ol.length∧∀ (i:Nat) (o:Oper),ol[i]? = some o→∃ ai,is[i]? = some ai∧cI P nt ops o=some ai
 | [],is,h=>by cases h;exact⟨rfl,by simp⟩
 | o::ol,is,h=>by
  unfold sS at h
  split at h
  ·rename_i ai UI h1 h2
   cases h
   obtain⟨g1,g2⟩:=Er h2
   refine⟨by simp[g1],fun i o' ho=>?_⟩
   cases i with
   |zero=>simp at ho;subst ho;exact⟨ai,rfl,h1⟩
   |succ i=>exact g2 i o' (by simpa using ho)
  ·cases h
theorem u9 {dH:Array Bool} {i:Nat} (h:i<dH.size):dH.getD i true=dH.getD i false:=by
 simp[h]
theorem s8.done {dH:Array Bool} {X Y:List (Nat×Nat)} {q b:Nat} {fh:List Pd} (hs:s8 is af pt dH (X++(q,b)::Y) fh) (hq:q<is.length)
 (jS : ∀ j∈jd pt q,dH.getD j false=true):s8 is af pt (dH.setIfInBounds q true) (X++Y) fh:=by
 obtain⟨g1,g2,g3,g4,g5⟩:=vC hs.ok
 have hqY:q∉Y.map (·.1):=fun hm=>by
  obtain⟨x,hx,rfl⟩:=List.mem_map.1 hm
  exact(Ep g5 x hx).1 (by simp)
 refine⟨IM hs.ok,fun i hi=>?_,fun i hi hl j hj=>?_,by simp[hs.size],fun x hx=>hs.lt x (by simp at hx ⊢;exact hx.imp id .inr)⟩
 ·by_cases wy:i=q
  ·subst wy
   have:i<dH.size:=by rw[hs.size];exact hq
   simp only[List.map_append,List.mem_append,g2,hqY,or_self,not_false_eq_true,true_or,iff_true]
   simp[this]
  ·rw [getD_set_ne false (Ne.symm wy),hs.JN i hi]
   simp[wy]
 ·by_cases wy:i=q
  ·subst wy;exact getD_set_true (jS j hj)
  ·rw [getD_set_ne false (Ne.symm wy)]at hl
   exact getD_set_true (hs.cl i hi hl j hj)
theorem s8.flag {dH:Array Bool} {R:List (Nat×Nat)} {fh:List Pd} (hs:s8 is af pt dH R fh) {p:Pd} (hq:p.q<is.length)
 (jS : ∀ j∈jd pt p.q,dH.getD j false=true):s8 is af pt (dH.setIfInBounds p.q true) R (p::fh):=by
 refine⟨hs.ok,fun i hi=>?_,fun i hi hl j hj=>?_,by simp[hs.size],hs.lt⟩
 ·by_cases wy:i=p.q
  ·subst wy
   have:p.q<dH.size:=by rw[hs.size];exact hq
   simp[this]
  ·rw [getD_set_ne false (Ne.symm wy),hs.JN i hi]
   have fk:p.q≠i:=fun h=>wy h.symm
   simp[fk]
 ·by_cases wy:i=p.q
  ·subst wy;exact getD_set_true (jS j hj)
  ·rw [getD_set_ne false (Ne.symm wy)]at hl
   exact getD_set_true (hs.cl i hi hl j hj)
theorem RA {ai:AI} (h:ai.kind = .alloc) : ∃ t z,ai = .op (some t) none (.alloc z):=by
 cases ai with
 | op dst g o=>
  unfold AI.kind at h
  split at h
  ·rename_i heq;cases heq;exact⟨_,_,rfl⟩
  ·rename_i heq
   cases heq
   exfalso
   revert h
   cases o<;>simp[AO.kind]
  ·cases h
 |call dst g f xs=>cases h
 |nil dst g n x=>cases h
 |kj dst g t xs=>cases h
theorem RB {ops:Array Oper} (zw:sS P nt ops ops.toList=some is) (RC:Ac af pt is.length=true)
 (hK : ∀ tm bJ s,Tm.eqv tm bJ→K tm s→K bJ s) {dH:Array Bool} {R:List (Nat×Nat)} {fh:List Pd} {act:Act} {w:World} (hs:s8 is af pt dH R fh) (h:Bf P is K B nt R fh act w)
 (aj0 : ∀ x l,R=x::l→∀ p∈fh,p.q≠x.1) {q:Nat} (hq:q<is.length) (GZ:dH.getD q false=false) (jF : ∀ j∈jd af q,j<is.length∧dH.getD j false=true)
 {Q:Exit→Act→World→Prop} {K2:Act→World→Prop} (hK2 : ∀ R' yx a' w',s8 is af pt (dH.setIfInBounds q true) R' yx→Bf P is K B nt R' yx a' w'→K2 a' w'):wpOp P ops Q q K2 act w:=by
 obtain⟨hlen,hZ⟩:=Er zw
 have vy:q<ops.size:=by rw[hlen]at hq;simpa using hq
 obtain⟨ai,yu,UW⟩:=hZ q ops[q] (by simp[vy])
 have hi:ops[q]? = some ops[q]:=by simp[vy]
 have jS : ∀ j∈jd pt q,dH.getD j false=true:=fun j hj=>by
  rcases Fe RC q hq j hj with h1|⟨k,h1,h2⟩
  ·exact(jF j h1).2
  ·exact hs.cl k (jF k h1).1 (jF k h1).2 j h2
 have UX : ∀ p∈fh,p.q≠q:=fun p hp sI=>by
  have:=(hs.JN q hq).2 (.inr ⟨p,hp,sI⟩)
  rw[GZ]at this;cases this
 have hqR:q∈R.map (·.1):=by
  by_cases hm:q∈R.map (·.1)
  ·exact hm
  ·have:=(hs.JN q hq).2 (.inl hm)
   rw[GZ]at this;cases this
 obtain⟨⟨q',b⟩,hx,hqq⟩:=List.mem_map.1 hqR
 simp only at hqq
 subst hqq
 obtain⟨X,Y,rfl⟩:=List.append_of_mem hx
 obtain⟨g1,g2,g3,g4,g5⟩:=vC hs.ok
 rw[List.append_nil]at g1 g5
 obtain⟨M,s,tm,vD,bS,e,r,ht,rX,hn,hd,hg,yw,u7⟩:=h
 have UY:kl is q'=ai.kind:=by simp[kl,yu]
 -- what must have come up ahead of it, is not here any more, but for what was allocated early
 have aa2 : ∀ a∈X.map (·.1),a∈jd pt q'→∃ p∈fh,p.q=a:=fun a ha fl=>by
  have h1:=jS a fl
  obtain⟨x,hxX,rfl⟩:=List.mem_map.1 ha
  rcases(hs.JN x.1 (hs.lt x (by simp[hxX]))).1 h1 with h2|h2
  ·exact(h2 (by simp;exact .inl ⟨x.2,hxX⟩)).elim
  ·exact h2
 have aa3 : ∀ x l,X=x::l→x.1∉jd pt q':=fun x l hX hxp=>by
  obtain⟨p,hp,sI⟩:=aa2 x.1 (by simp[hX]) hxp
  exact aj0 x (l++(q',b)::Y) (by simp[hX]) p hp sI
 have hpk : ∀ p∈fh,kl is p.q = .alloc:=fun p hp=>by simp[kl,(yw p hp).ai,AI.kind]
 have Bg : ∀ p∈fh,(p.q∈X.map (·.1)→mr is p.q q'=true)→(∀ t,ai.dst=some t→t≠p.t)∧p.t∉ai.reads:=fun p hp hX=>by
  have hk:=yw p hp
  have hm:=hk.mem
  simp only[List.map_append,List.map_cons,List.mem_append,List.mem_cons]at hm
  rcases hm with hm|hm|hm
  ·have:=hX hm
   simp only[mr,hk.ai,yu]at this
   obtain⟨p1,p2,p3⟩:=apart_spec this
   exact⟨fun t ht he=>p3 p.t rfl (by rw[ht,he]),p1 p.t rfl⟩
  ·exact(UX p hp hm).elim
  ·obtain⟨x,hxY,hxq⟩:=List.mem_map.1 hm
   have:=(Ep g5 x hxY).2 (by rw[hxq];exact hpk p hp) q' (by simp)
   rw[hxq]at this
   simp only[mr,hk.ai,yu]at this
   obtain⟨p1,p2,p3⟩:=apart_spec this
   exact⟨fun t ht he=>p3 t ht (by rw[he];rfl),p2 p.t rfl⟩
 have UZ:(∀ p∈fh,p.t∉ai.reads)→∀ t∈ai.reads,tm.get t=vD.get t:=fun hp t ht=>(rX t fun p hpm he=>hp p hpm (by rw[he];exact ht)).symm
 have aa5 : ∀ p∈fh,p.q∈(X++Y).map (·.1):=fun p hp=>by
  have hm:=(yw p hp).mem
  have:=UX p hp
  simp only[List.map_append,List.map_cons,List.mem_append,List.mem_cons]at hm ⊢
  rcases hm with hm|hm|hm
  ·exact .inl hm
  ·exact(this hm).elim
  ·exact .inr hm
 by_cases sJ:ai.kind = .alloc
 ·-- an allocation
  obtain⟨t,z,rfl⟩:=RA sJ
  have fl : ∀ a∈X.map (·.1),mr is a q'=true:=fun a ha=>by
   unfold qs at g1
   rw[UY,sJ]at g1
   simp only[List.all_reverse,List.all_eq_true]at g1
   exact g1 a ha
  have ur:=fun p hp=>Bg p hp (fl p.q)
  refine OP hi UW fun vs T hl h1 h2=>?_
  obtain⟨r1,e1,u1⟩:=r.idle (.cells vs T)
  have afP:t<act.tmps.size:=by
   rw[hn]
   exact An UW t (by rw[← vB UW];rfl)
  have:=hs.flag (p:=⟨q',t,z,w.heap.size⟩) hq jS
  refine hK2 _ _ _ _ this ⟨M,s,tm,vD.put (some t) .junk,bS,e.trans e1,r1,ny.put ht (dst:=some t) (fun u hu=>by cases hu;exact afP) (.junk _),fun u hu=>?_,by simp[Act.put,hn],by simp[Act.put,hd],hg,fun p hp=>?_,fun p hp p' og he=>?_⟩
  ·have h3:=hu ⟨q',t,z,w.heap.size⟩ (by simp)
   rw[Tm.mA,if_neg (by simpa using h3)]
   exact rX u fun p hp=>hu p (List.mem_cons_of_mem _ hp)
  ·rcases List.mem_cons.1 hp with rfl | hp
   ·refine⟨by simp,yu,⟨vs,T,heap_alloc_new w _,hl,h1,h2⟩,u1,e.size, ?_⟩
    simp[Act.put,afP]
   ·have hk:=yw p hp
    obtain⟨gk,T',lb,mF,uq,wx⟩:=hk.cells
    refine⟨hk.mem,hk.ai,⟨gk,T',by rw[heap_alloc_old w _ _ (ld lb)];exact lb,mF,uq,wx⟩,hk.unk,hk.base, ?_⟩
    rw[← hk.slot]
    have fk:t≠p.t:=(ur p hp).1 t rfl
    simp[Act.put,Array.getElem?_setIfInBounds_ne fk]
  ·have dA : ∀ p∈fh,¬ (q'=p.q∨t=p.t∨w.heap.size=p.b):=fun p hp h=>by
    rcases h with h|h|h
    ·exact UX p hp h.symm
    ·exact(ur p hp).1 t rfl h
    ·obtain⟨gk,T',lb,_⟩:=(yw p hp).cells
     have:=ld lb
     omega
   rcases List.mem_cons.1 hp with rfl|hp<;>rcases List.mem_cons.1 og with rfl|og
   ·rfl
   ·exact(dA p' og he).elim
   ·exact(dA p hp (he.imp Eq.symm (Or.imp Eq.symm Eq.symm))).elim
   ·exact u7 p hp p' og he
 ·by_cases pN:iQ ai.kind=true
  ·-- a step that changes something: it stands first
   have hkc:ai.kind = .core:=by
    cases hk:ai.kind<;>simp_all [iQ]
   have hX:X = []:=by
    cases X with
    |nil=>rfl
    |cons x l=>
     refine(aa3 x l rfl ?_).elim
     unfold qs at g1
     rw[UY,hkc]at g1
     simp only[List.all_reverse,List.all_eq_true]at g1
     have:=g1 x.1 (by simp)
     rwa [List.contains_iff_mem]at this
   subst hX
   have ur:=fun p hp=>Bg p hp (fun h=>by simp at h)
   simp only[List.nil_append,lS,yu,pN]at hg
   obtain⟨d,s1,jm,hg⟩:=hg
   have aoz:=zt (UZ fun p hp=>(ur p hp).2) jm
   refine wpOp_mono (fun a' w' hr=>hK2 _ _ _ _ (hs.done hq jS) hr) ?_
   exact aa0 hi UW e r ht rX hn hd yw u7 (Mi aoz) hg aa5 (fun p hp he=>(ur p hp).1 _ he rfl)
  ·-- a step that changes nothing
   have hm:iQ ai.kind=false:=by simpa using pN
   have py : ∀ a∈X.map (·.1),a∉jd pt q':=fun a ha fl=>by
    obtain⟨p,hp,sI⟩:=aa2 a ha fl
    have JH:kl is a = .alloc:=by rw[← sI];exact hpk p hp
    have lL:l5 is (jd pt q') (X.map (·.1)).reverse=true:=by
     unfold qs at g1
     rw[UY]at g1
     cases hk:ai.kind with
     |pure=>simp only[hk,Bool.and_eq_true]at g1;exact g1.2
     |load=>simp only[hk,Bool.and_eq_true]at g1;exact g1.1.2
     |alloc=>exact(sJ hk).elim
     |core=>rw[hk]at hm;cases hm
    cases X with
    |nil=>simp at ha
    | cons x l=>
     have U0:a∈((x::l).map (·.1)).reverse:=List.mem_reverse.2 ha
     obtain⟨l1,l2,Au⟩:=List.append_of_mem U0
     have Bh:=As lL a l1 l2 Au JH fl
     refine aa3 x l rfl ?_
     cases je:l2.reverse with
     |nil=>
      have h3:l2 = []:=by simpa using je
      subst h3
      have:=congrArg List.reverse Au
      simp at this
      rw[this.1];exact fl
     |cons y l3=>
      have:=congrArg List.reverse Au
      simp only[List.reverse_reverse,List.map_cons,List.reverse_append,List.reverse_cons,List.reverse_nil,List.append_assoc,je,List.cons_append,List.nil_append,List.cons.injEq]at this
      rw[this.1]
      exact Bh y (by rw[← List.mem_reverse,je];simp)
   have fl : ∀ a∈X,mr is a.1 q'=true:=fun a ha=>by
    have h3 : ∀ x∈(X.map (·.1)).reverse,((jd pt q').contains x ||mr is x q')=true:=by
     unfold qs at g1
     rw[UY]at g1
     cases hk:ai.kind with
     |pure=>simp only[hk,Bool.and_eq_true]at g1;exact List.all_eq_true.1 g1.1
     |load=>simp only[hk,Bool.and_eq_true]at g1;exact List.all_eq_true.1 g1.1.1
     |alloc=>exact(sJ hk).elim
     |core=>rw[hk]at hm;cases hm
    have:=h3 a.1 (List.mem_reverse.2 (List.mem_map_of_mem ha))
    simp only[Bool.or_eq_true,List.contains_iff_mem]at this
    exact this.resolve_left (py a.1 (List.mem_map_of_mem ha))
   have afQ:ai.kind = .load→kD is (X.map (·.1))≤b:=fun hk=>by
    unfold qs at g1
    rw[UY,hk]at g1
    simp only[Bool.and_eq_true,decide_eq_true_eq]at g1
    have h3:=g1.2
    have h4:(X.map (·.1)).reverse.filter (fun a=> !(jd pt q').contains a)=(X.map (·.1)).reverse:=by
     rw[List.filter_eq_self]
     intro a ha
     have:=py a (List.mem_reverse.1 ha)
     simpa using this
    rw[h4]at h3
    unfold kD at h3 ⊢
    rw[List.filter_reverse,List.length_reverse]at h3
    exact h3
   have ur:=fun p hp=>Bg p hp (fun h=>by
    obtain⟨x,hx,hxq⟩:=List.mem_map.1 h
    rw[← hxq];exact fl x hx)
   obtain⟨d,h1,_,nD⟩:=zu hK yu hm Y X bS tm s fl afQ hg
   have uq:kR ai vD s=some d:=by rw[← sH (UZ fun p hp=>(ur p hp).2)];exact h1
   refine wpOp_mono (fun a' w' hr=>hK2 _ _ _ _ (hs.done hq jS) hr) ?_
   exact aa0 hi UW e r ht rX hn hd yw u7 (Rz hm uq) nD aa5 (fun p hp he=>(ur p hp).1 _ he rfl)
theorem Ff {o:Oper} {j:Nat} : j∈oh o↔∃ e∈o.after,Region.binds .any e=true∧e.on=j:=by
 simp only[oh,List.mem_map,List.mem_filter,Array.mem_toList_iff]
 constructor
 ·rintro⟨e,⟨h1,h2⟩,h3⟩;exact⟨e,h1,h2,h3⟩
 ·rintro⟨e,h1,h2,h3⟩;exact⟨e,⟨h1,h2⟩,h3⟩
theorem RE {ops:Array Oper} (zw:sS P nt ops ops.toList=some is) (RC:Ac (ops.toList.map oh) pt is.length=true)
 (afR : ∀ i,i<is.length→∀ j∈jd (ops.toList.map oh) i,j<is.length) {Q:Exit→Tm→St→Prop} (hK : ∀ tm bJ s,Tm.eqv tm bJ→K tm s→K bJ s)
 (hKQ : ∀ tm s act w,K tm s→Holds B nt tm s act w→rA B nt Q .normal act w) :
 ∀ (fuel:Nat) (dH:Array Bool) (R:List (Nat×Nat)) (fh:List Pd) (act:Act) (w:World) (U:List Nat),U.length≤fuel→(∀ j,j<is.length→dH.getD j false=false→j∈U)→
  s8 is (ops.toList.map oh) pt dH R fh→Bf P is K B nt R fh act w→wpAny P .any ops (rA B nt Q) fuel dH act w:=by
 obtain⟨hlen,_⟩:=Er zw
 have uX:is.length=ops.size:=by rw[hlen];simp
 have afS : ∀ (j:Nat) (o:Oper),ops[j]? = some o→jd (ops.toList.map oh) j=oh o:=fun j o h=>by
  simp[jd,List.getD,h]
 have fin : ∀ {dH:Array Bool} {fh:List Pd} {act:Act} {w:World},Bf P is K B nt [] fh act w→rA B nt Q .normal act w:=by
  intro dH fh act w h
  obtain⟨M,s,tm,vD,bS,e,r,ht,rX,hn,hd,hg,yw,u7⟩:=h
  have FG : ∀ p∈fh,False:=fun p hp=>by have:=(yw p hp).mem;simp at this
  exact hKQ vD s act w (hK tm vD s (fun t=>(rX t fun p hp=>(FG p hp).elim).symm) hg) ⟨M,e,r,ht,hn,hd⟩
 have U1 : ∀ {dH:Array Bool} {R:List (Nat×Nat)} {fh:List Pd} {x:Nat×Nat} {l:List (Nat×Nat)},s8 is (ops.toList.map oh) pt dH R fh→R=x::l→(∀ p∈fh,p.q≠x.1)→
  x.1∈Region.ready .any ops dH:=by
  intro dH R fh x l hs hR UX
  subst hR
  have hx:=hs.lt x (by simp)
  rw[mem_ready]
  have GZ:dH.getD x.1 false=false:=by
   cases hl:dH.getD x.1 false with
   |false=>rfl
   |true=>
    rcases(hs.JN x.1 hx).1 hl with h1|⟨p,hp,sI⟩
    ·exact(h1 (by simp)).elim
    ·exact(UX p hp sI).elim
  have hxo:x.1<ops.size:=by rw[← uX];exact hx
  refine⟨by rw[u9 (by rw[hs.size];exact hx)];exact GZ,ops[x.1],by simp[hxo],fun e he hb=>?_⟩
  have hm:e.on∈jd (ops.toList.map oh) x.1:=by rw[afS x.1 ops[x.1] (by simp[hxo])];exact Ff.2 ⟨e,he,hb,rfl⟩
  obtain⟨_,_,_,g4,_⟩:=vC (X:= []) (q:=x.1) (b:=x.2) hs.ok
  obtain⟨h1,h2⟩:=g4 _ hm
  refine(hs.JN e.on (afR x.1 hx _ hm)).2 (.inl ?_)
  simp only[List.map_cons,List.mem_cons,not_or]
  exact⟨h1,h2⟩
 intro fuel
 induction fuel with
 | zero=>
  intro dH R fh act w U hU GZ hs h
  obtain⟨R',yx,oq,h',hn⟩:=norm R fh hs h
  have hUn:U = []:=List.length_eq_zero_iff.1 (by omega)
  have Bh : ∀ j,j<is.length→dH.getD j false=true:=fun j hj=>by
   cases hl:dH.getD j false with
   |true=>rfl
   |false=>have:=GZ j hj hl;rw[hUn]at this;cases this
  have hR:R' = []:=by
   cases hR:R' with
   |nil=>rfl
   |cons x l=>
    have hx:=oq.lt x (by simp[hR])
    have:=U1 oq hR (hn x l hR)
    rw[mem_ready,u9 (by rw[oq.size];exact hx),Bh x.1 hx]at this
    cases this.1
  subst hR
  refine⟨?_,fin (dH:=dH) h'⟩
  cases hr:Region.ready .any ops dH with
  |nil=>rfl
  |cons j js=>
   have hj:j∈Region.ready .any ops dH:=by rw[hr];simp
   rw[mem_ready]at hj
   obtain⟨h1,o,ho,_⟩:=hj
   have hjl:j<is.length:=by rw[uX];exact(Array.getElem?_eq_some_iff.1 ho).1
   rw[u9 (by rw[hs.size];exact hjl),Bh j hjl]at h1
   cases h1
 | succ fuel ih=>
  intro dH R fh act w U hU GZ hs h
  obtain⟨R',yx,oq,h',hn⟩:=norm R fh hs h
  refine⟨fun hr=>?_,fun i hi=>?_⟩
  ·cases hR:R' with
   |nil=>subst hR;exact fin (dH:=dH) h'
   |cons x l=>
    have:=U1 oq hR (hn x l hR)
    rw[hr]at this
    cases this
  ·rw [mem_ready]at hi
   obtain⟨h1,o,ho,aoA⟩:=hi
   have sG:i<is.length:=by rw[uX];exact(Array.getElem?_eq_some_iff.1 ho).1
   rw[u9 (by rw[hs.size];exact sG)]at h1
   refine RB zw RC hK oq h' hn sG h1 (fun j hj=>⟨afR i sG j hj, ?_⟩) fun R2 aj3 a2 w2 Cd h2=>?_
   ·rw [afS i o ho]at hj
    obtain⟨e,he,hb,rfl⟩:=Ff.1 hj
    exact aoA e he hb
   ·refine ih _ R2 aj3 a2 w2 (U.erase i) ?_ (fun j hj hl=> ?_) Cd h2
    ·have:=List.length_erase_of_mem (GZ i sG h1)
     omega
    ·have hji:j≠i:=fun e=>by
      subst e
      have:j<dH.size:=by rw[hs.size];exact sG
      simp[this]at hl
     rw[getD_set_ne false (Ne.symm hji)]at hl
     exact(List.mem_erase_of_ne hji).2 (GZ j hj hl)
theorem Sem.par {is:List AI} {na:List (Nat×Nat)} {Q:Exit→Tm→St→Prop} {tm:Tm} {s:St} (h:lS P is (Q .normal) na [] tm s):Sem P B nt (.par is na) Q tm s:=by
 intro c hc act w hh
 obtain⟨id,ops,rfl,hi,hm,pt,hp⟩:=mJ hc
 simp only[LB,Bool.and_eq_true,List.all_eq_true,List.mem_range,List.contains_iff_mem,decide_eq_true_eq]at hp
 obtain⟨⟨⟨⟨h1,h2⟩,h3⟩,h4⟩,h5⟩:=hp
 obtain⟨hlen,_⟩:=Er hi
 have uX:is.length=ops.size:=by rw[hlen];simp
 refine wp_region_any hm ?_
 obtain⟨M,e,r,ht,hn,hd⟩:=hh
 have key : ∀ (R:List (Nat×Nat)) (bS:List St) (tm:Tm) (s:St),lS P is (Q .normal) R bS tm s→lS P is (fun tm s=>∃ bJ,tm.eqv bJ∧Q .normal bJ s) R bS tm s:=by
  intro R
  induction R with
  |nil=>intro bS tm s h;exact⟨tm,fun _=>rfl,h⟩
  | cons x R ih=>
   obtain⟨q,b⟩:=x
   intro bS tm s h
   unfold lS at h ⊢
   split at h
   ·exact h.elim
   ·split at h
    ·obtain⟨d,s',h1,h2⟩:=h;exact⟨d,s',h1,ih _ _ _ h2⟩
    ·obtain⟨d,h1,h2,h3⟩:=h;exact⟨d,h1,h2,ih _ _ _ h3⟩
 have hg:=key _ _ _ _ h
 refine RE (K:=fun tm s=>∃ bJ,tm.eqv bJ∧Q .normal bJ s) hi h1 h5 (fun tm bJ s he ⟨t2,h3,h4⟩=>⟨t2,fun t=>(he t).symm.trans (h3 t),h4⟩)
  (fun tm s act w ⟨t2,h3,h4⟩ ⟨M,e,r,ht,hn,hd⟩=>⟨t2,s,h4,M,e,r,fun t=>by rw[← h3 t];exact ht t,hn,hd⟩) ops.size _ na [] act _ (List.range is.length) (by simp[uX]) (fun j hj _=>by simpa using hj)
  ⟨h2,fun i hi=>?_,fun i hi hl=>?_,by simp[uX],h4⟩ ⟨M,s,tm,tm,[],⟨e.le,e.kept,e.sf,e.rr,e.sg,e.size,e.os,e.tape,e.output⟩,r.of_heap rfl,ht,fun _ _=>rfl,hn,hd,hg,by simp,by simp⟩
 ·have:i<ops.size:=by rw [← uX];exact hi
  have h6:=h3 i hi
  simp only[List.not_mem_nil,false_and,exists_false,or_false]
  rw[show(Array.replicate ops.size false).getD i false=false by simp[this]]
  simp[h6]
 ·have:i<ops.size:=by rw [← uX];exact hi
  rw[show(Array.replicate ops.size false).getD i false=false by simp[this]]at hl
  cases hl
end
end Go.Abs
namespace Go.Abs
theorem acZ (k:IntKind) (n:Int):D.row (.int k n)=some [.int k n]:=rfl
theorem XV (b:Bool):D.row (.bool b)=some [.bool b]:=rfl
theorem ac0 (l:List UInt8):D.row (.str l)=some [.str l]:=rfl
theorem XW:D.row .eW=some [.eW]:=rfl
theorem ac1 (o f:Nat):D.row (.ptr o f)=some [.ptr o f]:=rfl
theorem XX (r:List D) (f:Nat):D.row (.dR r f)=some [.dR r f]:=rfl
theorem U2 (g:Tag) (z:Nat) (r:List (List D)):D.row (.slice g z r)=some [.slice g z r]:=rfl
theorem ac2 (cs:List D):D.row (.agg cs)=some cs:=rfl
theorem ac3 (v:Value):D.row (.val v)=some [.val v]:=rfl
theorem U3 (T:TypeId) (o:Nat):D.row (.ga T o)=some [.ga T o]:=rfl
theorem ac4 (f:Nat) (cs:List D):D.row (.ij f cs)=some [.ij f cs]:=rfl
theorem XY (o:Nat):D.row (.gR o)=some [.gR o]:=rfl
theorem XZ (w:Bool):Tag.cut .full w=if w then .full else .shared:=rfl
theorem RF (w:Bool):Tag.cut .shared w = .shared:=rfl
theorem X0 (t:Nat) (y:Bool) (w:Bool):Tag.cut (.tok t y) w = .tok t y:=rfl
section
variable {P:Program}
def KC (P:Program) (r:List AI) (K:Tm→St→Prop) (tm:Tm) (dst:Option Nat) (d:D) (s:St):Prop:=jR P r K (tm.put dst d) s
def GI (P:Program) (g:D) (want:Bool) (i:AI) (r:List AI) (K:Tm→St→Prop) (tm:Tm) (s:St):Prop:=
 match g with
 | .bool b=>(b=want→jR P (i::r) K tm s)∧(b=(!want)→jR P r K (tm.put i.dst (.tuple [])) s)
 | .tuple _=>jR P r K (tm.put i.dst (.tuple [])) s
 |_=>False
def NI (P:Program) (dst:Option Nat) (neg:Bool) (x:D) (r:List AI) (K:Tm→St→Prop) (tm:Tm) (s:St):Prop:=
 match x with
 | .slice _ _ rows=>∀ b:Bool,(rows≠ []→b=false)→jR P r K (tm.put dst (.bool (if neg then !b else b))) s
 |_=>False
def wL (d:D) (A C:Prop):Prop:=
 match d with
 | .bool b=>(b=true→A)∧(b=false→C)
 |_=>False
theorem Sem.aj4 {B:gW} {nt:Nat} {Q:Exit→Tm→St→Prop} {tm:Tm} {s:St} {x:X} {a b:AC} (h:wL (x.ev tm) (Sem P B nt a Q tm s) (Sem P B nt b Q tm s)):Sem P B nt (.cond x a b) Q tm s:=by
 unfold wL at h
 split at h
 ·rename_i t ht
  exact Sem.cond ht h.1 h.2
 ·exact h.elim
def iT (P:Program) (K:Tm→St→Prop):List (AI×Nat)→List St→Tm→St→Prop
 | [],_,tm,s=>K tm s
 |(ai,b)::r,bS,tm,s=>
  match iQ ai.kind with
  |true=>∃ d s',uZ P ai tm s d s'∧iT P K r (s::bS) (tm.put ai.dst d) s'
  |false=>∃ d,kR ai tm s=some d∧(ai.kind = .load→∀ s'∈bS.take b,kR ai tm s'=some d)∧iT P K r bS (tm.put ai.dst d) s
def ov (is:List AI):List (Nat×Nat)→Option (List (AI×Nat))
 | []=>some []
 |(q,b)::r=>match is[q]?,ov is r with
  |some ai,some l=>some ((ai,b)::l)
  |_,_=>none
theorem IN {is:List AI} {K:Tm→St→Prop} : ∀ {na:List (Nat×Nat)} {items:List (AI×Nat)} {bS:List St} {tm:Tm} {s:St},ov is na=some items→iT P K items bS tm s→lS P is K na bS tm s
 | [],items,bS,tm,s,h,g=>by cases h;exact g
 | (q,b)::r,items,bS,tm,s,h,g=>by
  simp only[ov]at h
  split at h
  ·rename_i ai l h1 h2
   cases h
   simp only[iT]at g
   simp only[lS,h1]
   split at g
   ·rename_i hk
    obtain⟨d,s',g1,g2⟩:=g
    try simp only[hk]
    exact⟨d,s',g1,IN h2 g2⟩
   ·rename_i hk
    obtain⟨d,g1,g2,g3⟩:=g
    try simp only[hk]
    exact⟨d,g1,g2,IN h2 g3⟩
  ·cases h
theorem Sem.aoB {B:gW} {nt:Nat} {Q:Exit→Tm→St→Prop} {tm:Tm} {s:St} {is:List AI} {na:List (Nat×Nat)} {items:List (AI×Nat)} (hi:ov is na=some items) (h:iT P (Q .normal) items [] tm s):Sem P B nt (.par is na) Q tm s:=
 Sem.par (IN hi h)
def AI.free:AI→AI
 | .op d _ o=> .op d none o
 | .call d _ f xs=> .call d none f xs
 | .nil d _ n x=> .nil d none n x
 | .kj d _ t xs=> .kj d none t xs
def GL (P:Program) (g:D) (want:Bool) (i:AI) (b:Nat) (r:List (AI×Nat)) (K:Tm→St→Prop) (bS:List St) (tm:Tm) (s:St):Prop:=
 match g with
 | .bool v=>(v=want→iT P K ((i,b)::r) bS tm s)∧(v=(!want)→iT P K r (if iQ i.kind then s::bS else bS) (tm.put i.dst (.tuple [])) s)
 | .tuple _=>iT P K r (if iQ i.kind then s::bS else bS) (tm.put i.dst (.tuple [])) s
 |_=>False
def CL (one:Bool) (P:Program) (f:Nat) (args:List D) (s:St) (K:D→St→Prop):Prop:=
 match one with
 |true=>∃ d s',aH P f args s d s'∧K d s'
 |false=>bV P f args s K
def KL (P:Program) (K:Tm→St→Prop) (r:List (AI×Nat)) (bS:List St) (tm:Tm) (dst:Option Nat) (d:D) (s:St):Prop:=iT P K r bS (tm.put dst d) s
def pO (i:AI) (tm:Tm) (d:D):List St→Prop
 | []=>True
 |s::r=>kR i tm s=some d∧pO i tm d r
theorem G0 {i:AI} {tm:Tm} {d:D} : ∀ {l:List St},pO i tm d l→∀ s∈l,kR i tm s=some d
 | [],_,s,h=>by cases h
 |a::l,h,s,hs=>by
  rcases List.mem_cons.1 hs with rfl|hs
  ·exact h.1
  ·exact G0 h.2 s hs
def PL (P:Program) (o:AO) (dst:Option Nat) (b:Nat) (r:List (AI×Nat)) (K:Tm→St→Prop) (bS:List St) (tm:Tm) (s:St):Prop:=
 match aV o tm s with
 |some (d,_)=>pO (.op dst none o) tm d (bS.take b)∧iT P K r bS (tm.put dst d) s
 |none=>False
def ML (P:Program) (o:AO) (dst:Option Nat) (r:List (AI×Nat)) (K:Tm→St→Prop) (bS:List St) (tm:Tm) (s:St):Prop:=
 match aV o tm s with
 |some (d,s')=>iT P K r (s::bS) (tm.put dst d) s'
 |none=>False
def AO.core:AO→Bool
 | .alloc _=>true
 | .box _=>true
 | .w6 .. =>true
 | .CN _=>true
 | .store .. =>true
 | .app .. =>true
 | .vn .. =>true
 | .CQ .. =>true
 | .CS .. =>true
 | .apps .. =>true
 | .wH=>true
 | .A0 .. =>true
 | .CT .. =>true
 |_=>false
theorem vE (dst:Option Nat) (g:Option (Nat×Bool)) (o:AO):iQ (AI.op dst g o).kind=o.core:=by
 cases dst<;>cases g<;>cases o<;>rfl
def OL (P:Program) (o:AO) (dst:Option Nat) (b:Nat) (r:List (AI×Nat)) (K:Tm→St→Prop) (bS:List St) (tm:Tm) (s:St):Prop:=
 match o.core with
 |true=>ML P o dst r K bS tm s
 |false=>PL P o dst b r K bS tm s
theorem Mj {K:Tm→St→Prop} {dst:Option Nat} {o:AO} {b:Nat} {r:List (AI×Nat)} {bS:List St} {tm:Tm} {s:St} (h:OL P o dst b r K bS tm s) :
 iT P K ((.op dst none o,b)::r) bS tm s:=by
 unfold OL at h
 simp only[iT,vE]
 cases hc:o.core with
 | true=>
  simp only[hc,ML]at h
  simp only[]
  split at h
  ·rename_i d s' he
   exact⟨d,s',by simpa[uZ,guarded]using he,h⟩
  ·exact h.elim
 | false=>
  simp only[hc,PL]at h
  simp only[]
  split at h
  ·rename_i d s' he
   exact⟨d,by simp[kR,he],fun _=>G0 h.1,h.2⟩
  ·exact h.elim
theorem RG {K:Tm→St→Prop} {dst:Option Nat} {f:Nat} {xs:List X} {b:Nat} {r:List (AI×Nat)} {bS:List St} {tm:Tm} {s:St} (h:CL true P f (xs.map (·.ev tm)) s (KL P K r (s::bS) tm dst)) :
 iT P K ((.call dst none f xs,b)::r) bS tm s:=by
 obtain⟨d,s',h1,h2⟩:=h
 exact⟨d,s',h1,h2⟩
theorem afT {K:Tm→St→Prop} {i:AI} {t:Nat} {w:Bool} {b:Nat} {r:List (AI×Nat)} {bS:List St} {tm:Tm} {s:St} {j:AI} (hf:(∃ d o,i = .op d none o∧j = .op d (some (t,w)) o)∨(∃ d f xs,i = .call d none f xs∧j = .call d (some (t,w)) f xs))
 (hg:tm.get t = .bool w) (h:iT P K ((i,b)::r) bS tm s):iT P K ((j,b)::r) bS tm s:=by
 rcases hf with ⟨d,o,rfl,rfl⟩|⟨d,f,xs,rfl,rfl⟩
 ·simp only [iT,vE]at h ⊢
  cases hc:o.core<;>simp only[hc]at h ⊢
  ·obtain⟨x,h1,h2,h3⟩:=h
   refine⟨x,by simpa[kR,hg]using h1,fun hk s' oq=>?_,h3⟩
   have sC:(AI.op d none o).kind = .load:=by
    cases d<;>cases o<;>first|exact hk|(cases hc;done)|(cases hk;done)
   simpa[kR,hg]using h2 sC s' oq
  ·obtain⟨x,s',h1,h2⟩:=h
   exact⟨x,s',by simpa[uZ,guarded,hg]using h1,h2⟩
 ·obtain⟨x,s',h1,h2⟩:=h
  exact⟨x,s',by simpa[uZ,guarded,hg]using h1,h2⟩
theorem U4 {K:Tm→St→Prop} {i:AI} {t:Nat} {w:Bool} {b:Nat} {r:List (AI×Nat)} {bS:List St} {tm:Tm} {s:St} {j:AI} (hf:(∃ d o,i = .op d none o∧j = .op d (some (t,w)) o)∨(∃ d f xs,i = .call d none f xs∧j = .call d (some (t,w)) f xs))
 (hg:tm.get t = .bool (!w)∨∃ l,tm.get t = .tuple l) (h:iT P K r (if iQ i.kind then s::bS else bS) (tm.put i.dst (.tuple [])) s):iT P K ((j,b)::r) bS tm s:=by
 rcases hf with ⟨d,o,rfl,rfl⟩|⟨d,f,xs,rfl,rfl⟩
 ·simp only [iT,vE]at h ⊢
  cases hc:o.core<;>simp only[hc]at h ⊢
  ·refine⟨.tuple [], ?_,fun hk s' oq=> ?_,h⟩
   ·rcases hg with hg|⟨l,hg⟩<;>simp[kR,hg]
   ·rcases hg with hg|⟨l,hg⟩<;>simp[kR,hg]
  ·refine⟨.tuple [],s, ?_,h⟩
   rcases hg with hg|⟨l,hg⟩<;>simp[uZ,guarded,hg]
 ·refine⟨.tuple [],s, ?_,h⟩
  rcases hg with hg|⟨l,hg⟩<;>simp[uZ,guarded,hg]
theorem PI {K:Tm→St→Prop} {i j:AI} {t:Nat} {w:Bool} {b:Nat} {r:List (AI×Nat)} {bS:List St} {tm:Tm} {s:St} (hf:(∃ d o,i = .op d none o∧j = .op d (some (t,w)) o)∨(∃ d f xs,i = .call d none f xs∧j = .call d (some (t,w)) f xs))
 (h:GL P (tm.get t) w i b r K bS tm s):iT P K ((j,b)::r) bS tm s:=by
 unfold GL at h
 split at h
 ·rename_i v hv
  by_cases e:v=w
  ·exact afT hf (by rw[hv,e]) (h.1 e)
  ·exact U4 hf (.inl (by rw[hv];cases v<;>cases w<;>simp_all)) (h.2 (by cases v<;>cases w<;>simp_all))
 ·rename_i l hl
  exact U4 hf (.inr ⟨l,hl⟩) h
 ·exact h.elim
theorem JO {K:Tm→St→Prop} {dst:Option Nat} {o:AO} {t:Nat} {w:Bool} {b:Nat} {r:List (AI×Nat)} {bS:List St} {tm:Tm} {s:St} (h:GL P (tm.get t) w (.op dst none o) b r K bS tm s) :
 iT P K ((.op dst (some (t,w)) o,b)::r) bS tm s:=PI (.inl ⟨dst,o,rfl,rfl⟩) h
theorem OR {K:Tm→St→Prop} {dst:Option Nat} {f:Nat} {xs:List X} {t:Nat} {w:Bool} {b:Nat} {r:List (AI×Nat)} {bS:List St} {tm:Tm} {s:St} (h:GL P (tm.get t) w (.call dst none f xs) b r K bS tm s) :
 iT P K ((.call dst (some (t,w)) f xs,b)::r) bS tm s:=PI (.inr ⟨dst,f,xs,rfl,rfl⟩) h
theorem CL.use {one:Bool} {f:Nat} {args:List D} {s:St} {d:D} {s':St} {K:D→St→Prop} (h:aH P f args s d s') (hk:K d s'):CL one P f args s K:=
 match one with
 |true=>⟨d,s',h,hk⟩
 |false=>h.use hk
theorem CU {one:Bool} {f:Nat} {args:List D} {s:St} {d:D} {s':St} {K:D→St→Prop} (h:aH P f args s d s') (hk:K d s'):CL one P f args s K:=CL.use h hk
theorem CR {f:Nat} {args:List D} {s:St} {Q K:D→St→Prop} (h:bV P f args s Q) (hk : ∀ d s',Q d s'→K d s'):CL false P f args s K:=bV.mono h hk
end
end Go.Abs
namespace Go.Abs
theorem nd {α:Type} {a b:α} (h:a=b):a=b:=h
def GJ (g:D) (w:Bool) (A C:Prop):Prop:=
 match g with
 | .bool b=>(b=w→A)∧(b=(!w)→C)
 | .tuple _=>C
 |_=>False
class Two where
 a:Prop
 c:Prop
def CB (d:D) [b:Two] : Prop:=wL d b.a b.c
def GB (d:D) (w:Bool) [b:Two] : Prop:=GJ d w b.a b.c
def ow (g:Option (Nat×Bool)) (tm:Tm) (A C:Prop):Prop:=
 match g with
 |none=>A
 |some (t,w)=>GJ (tm.get t) w A C
def lr (P:Program):List AI→(Tm→St→Prop)→Tm→St→Prop
 | [],K,tm,s=>K tm s
 | .op dst g o::r,K,tm,s=>ow g tm (match aV o tm s with|some (d,s')=>lr P r K (tm.put dst d) s'|none=>False) (lr P r K (tm.put dst (.tuple [])) s)
 | .call dst g f xs::r,K,tm,s=>ow g tm (CL false P f (xs.map (·.ev tm)) s fun d s'=>lr P r K (tm.put dst d) s') (lr P r K (tm.put dst (.tuple [])) s)
 | .nil dst g neg x::r,K,tm,s=>
  ow g tm (match x.ev tm with
   | .slice _ _ rows=>∀ b:Bool,(rows≠ []→b=false)→lr P r K (tm.put dst (.bool (if neg then !b else b))) s
   |_=>False) (lr P r K (tm.put dst (.tuple [])) s)
 | .kj dst g t xs::r,K,tm,s=>
  ow g tm (match tm.get t with
   | .ij f ph=>enters P f=true∧CL false P f (xs.map (·.ev tm)++ph) s fun d s'=>lr P r K (tm.put dst d) s'
   |_=>False) (lr P r K (tm.put dst (.tuple [])) s)
theorem va {g:Option (Nat×Bool)} {tm:Tm} {A C A' C':Prop} (h:ow g tm A C) (ha:A→A') (hc:C→C'):guarded g tm A' C':=by
 unfold ow at h
 unfold guarded
 cases g with
 |none=>exact ha h
 | some p=>
  obtain⟨t,w⟩:=p
  simp only[GJ]at h ⊢
  split at h
  ·rename_i hb;try simp only [hb]
   exact⟨fun e=>ha (h.1 e),fun e=>hc (h.2 e)⟩
  ·rename_i hb;try simp only [hb]
   exact hc h
  ·exact h.elim
theorem pW {P:Program} {K:Tm→St→Prop} : ∀ {is:List AI} {tm:Tm} {s:St},lr P is K tm s→jR P is K tm s
 | [],tm,s,h=>h
 | .op dst g o::r,tm,s,h=>by
  refine va h (fun h=>?_) pW
  split at h
  ·rename_i he;try simp only [he]
   exact pW h
  ·exact h.elim
 | .call dst g f xs::r,tm,s,h=>va h (fun h=>bV.mono h fun _ _ h=>pW h) pW
 | .nil dst g neg x::r,tm,s,h=>by
  refine va h (fun h=>?_) pW
  split at h
  ·rename_i he;try simp only [he]
   exact fun b hb=>pW (h b hb)
  ·exact h.elim
 | .kj dst g t xs::r,tm,s,h=>by
  refine va h (fun h=>?_) pW
  split at h
  ·rename_i he;try simp only [he]
   exact⟨h.1,bV.mono h.2 fun _ _ h=>pW h⟩
  ·exact h.elim
def ix (P:Program) (K:Tm→St→Prop):List (AI×Nat)→List St→Tm→St→Prop
 | [],_,tm,s=>K tm s
 |(.op dst g o,b)::r,bS,tm,s=>
  match o.core with
  |true=>ow g tm (match aV o tm s with|some (d,s')=>ix P K r (s::bS) (tm.put dst d) s'|none=>False) (ix P K r (s::bS) (tm.put dst (.tuple [])) s)
  |false=>ow g tm (match aV o tm s with|some (d,_)=>pO (.op dst none o) tm d (bS.take b)∧ix P K r bS (tm.put dst d) s|none=>False) (ix P K r bS (tm.put dst (.tuple [])) s)
 |(.call dst g f xs,_)::r,bS,tm,s=>ow g tm (CL true P f (xs.map (·.ev tm)) s fun d s'=>ix P K r (s::bS) (tm.put dst d) s') (ix P K r (s::bS) (tm.put dst (.tuple [])) s)
 |(.nil ..,_)::_,_,_,_=>False
 |(.kj ..,_)::_,_,_,_=>False
theorem Dn {P:Program} {t:Nat} {w:Bool} {tm:Tm} {i:AI} {b:Nat} {r:List (AI×Nat)} {K:Tm→St→Prop} {bS:List St} {s:St} {A C:Prop} (h:ow (some (t,w)) tm A C) (ha:A→iT P K ((i,b)::r) bS tm s)
 (hc:C→iT P K r (if iQ i.kind then s::bS else bS) (tm.put i.dst (.tuple [])) s):GL P (tm.get t) w i b r K bS tm s:=by
 simp only[ow,GJ]at h
 unfold GL
 split at h
 ·rename_i hb;try simp only [hb]
  exact⟨fun e=>ha (h.1 e),fun e=>hc (h.2 e)⟩
 ·rename_i hb;try simp only [hb]
  exact hc h
 ·exact h.elim
theorem nO {P:Program} {K:Tm→St→Prop} : ∀ {l:List (AI×Nat)} {bS:List St} {tm:Tm} {s:St},ix P K l bS tm s→iT P K l bS tm s
 | [],bS,tm,s,h=>h
 | (.op dst g o,b)::r,bS,tm,s,h=>by
  simp only[ix]at h
  cases hc:o.core with
  | true=>
   simp only[hc]at h
   have ha:(match aV o tm s with|some (d,s')=>ix P K r (s::bS) (tm.put dst d) s'|none=>False)→iT P K ((.op dst none o,b)::r) bS tm s:=by
    intro h
    refine Mj ?_
    simp only[OL,hc,ML]
    split at h
    ·rename_i he;try simp only [he]
     exact nO h
    ·exact h.elim
   cases g with
   |none=>exact ha h
   |some p=>
    obtain⟨t,w⟩:=p
    refine JO (Dn h ha fun h=>?_)
    simp only[vE,hc,if_true]
    exact nO h
  | false=>
   simp only[hc]at h
   have ha:(match aV o tm s with|some (d,_)=>pO (.op dst none o) tm d (bS.take b)∧ix P K r bS (tm.put dst d) s|none=>False)→iT P K ((.op dst none o,b)::r) bS tm s:=by
    intro h
    refine Mj ?_
    simp only[OL,hc,PL]
    split at h
    ·rename_i he;try simp only [he]
     exact⟨h.1,nO h.2⟩
    ·exact h.elim
   cases g with
   |none=>exact ha h
   |some p=>
    obtain⟨t,w⟩:=p
    refine JO (Dn h ha fun h=>?_)
    simp only[vE,hc]
    exact nO h
 | (.call dst g f xs,b)::r,bS,tm,s,h=>by
  simp only[ix]at h
  have ha:(CL true P f (xs.map (·.ev tm)) s fun d s'=>ix P K r (s::bS) (tm.put dst d) s')→iT P K ((.call dst none f xs,b)::r) bS tm s:=
   fun⟨d,s',h1,h2⟩=>RG ⟨d,s',h1,nO h2⟩
  cases g with
  |none=>exact ha h
  |some p=>
   obtain⟨t,w⟩:=p
   exact OR (Dn h ha fun h=>nO h)
 |(.nil ..,_)::_,bS,tm,s,h=>h.elim
 |(.kj ..,_)::_,bS,tm,s,h=>h.elim
section
variable {P:Program} {B:gW} {nt:Nat}
def ki (P:Program) (B:gW) (nt:Nat):AC→(Exit→Tm→St→Prop)→Tm→St→Prop
 | .skip,Q,tm,s=>Q .normal tm s
 | .run is,Q,tm,s=>lr P is (Q .normal) tm s
 | .par is na,Q,tm,s=>match ov is na with|some l=>ix P (Q .normal) l [] tm s|none=>False
 | .seq a b,Q,tm,s=>ki P B nt a (lR (ki P B nt b Q) Q) tm s
 | .cond x a b,Q,tm,s=>wL (x.ev tm) (ki P B nt a Q tm s) (ki P B nt b Q tm s)
 | .block id a,Q,tm,s=>ki P B nt a (jq id Q) tm s
 | .loop a,Q,tm,s=>bp P B nt a Q tm s
 | .exit id,Q,tm,s=>Q (.exit id) tm s
 | .scope a,Q,tm,s=>mK P B nt a a Q tm s
 | .label _,Q,tm,s=>Q .normal tm s
 | .goto l,Q,tm,s=>Q (.goto l) tm s
 | .ret,Q,tm,s=>Q .ret tm s
theorem jz : ∀ {ac:AC} {Q:Exit→Tm→St→Prop} {tm:Tm} {s:St},ki P B nt ac Q tm s→Sem P B nt ac Q tm s:=by
 intro ac
 induction ac with
 |skip=>exact fun h=>Sem.skip h
 |run is=>exact fun h=>Sem.run (pW h)
 |par is na=>
  intro Q tm s h
  simp only[ki]at h
  split at h
  ·exact Sem.aoB ‹_› (nO h)
  ·exact h.elim
 |seq a b UL UM=>
  intro Q tm s h
  refine Sem.seq ((UL h).mono fun e tm s hq=>?_)
  cases e with
  |normal=>exact UM hq
  |_=>exact hq
 |cond x a b UL UM=>
  intro Q tm s h
  refine Sem.aj4 ?_
  simp only[ki]at h
  unfold wL at h ⊢
  split at h
  ·exact⟨fun e=>UL (h.1 e),fun e=>UM (h.2 e)⟩
  ·exact h.elim
 |block id a ih=>exact fun h=>Sem.block (ih h)
 |loop a ih=>exact fun h=>Sem.loop h
 |exit id=>exact fun h=>Sem.exit h
 |scope a ih=>exact fun h=>Sem.scope h
 |label l=>exact fun h=>Sem.label h
 |goto l=>exact fun h=>Sem.goto h
 |ret=>exact fun h=>Sem.ret h
section
variable (Q:Exit→Tm→St→Prop) (N:Tm→St→Prop) (tm:Tm) (s:St) (a b:AC) (is:List AI) (x:X)
theorem X1:ki P B nt .skip Q tm s=Q .normal tm s:=nd rfl
theorem ac6:ki P B nt (.run is) Q tm s=lr P is (Q .normal) tm s:=nd rfl
theorem ac7 (na:List (Nat×Nat)):ki P B nt (.par is na) Q tm s=match ov is na with|some l=>ix P (Q .normal) l [] tm s|none=>False:=nd rfl
theorem ac8:ki P B nt (.seq a b) Q tm s=ki P B nt a (lR (ki P B nt b Q) Q) tm s:=nd rfl
theorem X2:ki P B nt (.cond x a b) Q tm s = @CB (x.ev tm) ⟨ki P B nt a Q tm s,ki P B nt b Q tm s⟩:=nd rfl
theorem U5 (id:Nat):ki P B nt (.block id a) Q tm s=ki P B nt a (jq id Q) tm s:=nd rfl
theorem X3:ki P B nt (.loop a) Q tm s=bp P B nt a Q tm s:=nd rfl
theorem U6:ki P B nt (.scope a) Q tm s=mK P B nt a a Q tm s:=nd rfl
theorem X4 (id:Nat):ki P B nt (.exit id) Q tm s=Q (.exit id) tm s:=nd rfl
theorem U7 (id:Nat):ki P B nt (.label id) Q tm s=Q .normal tm s:=nd rfl
theorem X5 (id:Nat):ki P B nt (.goto id) Q tm s=Q (.goto id) tm s:=nd rfl
theorem ac9:ki P B nt .ret Q tm s=Q .ret tm s:=nd rfl
theorem ada:lR N Q .normal tm s=N tm s:=nd rfl
theorem adb:lR N Q .ret tm s=Q .ret tm s:=nd rfl
theorem ade (id:Nat):lR N Q (.exit id) tm s=Q (.exit id) tm s:=nd rfl
theorem adf (id:Nat):lR N Q (.goto id) tm s=Q (.goto id) tm s:=nd rfl
theorem X6 (id:Nat):jq id Q .normal tm s=Q .normal tm s:=nd rfl
theorem X7 (id:Nat):jq id Q .ret tm s=Q .ret tm s:=nd rfl
theorem X8 (id l:Nat):jq id Q (.goto l) tm s=Q (.goto l) tm s:=nd rfl
theorem X9 (id i:Nat):jq id Q (.exit i) tm s=if i=id then Q .normal tm s else Q (.exit i) tm s:=nd rfl
end
theorem bp.kO {a:AC} {Q:Exit→Tm→St→Prop} {tm:Tm} {s:St} (h:ki P B nt a (lR (bp P B nt a Q) Q) tm s):bp P B nt a Q tm s:=bp.once (jz h)
theorem mK.kO {a r:AC} {Q:Exit→Tm→St→Prop} {tm:Tm} {s:St} (h:ki P B nt r (Bc P B nt a Q) tm s):mK P B nt a r Q tm s:=mK.once (jz h)
def yy (tm:Tm) (n m:Nat):Tm→Prop
 | []=>True
 |(k,d)::r=>Wk ((tm.get k).fg n m) d∧yy tm n m r
theorem yy.get {tm:Tm} {n m:Nat} : ∀ {bJ:Tm},yy tm n m bJ→∀ t,Wk ((tm.get t).fg n m) (bJ.get t)
 | [],_,t=>Wk.junk _
 |(k,d)::r,h,t=>by
  simp only[Tm.get]
  split
  ·rename_i hk;subst hk;exact h.1
  ·exact yy.get h.2 t
theorem Holds.re {Q:Exit→Tm→St→Prop} {tm bJ:Tm} {s:St} {fx:List (List D)} {act:Act} {w:World} (n m:Nat) (hn:B.s.al.length≤n) (hm:B.s.aA.length≤m) (ht:yy tm n m bJ) (ho:il (s.cut n m).al fx)
 (h:Holds B nt tm s act w):Holds B nt bJ ⟨fx,(s.cut n m).aA⟩ act w:=by
 obtain⟨M,e,r,hr,h1,h2⟩:=h
 obtain⟨r',le⟩:=(r.cut n m).qA ho
 have e':=e.cut hn hm
 refine⟨M,e'.trans ⟨le,fun _ _ _ _=>rfl,fun o h1 h2=>?_,fun t b c z hl e=> .inl ⟨hl,c,z,e⟩,fun _ _ h=>(h rfl).elim,Nat.le_refl _,rfl,rfl,rfl⟩,r',fun k=>((ht.get k) _ _ _ ((hr k).fg n m)).mono le,h1,h2⟩
 rw[← ho.len]at h2
 exact h1.elim (fun h1=>absurd h2 (Nat.not_lt.2 h1)) fun h1=>(h1 rfl).elim
theorem bp.re {a:AC} {Q:Exit→Tm→St→Prop} {tm:Tm} {s:St} (bJ:Tm) (fx:List (List D)) (n m:Nat) (hn:B.s.al.length≤n) (hm:B.s.aA.length≤m) (ht:yy tm n m bJ) (ho:il (s.cut n m).al fx)
 (h:bp P B nt a Q bJ ⟨fx,(s.cut n m).aA⟩):bp P B nt a Q tm s:=
 fun c hc act w hh=>h c hc act w (hh.re (Q:=Q) n m hn hm ht ho)
theorem bp.ind {ι:Type} {a:AC} {Q:Exit→Tm→St→Prop} (I:ι→Prop) (μ:ι→Nat) (TM:ι→Tm) (ST:ι→St)
 (step : ∀ i,I i→(∀ j,I j→μ j<μ i→bp P B nt a Q (TM j) (ST j))→ki P B nt a (lR (bp P B nt a Q) Q) (TM i) (ST i)) : ∀ i,I i→bp P B nt a Q (TM i) (ST i):=by
 have key : ∀ n i,μ i<n→I i→bp P B nt a Q (TM i) (ST i):=by
  intro n
  induction n with
  |zero=>intro i h;exact absurd h (Nat.not_lt_zero _)
  |succ n ih=>exact fun i h hi=>bp.kO (step i hi fun j hj hD=>ih j (by omega) hj)
 exact fun i hi=>key (μ i+1) i (Nat.lt_succ_self _) hi
theorem drop_cons {α:Type} {l rest:List α} {k:Nat} {x:α} (h:l.drop k=x::rest):l[k]? = some x∧l.drop (k+1)=rest∧decide ((k:Int)<(l.length:Int))=true∧k<l.length:=by
 have h1:l[k]? = some x:=by
  have:(l.drop k)[0]? = some x:=by rw[h];rfl
  simpa using this
 have h2:=(List.getElem?_eq_some_iff.1 h1).1
 refine⟨h1, ?_,by simpa using h2,h2⟩
 have:l.drop (k+1)=(l.drop k).drop 1:=by rw[List.drop_drop]
 rw[this,h];rfl
theorem drop_nil {α:Type} {l:List α} {k:Nat} (h:l.drop k = []):decide ((k:Int)<(l.length:Int))=false:=by
 have:=List.drop_eq_nil_iff.1 h
 simp;omega
theorem bp.sq {a:AC} {Q:Exit→Tm→St→Prop} {tm:Tm} {s:St} (t z':Nat) {z:Nat} (hw:tm.get t = .slice .full z [])
 (h:bp P B nt a Q (tm.set t (.slice (.tok s.aA.length) z' [])) {s with aA:=s.aA++ [some 0]}):bp P B nt a Q tm s:=by
 intro c hc act w ⟨M,e,r,ht,h1,h2⟩
 obtain⟨r',le⟩:=r.blank
 refine h c hc act w ⟨_,JL e le,r',fun k=>?_,h1,h2⟩
 rw[Tm.IC]
 split
 ·rename_i hk;subst hk;have:=ht k;rw[hw]at this;exact this.own
 ·exact(ht k).mono le
theorem bp.zz {a:AC} {Q:Exit→Tm→St→Prop} {tm:Tm} {s:St} (o i z':Nat) {z:Nat} {cs:List D} (hc:s.al[o]? = some cs) (hi:cs[i]? = some (.slice .full z []))
 (h:bp P B nt a Q tm ⟨s.al.set o (cs.set i (.slice (.tok s.aA.length) z' [])),s.aA++ [some 0]⟩):bp P B nt a Q tm s:=by
 intro c hcc act w hh
 obtain⟨M,e,r,ht,h1,h2⟩:=hh
 obtain⟨r',le⟩:=r.blank
 have le':Le M s (M.fN s.aA.length none) ⟨s.al.set o (cs.set i (.slice (.tok s.aA.length) z' [])),s.aA++ [some 0]⟩:=⟨le.G,by simp,le.loc,le.t,le.tk⟩
 have le2:Le (M.fN s.aA.length none) {s with aA:=s.aA++ [some 0]} (M.fN s.aA.length none) ⟨s.al.set o (cs.set i (.slice (.tok s.aA.length) z' [])),s.aA++ [some 0]⟩:=
  ⟨fun _ _ _ h=>h,by simp,fun _ _=> .refl _,Nat.le_refl _,fun t n' _ e=>⟨n',e,Nat.le_refl _,fun _=>rfl⟩⟩
 have r2:Rel (M.fN s.aA.length none) ⟨s.al.set o (cs.set i (.slice (.tok s.aA.length) z' [])),s.aA++ [some 0]⟩ w:=by
  refine⟨r'.comm,fun o' ds e=>?_,fun o ho=>r'.j7 o (by simpa using ho),fun o o' ho o8=>r'.inj o o' (by simpa using ho) (by simpa using o8),r'.tok,
   fun t b c z o hv e ho=>r'.fM t b c z o hv e (by simpa using ho),r'.gN⟩
  simp only[List.getElem?_set]at e
  split at e
  ·rename_i ho
   subst ho
   split at e
   ·cases e
    obtain⟨vs,T,g1,g2,g3,g4⟩:=r.obj o cs hc
    refine⟨vs,T,g1,by simpa using g2,g3,fun j d v e1 e2=>?_⟩
    rw[List.getElem?_set]at e1
    split at e1
    ·rename_i hj
     subst hj
     split at e1
     ·cases e1
      exact((g4 i _ v hi e2).own (z':=z')).mono le2
     ·cases e1
    ·exact(g4 j d v e1 e2).mono le'
   ·cases e
  ·obtain⟨vs,T,g1,g2,g3,g4⟩:=r'.obj o' ds e
   exact⟨vs,T,g1,g2,g3,fun i d v e1 e2=>(g4 i d v e1 e2).mono le2⟩
 have ee:Ext B.M B.s B.w (M.fN s.aA.length none) ⟨s.al.set o (cs.set i (.slice (.tok s.aA.length) z' [])),s.aA++ [some 0]⟩ w:=by
  refine(JL e le).trans ⟨le2,fun _ _ _ _=>rfl,fun o h1 h2=>?_,fun t b c z hl e=> .inl ⟨hl,c,z,e⟩,fun _ _ h=>(h rfl).elim,Nat.le_refl _,rfl,rfl,rfl⟩
  simp at h2
  exact h1.elim (fun h1=>absurd h2 (Nat.not_lt.2 h1)) fun h1=>(h1 rfl).elim
 exact h c hcc act w ⟨_,ee,r2,fun k=>(ht k).mono le',h1,h2⟩
theorem FK {ac r:AC} {l:Nat} {Q:Exit→Tm→St→Prop} {tm:Tm} {s:St} (hf:wK ac l=some r) (h:mK P B nt ac r Q tm s):Bc P B nt ac Q (.goto l) tm s:=⟨r,hf,h⟩
theorem Sem.ox {a b:AC} {Q:Exit→Tm→St→Prop} {tm:Tm} {s:St} (h:ki P B nt a (lR (Sem P B nt b Q) Q) tm s):Sem P B nt (.seq a b) Q tm s:=Sem.seq (jz h)
theorem Sem.re {a:AC} {Q:Exit→Tm→St→Prop} {tm:Tm} {s:St} (bJ:Tm) (fx:List (List D)) (n m:Nat) (hn:B.s.al.length≤n) (hm:B.s.aA.length≤m) (ht:yy tm n m bJ) (ho:il (s.cut n m).al fx)
 (h:Sem P B nt a Q bJ ⟨fx,(s.cut n m).aA⟩):Sem P B nt a Q tm s:=
 fun c hc act w hh=>h c hc act w (hh.re (Q:=Q) n m hn hm ht ho)
def Has (P:Program) (f nt:Nat) (res:List (Nat×Option (Bool×Nat))) (body:AC):Prop:=∃ fn,P.funcs[f]? = some fn∧cF P fn=some ⟨nt,res,body⟩
theorem aH.go {f:FuncId} {res:List (Nat×Option (Bool×Nat))} {body:AC} {args:List D} {s:St} {d:D} {s':St} (h0:Has P f nt res body) (hl:Nat.ble args.length nt=true)
 (h : ∀ (B:gW) (Q:Exit→Tm→St→Prop),B.s=s→rB s.al.length s.aA.length res d s'=Q→ki P B nt body Q (oc 0 args) s):aH P f args s d s':=by
 obtain⟨fn,hf,hc⟩:=h0
 exact aH.intro ⟨fn,hf,hc⟩ (Nat.le_of_ble_eq_true hl) fun B hB=>jz (h B _ hB rfl)
theorem aH.afW {f:FuncId} {pre post:List D} {rows qf:List (List D)} {z z' k k':Nat} (h:aH P f (pre++ .slice (.tok 0) z rows::post) ⟨[],[some k]⟩ (.slice (.tok 0) z' qf) ⟨[],[some k']⟩)
 (hp:D.bM 0 0 pre=true) (ha:D.bM 0 0 post=true) (hw:D.jb 0 0 rows=true) (hw':D.jb 0 0 qf=true)
 {s:St} {t:Nat} (ht:s.aA[t]? = some (some k)):aH P f (pre++ .slice (.tok t) z rows::post) s (.slice (.tok t) z' qf) ⟨s.al,s.aA.set t (some k')⟩:=by
 refine bV.frame [] [t] h (by simp) (by simp) (by simp) (by simpa using (List.getElem?_eq_some_iff.1 ht).1) rfl (fun i o' ds e1 e2=>by simp at e1) rfl (fun i t' e1=>?_)
  ?_ ?_ ?_
 ·cases i with
  |zero=>simp at e1;subst e1;simp[ht]
  |succ i=>simp at e1
 ·have h1:=fV [] [t] _ hp
  have h2:=fV [] [t] _ ha
  rw[gK]at h1 h2
  simp[gK,D.cU,Tag.cU,h1,h2,jY _ _ _ hw]
 ·have h1:=jr (n':=0) (m':=1) (Nat.le_refl 0) (Nat.zero_le 1) _ hp
  have h2:=jr (n':=0) (m':=1) (Nat.le_refl 0) (Nat.zero_le 1) _ ha
  rw[Ao]at h1 h2 ⊢
  simp only[List.length_nil,List.length_cons,List.all_append,h1,Bool.true_and,List.all_cons,h2,Bool.and_true,D.ok,Tag.ok,nN (Nat.zero_le 0) (Nat.zero_le 1) _ hw]
  rfl
 ·rintro _ _ ⟨rfl,rfl⟩
  refine⟨by simp[D.back,D.cU,Tag.cU,kE,jY _ _ _ hw'], ?_⟩
  simp[St.back,lq]
theorem aoE (A C:Prop) : @CB (.bool true) ⟨A,C⟩=A:=by simp[CB,wL]
theorem aoF (A C:Prop) : @CB (.bool false) ⟨A,C⟩=C:=by simp[CB,wL]
theorem afY (b:Bool) (A C:Prop) : @CB (.bool (!b)) ⟨A,C⟩ = @CB (.bool b) ⟨C,A⟩:=by
 cases b<;>simp[CB,wL]
theorem Mk {b:Bool} {A C:Prop} (h1:b=true→A) (h2:b=false→C) : @CB (.bool b) ⟨A,C⟩:=⟨h1,h2⟩
theorem afZ {b:Bool} {A C:Prop} (h:b=true) (h1:b=true→A) : @CB (.bool b) ⟨A,C⟩:=Mk h1 (fun h'=>by rw[h]at h';cases h')
theorem af0 {b:Bool} {A C:Prop} (h:b=false) (h1:b=false→C) : @CB (.bool b) ⟨A,C⟩:=Mk (fun h'=>by rw[h]at h';cases h') h1
theorem aj7 {n m:Nat} {res:List (Nat×Option (Bool×Nat))} {d:D} {s':St} {tm:Tm} {s:St} {Q:Exit→Tm→St→Prop} (hQ:rB n m res d s'=Q)
 (h : ∃ l,bh res tm s=some l∧Wk ((bj l).fg n m) d∧il (s.cut n m).al s'.al∧(s.cut n m).aA=s'.aA):Q .ret tm s:=hQ ▸ h
theorem aj8 {n m:Nat} {res:List (Nat×Option (Bool×Nat))} {d:D} {s':St} {tm:Tm} {s:St} {Q:Exit→Tm→St→Prop} (hQ:rB n m res d s'=Q)
 (h : ∃ l,bh res tm s=some l∧Wk ((bj l).fg n m) d∧il (s.cut n m).al s'.al∧(s.cut n m).aA=s'.aA):Q .normal tm s:=hQ ▸ h
end
attribute [go_sem] X1 ac6 ac7 ac8 X2 U5 X3 U6 X4 U7 X5 ac9 ada adb ade adf X6 X7 X8 X9
theorem U8 : ∀ (tm:Tm) (s:St) (x:X),aV (AO.mv x) tm s=some (X.ev tm x,s):=
 fun tm s x=>nd (aV.eq_1 tm s x)
theorem U9 : ∀ (tm:Tm) (s:St) (c a b:X),
 aV (AO.pick c a b) tm s =
  match X.ev tm c with
  |D.bool t=>some (if t=true then X.ev tm a else X.ev tm b,s)
  |x=>none:=
 fun tm s c a b=>nd (aV.eq_2 tm s c a b)
theorem Va : ∀ (tm:Tm) (s:St) (zero:List D),
 aV (AO.alloc zero) tm s=some (D.ptr s.al.length 0,{al:=s.al++ [zero],aA:=s.aA}):=
 fun tm s zero=>nd (aV.eq_3 tm s zero)
theorem Vb : ∀ (tm:Tm) (s:St) (x:X),
 aV (AO.box x) tm s =
  match (X.ev tm x).row with
  |some r=>some (D.ptr s.al.length 0,{al:=s.al++ [r],aA:=s.aA})
  |none=>none:=
 fun tm s x=>nd (aV.eq_4 tm s x)
theorem Vc : ∀ (tm:Tm) (s:St) (zero:List D) (parts:List (Nat×Nat×X)),
 aV (AO.build zero parts) tm s =
  match sQ zero (List.map (fun(p:Nat×Nat×X)=>(p.fst,p.snd.fst,X.ev tm p.snd.snd)) parts)with
  |some cs=>some (D.agg cs,s)
  |none=>none:=
 fun tm s zero parts=>nd (aV.eq_5 tm s zero parts)
theorem Vd : ∀ (tm:Tm) (s:St) (zero:List D) (size n:Nat) (parts:List (Nat×X)),
 aV (AO.dv zero size n parts) tm s =
  match kV size (gT zero n) (List.map (fun(p:Nat×X)=>(p.fst,X.ev tm p.snd)) parts)with
  |some rows=>some (D.slice Tag.full size rows,s)
  |none=>none:=
 fun tm s zero size n parts=>nd (aV.eq_6 tm s zero size n parts)
theorem Ve : ∀ (tm:Tm) (s:St) (zero:List D) (size n:Nat) (parts:List (Nat×X)),
 aV (AO.w6 zero size n parts) tm s =
  match kV size (gT zero n) (List.map (fun(p:Nat×X)=>(p.fst,X.ev tm p.snd)) parts)with
  |some rows=>
   some (D.slice (Tag.tok s.aA.length) size rows,{al:=s.al,aA:=s.aA++ [some rows.length]})
  |none=>none:=
 fun tm s zero size n parts=>nd (aV.eq_7 tm s zero size n parts)
theorem Vf : ∀ (tm:Tm) (s:St) (x:X),
 aV (AO.CN x) tm s =
  match X.ev tm x with
  | D.slice (Tag.tok t _) z rows=>
   if rows≠ []∧s.aA[t]? = some (some rows.length)then
    some (D.slice Tag.shared z rows,{al:=s.al,aA:=s.aA.set t none})
   else none
  |x=>none:=
 fun tm s x=>nd (aV.eq_8 tm s x)
theorem Vg : ∀ (tm:Tm) (s:St) (x:X) (agg:Bool) (size:Nat),
 aV (AO.load x agg size) tm s =
  match X.ev tm x with
  | D.ptr o off=>
   match s.al[o]? with
   |some cs=>
    match part cs off agg size with
    |some d=>some (d,s)
    |none=>none
   |none=>none
  |D.dR row off=>
   match part row off agg size with
   |some d=>some (d,s)
   |none=>none
  |x=>A2 x agg size s:=
 fun tm s x agg size=>nd (aV.eq_9 tm s x agg size)
theorem RH : ∀ (tm:Tm) (s:St) (p x:X) (size:Nat),
 aV (AO.store p x size) tm s =
  match X.ev tm p,(X.ev tm x).row with
  | D.ptr o off,some r=>
   match s.al[o]? with
   | some cs=>
    if r.length=size∧off+size≤cs.length then
     some (D.tuple [],{al:=s.al.set o (gS cs off r),aA:=s.aA})
    else none
   |none=>none
  |x,gh=>CY x gh size s:=
 fun tm s p x size=>nd (aV.eq_10 tm s p x size)
theorem RI : ∀ (tm:Tm) (s:St) (x:X),
 aV (AO.cz x) tm s =
  match X.ev tm x with
  |D.ptr o off=>some (D.ptr o off,s)
  |D.dR row off=>some (D.dR row off,s)
  |x=>match QM x with|some d=>some (d,s)|none=>none:=
 fun tm s x=>nd (aV.eq_11 tm s x)
theorem RJ : ∀ (tm:Tm) (s:St) (op:BinOp) (x y:X),
 aV (AO.bin op x y) tm s =
  match zk op (X.ev tm x) (X.ev tm y)with
  |some d=>some (d,s)
  |none=>none:=
 fun tm s op x y=>nd (aV.eq_12 tm s op x y)
theorem RK : ∀ (tm:Tm) (s:St) (neg:Bool) (x y:X),
 aV (AO.Ju neg x y) tm s =
  match X.ev tm x,X.ev tm y with
  |D.bool a,D.bool b=>some (D.bool (if neg=true then !a==b else a==b),s)
  |x,gh=>none:=
 fun tm s neg x y=>nd (aV.eq_13 tm s neg x y)
theorem RL : ∀ (tm:Tm) (s:St) (neg:Bool) (ks:List Nat) (x y:X),
 aV (AO.eqs neg ks x y) tm s =
  match X.ev tm x,X.ev tm y with
  |D.agg a,D.agg b=>
   match mw ks a b with
   |some e=>some (D.bool (if neg=true then !e else e),s)
   |none=>none
  |x,gh=>none:=
 fun tm s neg ks x y=>nd (aV.eq_14 tm s neg ks x y)
theorem RM : ∀ (tm:Tm) (s:St) (neg:Bool) (x y:X),
 aV (AO.Jv neg x y) tm s =
  match X.ev tm x,X.ev tm y with
  |D.eW,D.eW=>some (D.bool !neg,s)
  |D.ptr o off,D.eW=>some (D.bool neg,s)
  |D.dR row off,D.eW=>some (D.bool neg,s)
  |x,gh=>none:=
 fun tm s neg x y=>nd (aV.eq_15 tm s neg x y)
theorem RN : ∀ (tm:Tm) (s:St) (op:UnOp) (x:X),
 aV (AO.un op x) tm s =
  match LD op (X.ev tm x)with
  |some d=>some (d,s)
  |none=>none:=
 fun tm s op x=>nd (aV.eq_16 tm s op x)
theorem RO : ∀ (tm:Tm) (s:St) (k:IntKind) (x:X),
 aV (AO.conv k x) tm s =
  match X.ev tm x with
  |D.int k_1 n=>some (D.int k (k.wrap n),s)
  |x=>none:=
 fun tm s k x=>nd (aV.eq_17 tm s k x)
theorem RP : ∀ (tm:Tm) (s:St) (x:X),
 aV (AO.Gv x) tm s =
  match X.ev tm x with
  |D.slice g size rows=>
   match pV rows with
   |some b=>some (D.str b,s)
   |none=>none
  |x=>none:=
 fun tm s x=>nd (aV.eq_18 tm s x)
theorem RQ : ∀ (tm:Tm) (s:St) (x:X),
 aV (AO.Ab x) tm s =
  match X.ev tm x with
  |D.str l=>some (D.slice Tag.shared 1 (List.map (fun(c:UInt8)=> [D.int IntKind.u8 ↑c.toNat]) l),s)
  |x=>none:=
 fun tm s x=>nd (aV.eq_19 tm s x)
theorem RR : ∀ (tm:Tm) (s:St) (size:Nat) (x:X) (lo hi:Option X),
 aV (AO.CO size x lo hi) tm s =
  match X.ev tm x with
  | D.slice g z rows=>
   match vq (Option.map (fun(x:X)=>X.ev tm x) lo),
    vr (Option.map (fun(x:X)=>X.ev tm x) hi) rows.length with
   | some l,some h=>
    if(rows = []∨z=size)∧0≤l∧l≤h∧h≤ ↑rows.length then
     some
      (D.slice (if l=0 then g.cut (decide (h = ↑rows.length))else Tag.shared) z
       (List.drop l.toNat (List.take h.toNat rows)),
       s)
    else none
   |x,gh=>none
  |x=>match zm x (Option.map (fun(x:X)=>X.ev tm x) lo) (Option.map (fun(x:X)=>X.ev tm x) hi)with|some d=>some (d,s)|none=>none:=
 fun tm s size x lo hi=>nd (aV.eq_20 tm s size x lo hi)
theorem RS : ∀ (tm:Tm) (s:St) (x:X) (lo hi:Option X),
 aV (AO.LA x lo hi) tm s =
  match X.ev tm x with
  | D.str t=>
   match vq (Option.map (fun(x:X)=>X.ev tm x) lo),vr (Option.map (fun(x:X)=>X.ev tm x) hi) t.length with
   |some l,some h=>
    if 0≤l∧l≤h∧h≤ ↑t.length then some (D.str (List.drop l.toNat (List.take h.toNat t)),s)else none
   |x,gh=>none
  |x=>none:=
 fun tm s x lo hi=>nd (aV.eq_21 tm s x lo hi)
theorem RT : ∀ (tm:Tm) (s:St) (x:X) (off:Nat),
 aV (AO.aw x off) tm s =
  match X.ev tm x with
  |D.ptr o k=>some (D.ptr o (k+off),s)
  |D.dR row k=>some (D.dR row (k+off),s)
  |x=>match Gy x off with|some d=>some (d,s)|none=>none:=
 fun tm s x off=>nd (aV.eq_22 tm s x off)
theorem RU : ∀ (tm:Tm) (s:St) (x:X) (off:Nat) (agg:Bool) (size:Nat),
 aV (AO.E4 x off agg size) tm s =
  match X.ev tm x with
  |D.agg cs=>
   match part cs off agg size with
   |some d=>some (d,s)
   |none=>none
  |x=>none:=
 fun tm s x off agg size=>nd (aV.eq_23 tm s x off agg size)
theorem RV : ∀ (tm:Tm) (s:St) (x i:X) (size:Nat),
 aV (AO.cH x i size) tm s =
  match X.ev tm x,X.ev tm i with
  | D.slice g z rows,D.int k n=>
   if 0≤n∧z=size then
    match rows[n.toNat]? with
    |some row=>some (D.dR row 0,s)
    |none=>none
   else none
  |x,gh=>match Ad x gh size with|some d=>some (d,s)|none=>none:=
 fun tm s x i size=>nd (aV.eq_24 tm s x i size)
theorem RW : ∀ (tm:Tm) (s:St) (x i:X),
 aV (AO.CP x i) tm s =
  match X.ev tm x,X.ev tm i with
  | D.str t,D.int k n=>
   if 0≤n then
    match t[n.toNat]? with
    |some c=>some (D.int IntKind.u8 ↑c.toNat,s)
    |none=>none
   else none
  |x,gh=>none:=
 fun tm s x i=>nd (aV.eq_25 tm s x i)
theorem RX : ∀ (tm:Tm) (s:St) (x:X) (i:Nat),
 aV (AO.ext x i) tm s =
  match X.ev tm x with
  |D.tuple ds=>
   match ds[i]? with
   |some d=>some (d,s)
   |none=>none
  |x=>none:=
 fun tm s x i=>nd (aV.eq_26 tm s x i)
theorem RY : ∀ (tm:Tm) (s:St) (x:X),
 aV (AO.w7 x) tm s =
  match X.ev tm x with
  |D.str t=>some (D.int IntKind.i64 ↑t.length,s)
  |x=>none:=
 fun tm s x=>nd (aV.eq_27 tm s x)
theorem RZ : ∀ (tm:Tm) (s:St) (x:X),
 aV (AO.len x) tm s =
  match X.ev tm x with
  |D.slice g size rows=>some (D.int IntKind.i64 ↑rows.length,s)
  |x=>match Ix x with|some d=>some (d,s)|none=>none:=
 fun tm s x=>nd (aV.eq_28 tm s x)
theorem R0 : ∀ (tm:Tm) (s:St) (size bytes:Nat) (x y:X),
 aV (AO.app size bytes x y) tm s =
  match X.ev tm x with
  |D.slice g z rows=>jo size bytes (D.slice g z rows) (X.ev tm y) s
  |d=>zn size bytes d (X.ev tm y) s:=
 fun tm s size bytes x y=>nd (aV.eq_29 tm s size bytes x y)
theorem R3 : ∀ (tm:Tm) (s:St) (isMax:Bool) (x y:X),
 aV (AO.mm isMax x y) tm s =
  match X.ev tm x,X.ev tm y with
  |D.int k a,D.int k' b=>
   if k=k' then some (D.int k (if isMax=true then if b > a then b else a else if b<a then b else a),s)
   else none
  |x,gh=>none:=
 fun tm s isMax x y=>nd (aV.eq_30 tm s isMax x y)
theorem R4 (tm:Tm) (s:St) (r:List D) (T:TypeId):aV (AO.vn (.eW::r) T) tm s=some (.ptr s.al.length 0,{al:=s.al++ [.ga T s.al.length::r],aA:=s.aA}):=nd rfl
theorem R5 (tm:Tm) (s:St) (x:X) (T:TypeId):aV (AO.CQ x T) tm s =
 match (x.ev tm).row with
 |some (.eW::r)=>some (.ptr s.al.length 0,{al:=s.al++ [.ga T s.al.length::r],aA:=s.aA})
 |_=>none:=nd rfl
theorem R6 (tm:Tm) (s:St) (x y:X):aV (AO.apps x y) tm s =
 match y.ev tm with
 | .str l=>CX (x.ev tm) (.slice .shared 1 (l.map fun c=> [.int .u8 c.toNat])) s
 |_=>none:=nd rfl
theorem R7 (tm:Tm) (s:St) (x y:X):aV (AO.CS x y) tm s=CX (x.ev tm) (y.ev tm) s:=nd rfl
theorem R8 (tm:Tm) (s:St) (f:Nat) (xs:List X):aV (AO.wG f xs) tm s=some (.ij f (xs.map fun x=>x.ev tm),s):=nd rfl
theorem R9 (tm:Tm) (s:St):aV AO.wH tm s=some (.gR s.al.length,{al:=s.al++ [[]],aA:=s.aA}):=nd rfl
theorem Sb (tm:Tm) (s:St) (m k v:X):aV (AO.A0 m k v) tm s =
 match m.ev tm,k.ev tm,v.ev tm with
 | .gR o, .str key, .slice g z rows=>
  match s.al[o]? with
  |some cs=>match zl key (.slice g z rows) cs with|some kH=>some (.tuple [],{al:=s.al.set o kH,aA:=s.aA})|none=>none
  |none=>none
 |_,_,_=>none:=nd rfl
theorem Sc (tm:Tm) (s:St) (m k:X) (zero:D):aV (AO.yh m k zero) tm s =
 match m.ev tm,k.ev tm with
 | .gR o, .str key=>
  match s.al[o]? with
  |some cs=>match A1 key zero cs with|some d=>some (d,s)|none=>none
  |none=>none
 |_,_=>none:=nd rfl
theorem Sd (tm:Tm) (s:St) (o:FO) (x y:X):aV (AO.sP o x y) tm s=match sh o (x.ev tm) (y.ev tm)with|some d=>some (d,s)|none=>none:=nd rfl
theorem Se (tm:Tm) (s:St) (size bytes:Nat) (zero:List D) (l c:X):aV (AO.CT size bytes zero l c) tm s =
 match l.ev tm,c.ev tm with
 | .int .i64 n, .int .i64 m=>if n=m∧0≤n∧n*((bytes:Int)+1)≤bq then some (.dS size s.al.length 0 n.toNat,{s with al:=s.al++ [.int .i64 ((0:Nat):Int)::(gT zero n.toNat).flatten]})else none
 |_,_=>none:=nd rfl
theorem Ml (o:FO) (x y:X):(AO.sP o x y).core=false:=nd rfl
theorem Mm (size bytes:Nat) (zero:List D) (l c:X):(AO.CT size bytes zero l c).core=true:=nd rfl
theorem Mn (f:Nat) (xs:List X):(AO.wG f xs).core=false:=nd rfl
theorem Mp:AO.wH.core=true:=nd rfl
theorem Mq (m k v:X):(AO.A0 m k v).core=true:=nd rfl
theorem Mr (m k:X) (zero:D):(AO.yh m k zero).core=false:=nd rfl
theorem Vh (n m f:Nat) (cs:List D):D.fg n m (.ij f cs) = .ij f (D.iD n m cs):=nd (by simp only[D.fg])
theorem Vi (n m:Nat) (o:Nat):D.fg n m (.gR o)=if o<n then .gR o else .junk:=nd (by simp only[D.fg])
theorem Sf (d:Option Nat) (g:Option (Nat×Bool)) (t:Nat) (xs:List X):(AI.kj d g t xs).dst=d:=nd rfl
theorem Ms (x y:X):(AO.CS x y).core=true:=nd rfl
theorem Mt (z:List D) (T:TypeId):(AO.vn z T).core=true:=nd rfl
theorem Mu (x:X) (T:TypeId):(AO.CQ x T).core=true:=nd rfl
theorem Mv (x y:X):(AO.apps x y).core=true:=nd rfl
theorem Vj (n m:Nat) (v:Value):D.fg n m (.val v) = .val v:=nd (by simp only[D.fg])
theorem Vk (n m:Nat) (T:TypeId) (o:Nat):D.fg n m (.ga T o)=if o<n then .ga T o else .junk:=nd (by simp only[D.fg])
theorem Ya : ∀ (tm:Tm) (t:Nat),X.ev tm (X.s t)=tm.get t:=
 fun tm t=>nd (X.ev.eq_1 tm t)
theorem Yb : ∀ (tm:Tm) (d:D),X.ev tm (X.k d)=d:=
 fun tm d=>nd (X.ev.eq_2 tm d)
theorem Sg : ∀ (tm:Tm) (d:D) (t:Nat),tm.put (some t) d=tm.set t d:=
 fun tm d t=>nd (Tm.put.eq_1 tm d t)
theorem Si : ∀ (tm:Tm) (d:D),tm.put none d=tm:=
 fun tm d=>nd (Tm.put.eq_2 tm d)
theorem Sj : ∀ (x:Nat) (gh:D),Tm.set [] x gh = [(x,gh)]:=
 fun x gh=>nd (Tm.set.eq_1 x gh)
theorem Sk : ∀ (x:Nat) (gh:D) (k:Nat) (e:D) (r:List (Nat×D)),
 Tm.set ((k,e)::r) x gh=if k=x then(k,gh)::r else(k,e)::Tm.set r x gh:=
 fun x gh k e r=>nd (Tm.set.eq_2 x gh k e r)
theorem Sl : ∀ (x:Nat),Tm.get [] x=D.junk:=
 fun x=>nd (Tm.get.eq_1 x)
theorem Sn : ∀ (x k:Nat) (d:D) (r:List (Nat×D)),Tm.get ((k,d)::r) x=if k=x then d else Tm.get r x:=
 fun x k d r=>nd (Tm.get.eq_2 x k d r)
theorem Vl : ∀ (x:Nat),oc x [] = []:=
 fun x=>nd (oc.eq_1 x)
theorem Vm : ∀ (x:Nat) (d:D) (r:List D),oc x (d::r)=(x,d)::oc (x+1) r:=
 fun x d r=>nd (oc.eq_2 x d r)
theorem Sq : ∀ (d:Option Nat) (g:Option (Nat×Bool)) (o:AO),(AI.op d g o).dst=d:=
 fun d g o=>nd (AI.dst.eq_1 d g o)
theorem Sr : ∀ (d:Option Nat) (g:Option (Nat×Bool)) (f:Nat) (xs:List X),(AI.call d g f xs).dst=d:=
 fun d g f xs=>nd (AI.dst.eq_2 d g f xs)
theorem Ss : ∀ (d:Option Nat) (g:Option (Nat×Bool)) (neg:Bool) (gh:X),(AI.nil d g neg gh).dst=d:=
 fun d g neg gh=>nd (AI.dst.eq_3 d g neg gh)
theorem Yc : ∀ (cs:List D) (off size:Nat),
 part cs off true size=if off+size≤cs.length then some (D.agg (List.take size (List.drop off cs)))else none:=
 fun cs off size=>nd (part.eq_1 cs off size)
theorem Yd : ∀ (cs:List D) (off size:Nat),part cs off false size=cs[off]? :=
 fun cs off size=>nd (part.eq_2 cs off size)
theorem Sv : ∀ (cs:List D) (off:Nat) (r:List D),
 gS cs off r=List.take off cs++r++List.drop (off+r.length) cs:=
 fun cs off r=>nd (gS.eq_1 cs off r)
theorem Vn : ∀ (cells:List D),sQ cells [] = some cells:=
 fun cells=>nd (sQ.eq_1 cells)
theorem Vo : ∀ (cells:List D) (off size:Nat) (d:D) (rest:List (Nat×Nat×D)),
 sQ cells ((off,size,d)::rest) =
  match d.row with
  |none=>none
  |some r=>if r.length=size∧off+size≤cells.length then sQ (gS cells off r) rest else none:=
 fun cells off size d rest=>nd (sQ.eq_2 cells off size d rest)
theorem Mw : ∀ (size:Nat) (rows:List (List D)),kV size rows [] = some rows:=
 fun size rows=>nd (kV.eq_1 size rows)
theorem Mx : ∀ (size:Nat) (rows:List (List D)) (i:Nat) (d:D) (rest:List (Nat×D)),
 kV size rows ((i,d)::rest) =
  match d.row with
  |none=>none
  |some r=>if r.length=size∧i<rows.length then kV size (rows.set i r) rest else none:=
 fun size rows i d rest=>nd (kV.eq_2 size rows i d rest)
theorem My : ∀ (zero:List D),gT zero 0 = []:=
 fun zero=>nd (gT.eq_1 zero)
theorem Mz : ∀ (zero:List D) (i:Nat),gT zero i.succ=zero::gT zero i:=
 fun zero i=>nd (gT.eq_2 zero i)
theorem Ye : ∀ (op:BinOp) (k:IntKind) (a:Int) (k':IntKind) (b:Int),
 zk op (D.int k a) (D.int k' b)=if k=k' then ik op k a b else none:=
 fun op k a k' b=>nd (zk.eq_1 op k a k' b)
theorem Yf : ∀ (op:BinOp) (a b:List UInt8),zk op (D.str a) (D.str b)=pM op a b:=
 fun op a b=>nd (zk.eq_2 op a b)
theorem Sw : ∀ (k:IntKind) (a b:Int),ik BinOp.add k a b=some (D.int k (k.wrap (a+b))):=
 fun k a b=>nd (ik.eq_1 k a b)
theorem Sx : ∀ (k:IntKind) (a b:Int),ik BinOp.sub k a b=some (D.int k (k.wrap (a - b))):=
 fun k a b=>nd (ik.eq_2 k a b)
theorem Sy : ∀ (k:IntKind) (a b:Int),ik BinOp.mul k a b=some (D.int k (k.wrap (a*b))):=
 fun k a b=>nd (ik.eq_3 k a b)
theorem Sz : ∀ (k:IntKind) (a b:Int),
 ik BinOp.quo k a b=if b=0 then none else some (D.int k (k.wrap (a.tdiv b))):=
 fun k a b=>nd (ik.eq_4 k a b)
theorem SA : ∀ (k:IntKind) (a b:Int),ik BinOp.rem k a b=if b=0 then none else some (D.int k (a.tmod b)):=
 fun k a b=>nd (ik.eq_5 k a b)
theorem SB : ∀ (k:IntKind) (a b:Int),ik BinOp.eql k a b=some (D.bool (a==b)):=
 fun k a b=>nd (ik.eq_6 k a b)
theorem SC : ∀ (k:IntKind) (a b:Int),ik BinOp.neq k a b=some (D.bool (a != b)):=
 fun k a b=>nd (ik.eq_7 k a b)
theorem SD : ∀ (k:IntKind) (a b:Int),ik BinOp.lss k a b=some (D.bool (decide (a<b))):=
 fun k a b=>nd (ik.eq_8 k a b)
theorem SE : ∀ (k:IntKind) (a b:Int),ik BinOp.leq k a b=some (D.bool (decide (a≤b))):=
 fun k a b=>nd (ik.eq_9 k a b)
theorem OT : ∀ (k:IntKind) (a b:Int),ik BinOp.gtr k a b=some (D.bool (decide (a > b))):=
 fun k a b=>nd (ik.eq_10 k a b)
theorem OU : ∀ (k:IntKind) (a b:Int),ik BinOp.geq k a b=some (D.bool (decide (a≥b))):=
 fun k a b=>nd (ik.eq_11 k a b)
theorem SF : ∀ (a b:List UInt8),
 pM BinOp.add a b=if a.length+b.length≤bq then some (D.str (a++b))else none:=
 fun a b=>nd (pM.eq_1 a b)
theorem SG : ∀ (a b:List UInt8),pM BinOp.eql a b=some (D.bool (a==b)):=
 fun a b=>nd (pM.eq_2 a b)
theorem SH : ∀ (a b:List UInt8),pM BinOp.neq a b=some (D.bool !a==b):=
 fun a b=>nd (pM.eq_3 a b)
theorem SI : ∀ (a b:List UInt8),pM BinOp.lss a b=some (D.bool (bytesLess a b)):=
 fun a b=>nd (pM.eq_4 a b)
theorem adg : ∀ (k:IntKind) (n:Int),LD UnOp.neg (D.int k n)=some (D.int k (k.wrap (0 - n))):=
 fun k n=>nd (LD.eq_1 k n)
theorem adh : ∀ (b:Bool),LD UnOp.not (D.bool b)=some (D.bool !b):=
 fun b=>nd (LD.eq_2 b)
theorem SJ : ∀ (k:IntKind) (a:Int) (k':IntKind) (b:Int),
 oi 0 (D.int k a) (D.int k' b)=if k=k' then some (a==b)else none:=
 fun k a k' b=>nd (oi.eq_1 k a k' b)
theorem SK : ∀ (a b:Bool),oi 1 (D.bool a) (D.bool b)=some (a==b):=
 fun a b=>nd (oi.eq_2 a b)
theorem SL : ∀ (a b:List UInt8),oi 2 (D.str a) (D.str b)=some (a==b):=
 fun a b=>nd (oi.eq_3 a b)
theorem OV:mw [] [] [] = some true:=
 nd (mw.eq_1)
theorem OW : ∀ (k:Nat) (ks:List Nat) (x_3:D) (xs:List D) (y:D) (ys:List D),
 mw (k::ks) (x_3::xs) (y::ys) =
  match oi k x_3 y with
  |none=>none
  |some true=>mw ks xs ys
  |some false=>some false:=
 fun k ks x_3 xs y ys=>nd (mw.eq_2 k ks x_3 xs y ys)
theorem adi:vq none=some 0:=
 nd (vq.eq_1)
theorem adj : ∀ (k:IntKind) (n:Int),vq (some (D.int k n))=some n:=
 fun k n=>nd (vq.eq_2 k n)
theorem adk : ∀ (len:Nat),vr none len=some ↑len:=
 fun len=>nd (vr.eq_1 len)
theorem adl : ∀ (len:Nat) (k:IntKind) (n:Int),vr (some (D.int k n)) len=some n:=
 fun len k n=>nd (vr.eq_2 len k n)
theorem OX : ∀ (zero:List D),(AO.alloc zero).core=true:=
 fun zero=>nd (AO.core.eq_1 zero)
theorem OY : ∀ (gh:X),(AO.box gh).core=true:=
 fun gh=>nd (AO.core.eq_2 gh)
theorem OZ : ∀ (zero:List D) (size n:Nat) (parts:List (Nat×X)),(AO.w6 zero size n parts).core=true:=
 fun zero size n parts=>nd (AO.core.eq_3 zero size n parts)
theorem O0 : ∀ (gh:X),(AO.CN gh).core=true:=
 fun gh=>nd (AO.core.eq_4 gh)
theorem O1 : ∀ (p gh:X) (size:Nat),(AO.store p gh size).core=true:=
 fun p gh size=>nd (AO.core.eq_5 p gh size)
theorem O2 : ∀ (size bytes:Nat) (gh y:X),(AO.app size bytes gh y).core=true:=
 fun size bytes gh y=>nd (AO.core.eq_6 size bytes gh y)
theorem O3 : ∀ (val:Nat) (zero:List D),(AI.op (some val) none (AO.alloc zero)).kind=AK.alloc:=
 fun val zero=>nd (AI.kind.eq_1 val zero)
theorem O4 : ∀ (zero:List D),(AO.alloc zero).kind=AK.core:=
 fun zero=>nd (AO.kind.eq_1 zero)
theorem O5 : ∀ (gh:X),(AO.box gh).kind=AK.core:=
 fun gh=>nd (AO.kind.eq_2 gh)
theorem O6 : ∀ (zero:List D) (size n:Nat) (parts:List (Nat×X)),(AO.w6 zero size n parts).kind=AK.core:=
 fun zero size n parts=>nd (AO.kind.eq_3 zero size n parts)
theorem O7 : ∀ (gh:X),(AO.CN gh).kind=AK.core:=
 fun gh=>nd (AO.kind.eq_4 gh)
theorem O8 : ∀ (p gh:X) (size:Nat),(AO.store p gh size).kind=AK.core:=
 fun p gh size=>nd (AO.kind.eq_5 p gh size)
theorem O9 : ∀ (size bytes:Nat) (gh y:X),(AO.app size bytes gh y).kind=AK.core:=
 fun size bytes gh y=>nd (AO.kind.eq_6 size bytes gh y)
theorem Pa : ∀ (gh:X) (agg:Bool) (size:Nat),(AO.load gh agg size).kind=AK.load:=
 fun _ _ _=>nd rfl
theorem SM:iQ AK.core=true:=
 nd (iQ.eq_1)
theorem SN:iQ AK.alloc=true:=
 nd (iQ.eq_2)
theorem SO : ∀ (i:AI) (tm:Tm) (d:D),pO i tm d [] = True:=
 fun i tm d=>nd (pO.eq_1 i tm d)
theorem SP : ∀ (i:AI) (tm:Tm) (d:D) (s:St) (r:List St),
 pO i tm d (s::r)=(kR i tm s=some d∧pO i tm d r):=
 fun i tm d s r=>nd (pO.eq_2 i tm d s r)
theorem adn : ∀ (tm:Tm) (s:St) (dst:Option Nat) (o:AO),
 kR (AI.op dst none o) tm s=Option.map (fun(x:D×St)=>x.fst) (aV o tm s):=
 fun tm s dst o=>nd (kR.eq_1 tm s dst o)
theorem ado : ∀ (tm:Tm) (s:St) (dst:Option Nat) (t:Nat) (want:Bool) (o:AO),
 kR (AI.op dst (some (t,want)) o) tm s =
  match tm.get t with
  |D.bool b=>if b=want then Option.map (fun(x:D×St)=>x.fst) (aV o tm s)else some (D.tuple [])
  |D.tuple vs=>some (D.tuple [])
  |x=>none:=
 fun tm s dst t want o=>nd (kR.eq_2 tm s dst t want o)
theorem Pb : ∀ (is:List AI),ov is [] = some []:=
 fun is=>nd (ov.eq_1 is)
theorem Pe : ∀ (is:List AI) (q b:Nat) (r:List (Nat×Nat)),
 ov is ((q,b)::r) =
  match is[q]?,ov is r with
  |some ai,some l=>some ((ai,b)::l)
  |x,gh=>none:=
 fun is q b r=>nd (ov.eq_2 is q b r)
theorem adp : ∀ (tm:Tm) (n m:Nat),yy tm n m [] = True:=
 fun tm n m=>nd (yy.eq_1 tm n m)
theorem adq : ∀ (tm:Tm) (n m k:Nat) (d:D) (r:List (Nat×D)),
 yy tm n m ((k,d)::r)=(Wk (D.fg n m (tm.get k)) d∧yy tm n m r):=
 fun tm n m k d r=>nd (yy.eq_2 tm n m k d r)
theorem Yg : ∀ (n m o off:Nat),D.fg n m (D.ptr o off)=if o<n then D.ptr o off else D.junk:=
 fun n m o off=>nd (D.fg.eq_1 n m o off)
theorem Yh : ∀ (n m:Nat) (row:List D) (off:Nat),D.fg n m (D.dR row off)=D.dR (D.iD n m row) off:=
 fun n m row off=>nd (D.fg.eq_2 n m row off)
theorem Yi : ∀ (n m:Nat) (g:Tag) (z:Nat) (rows:List (List D)),
 D.fg n m (D.slice g z rows)=D.slice (Tag.fg m g) z (D.lE n m rows):=
 fun n m g z rows=>nd (D.fg.eq_3 n m g z rows)
theorem Yj : ∀ (n m:Nat) (cs:List D),D.fg n m (D.agg cs)=D.agg (D.iD n m cs):=
 fun n m cs=>nd (D.fg.eq_4 n m cs)
theorem Yk : ∀ (n m:Nat) (ds:List D),D.fg n m (D.tuple ds)=D.tuple (D.iD n m ds):=
 fun n m ds=>nd (D.fg.eq_5 n m ds)
theorem Yl : ∀ (n m:Nat),D.fg n m D.junk=D.junk:=
 fun n m=>nd (D.fg.eq_6 n m)
theorem Ym : ∀ (n m:Nat) (k:IntKind) (gh:Int),D.fg n m (D.int k gh)=D.int k gh:=
 fun n m k gh=>nd (D.fg.eq_7 n m k gh)
theorem Yn : ∀ (n m:Nat) (b:Bool),D.fg n m (D.bool b)=D.bool b:=
 fun n m b=>nd (D.fg.eq_8 n m b)
theorem Yo : ∀ (n m:Nat) (l:List UInt8),D.fg n m (D.str l)=D.str l:=
 fun n m l=>nd (D.fg.eq_9 n m l)
theorem Vp : ∀ (n m:Nat),D.fg n m D.eW=D.eW:=
 fun n m=>nd (D.fg.eq_10 n m)
theorem Vq : ∀ (n m:Nat),D.iD n m [] = []:=
 fun n m=>nd (D.iD.eq_1 n m)
theorem Vr : ∀ (n m:Nat) (d:D) (r:List D),D.iD n m (d::r)=D.fg n m d::D.iD n m r:=
 fun n m d r=>nd (D.iD.eq_2 n m d r)
theorem Vs : ∀ (n m:Nat),D.lE n m [] = []:=
 fun n m=>nd (D.lE.eq_1 n m)
theorem Vt : ∀ (n m:Nat) (d:List D) (r:List (List D)),D.lE n m (d::r)=D.iD n m d::D.lE n m r:=
 fun n m d r=>nd (D.lE.eq_2 n m d r)
theorem SQ : ∀ (m t:Nat) (y:Bool),Tag.fg m (Tag.tok t y)=if t<m then Tag.tok t y else Tag.shared:=
 fun _ _ _=>nd rfl
theorem SR : ∀ (s:St) (n m:Nat),
 s.cut n m = {al:=List.map (D.iD n m) (List.take n s.al),aA:=List.take m s.aA}:=
 fun s n m=>nd (St.cut.eq_1 s n m)
theorem Yp : ∀ (d:D),bj [d] = d:=
 fun d=>nd (bj.eq_1 d)
theorem Yq (size bytes t:Nat) (rows:List (List D)) (g:Tag) (r:List D) (s:St):jo size bytes (.slice (.tok t) size rows) (.slice g size [r]) s =
 if(rows.length+1)*(bytes+1)≤bq∧s.aA[t]? = some (some rows.length)then some (.slice (.tok t) size (rows++ [r]),⟨s.al,s.aA.set t (some (rows.length+1))⟩)else none:=by
 simp only[jo,List.length_singleton]
 by_cases h1:(rows.length+1)*(bytes+1)≤bq<;>by_cases h2:s.aA[t]? = some (some rows.length)<;>simp[h1,h2]
theorem nP {size bytes t:Nat} {rows new:List (List D)} {g:Tag} {s:St} (h1:(rows.length+new.length)*(bytes+1)≤bq) (h2:s.aA[t]? = some (some rows.length)) :
 jo size bytes (.slice (.tok t) size rows) (.slice g size new) s=some (.slice (.tok t) size (rows++new),⟨s.al,s.aA.set t (some (rows.length+new.length))⟩):=by
 cases new with
 | nil=>
  have:s.aA.set t (some rows.length)=s.aA:=by
   apply List.ext_getElem?
   intro i
   rw[List.getElem?_set]
   split
   ·rename_i hi;subst hi;rw[h2,if_pos (List.getElem?_eq_some_iff.1 h2).1]
   ·rfl
  simp only[List.length_nil,Nat.add_zero]at h1
  simp[jo,h1,this]
 |cons x l=>
  simp only[jo,h1,h2]
  simp
theorem Vu (size bytes z:Nat) (g:Tag) (r:List D) (s:St):jo size bytes (.slice .full z []) (.slice g size [r]) s =
 if bytes+1≤bq then some (.slice (.tok s.aA.length) size [r],⟨s.al,s.aA++ [some 1]⟩)else none:=by
 simp[jo]
theorem adr {P:Program} {B:gW} {nt:Nat} (ac:AC) (Q:Exit→Tm→St→Prop) (tm:Tm) (s:St):Bc P B nt ac Q .normal tm s=Q .normal tm s:=nd rfl
theorem ads {P:Program} {B:gW} {nt:Nat} (ac:AC) (Q:Exit→Tm→St→Prop) (tm:Tm) (s:St):Bc P B nt ac Q .ret tm s=Q .ret tm s:=nd rfl
theorem adt {P:Program} {B:gW} {nt:Nat} (ac:AC) (Q:Exit→Tm→St→Prop) (tm:Tm) (s:St) (i:Nat):Bc P B nt ac Q (.exit i) tm s=Q (.exit i) tm s:=nd rfl
theorem adu (m:Nat):Tag.fg m .full = .full:=nd rfl
theorem Vv (m:Nat):Tag.fg m .shared = .shared:=nd rfl
theorem aj9 {P:Program} (K:Tm→St→Prop) (tm:Tm) (s:St):lr P [] K tm s=K tm s:=nd rfl
theorem s_op {P:Program} (dst:Option Nat) (o:AO) (r:List AI) (K:Tm→St→Prop) (tm:Tm) (s:St) :
 lr P (.op dst none o::r) K tm s=(match aV o tm s with|some (d,s')=>lr P r K (tm.put dst d) s'|none=>False):=nd rfl
def KJ (P:Program) (r:List AI) (K:Tm→St→Prop) (tm:Tm) (dst:Option Nat) (d:D) (s:St):Prop:=lr P r K (tm.put dst d) s
theorem aoH {P:Program} (r:List AI) (K:Tm→St→Prop) (tm:Tm) (dst:Option Nat) (d:D) (s:St):KJ P r K tm dst d s=lr P r K (tm.put dst d) s:=nd rfl
theorem s_call {P:Program} (dst:Option Nat) (f:Nat) (xs:List X) (r:List AI) (K:Tm→St→Prop) (tm:Tm) (s:St) :
 lr P (.call dst none f xs::r) K tm s=CL false P f (xs.map (·.ev tm)) s (KJ P r K tm dst):=nd rfl
def NJ (P:Program) (dst:Option Nat) (neg:Bool) (x:D) (r:List AI) (K:Tm→St→Prop) (tm:Tm) (s:St):Prop:=
 match x with
 | .slice _ _ rows=>∀ b:Bool,(rows≠ []→b=false)→lr P r K (tm.put dst (.bool (if neg then !b else b))) s
 |_=>False
theorem af1 {P:Program} (dst:Option Nat) (neg:Bool) (x:X) (r:List AI) (K:Tm→St→Prop) (tm:Tm) (s:St) :
 lr P (.nil dst none neg x::r) K tm s=NJ P dst neg (x.ev tm) r K tm s:=nd rfl
theorem adv {P:Program} (dst:Option Nat) (neg:Bool) (g:Tag) (z:Nat) (d:List D) (l:List (List D)) (r:List AI) (K:Tm→St→Prop) (tm:Tm) (s:St) :
 NJ P dst neg (.slice g z (d::l)) r K tm s=lr P r K (tm.put dst (.bool neg)) s:=by
 simp only[NJ,ne_eq,reduceCtorEq,not_false_eq_true,true_imp_iff,eq_iff_iff]
 refine⟨fun h=>by have:=h false rfl;cases neg<;>exact this,fun h b hb=>?_⟩
 subst hb;cases neg<;>exact h
theorem Yr {P:Program} {dst:Option Nat} {neg:Bool} {g:Tag} {z:Nat} {l:List (List D)} {r:List AI} {K:Tm→St→Prop} {tm:Tm} {s:St}
 (h1:l = []→lr P r K (tm.put dst (.bool (!neg))) s) (h2:lr P r K (tm.put dst (.bool neg)) s):NJ P dst neg (.slice g z l) r K tm s:=by
 intro b hb
 cases b with
 |false=>cases neg<;>exact h2
 |true=>
  have:l = []:=Decidable.byContradiction fun h=>by cases hb h
  cases neg<;>exact h1 this
theorem akb {P:Program} (dst:Option Nat) (t:Nat) (w:Bool) (o:AO) (r:List AI) (K:Tm→St→Prop) (tm:Tm) (s:St) :
 lr P (.op dst (some (t,w)) o::r) K tm s = @GB (tm.get t) w ⟨(lr P (.op dst none o::r) K tm s),(lr P r K (tm.put dst (.tuple [])) s)⟩:=nd rfl
def CV (P:Program) (x:D) (akc:List D) (s:St) (K:D→St→Prop):Prop:=
 match x with
 | .ij f ph=>enters P f=true∧CL false P f (akc++ph) s K
 |_=>False
theorem adw {P:Program} (dst:Option Nat) (t:Nat) (xs:List X) (r:List AI) (K:Tm→St→Prop) (tm:Tm) (s:St) :
 lr P (.kj dst none t xs::r) K tm s=CV P (tm.get t) (xs.map (·.ev tm)) s (KJ P r K tm dst):=nd rfl
theorem CV.use {P:Program} {f:Nat} {ph akc:List D} {s s':St} {d:D} {K:D→St→Prop} (he:enters P f=true) (h:aH P f (akc++ph) s d s') (k:K d s'):CV P (.ij f ph) akc s K:=⟨he,CU h k⟩
theorem Ys {P:Program} (dst:Option Nat) (t:Nat) (w:Bool) (u:Nat) (xs:List X) (r:List AI) (K:Tm→St→Prop) (tm:Tm) (s:St) :
 lr P (.kj dst (some (t,w)) u xs::r) K tm s = @GB (tm.get t) w ⟨(lr P (.kj dst none u xs::r) K tm s),(lr P r K (tm.put dst (.tuple [])) s)⟩:=nd rfl
theorem adx {P:Program} (dst:Option Nat) (t:Nat) (w:Bool) (f:Nat) (xs:List X) (r:List AI) (K:Tm→St→Prop) (tm:Tm) (s:St) :
 lr P (.call dst (some (t,w)) f xs::r) K tm s = @GB (tm.get t) w ⟨(lr P (.call dst none f xs::r) K tm s),(lr P r K (tm.put dst (.tuple [])) s)⟩:=nd rfl
theorem af3 {P:Program} (dst:Option Nat) (t:Nat) (w:Bool) (neg:Bool) (x:X) (r:List AI) (K:Tm→St→Prop) (tm:Tm) (s:St) :
 lr P (.nil dst (some (t,w)) neg x::r) K tm s = @GB (tm.get t) w ⟨(lr P (.nil dst none neg x::r) K tm s),(lr P r K (tm.put dst (.tuple [])) s)⟩:=nd rfl
theorem aoI (b:Bool) (A C:Prop) : @GB (.bool b) true ⟨A,C⟩ = @CB (.bool b) ⟨A,C⟩:=nd rfl
theorem aoJ (b:Bool) (A C:Prop) : @GB (.bool b) false ⟨A,C⟩ = @CB (.bool b) ⟨C,A⟩:=by
 cases b<;>simp[GB,CB,GJ,wL]
theorem aoK (l:List D) (w:Bool) (A C:Prop) : @GB (.tuple l) w ⟨A,C⟩=C:=nd rfl
theorem akd {P:Program} {K:Tm→St→Prop} (bS:List St) (tm:Tm) (s:St):ix P K [] bS tm s=K tm s:=nd rfl
def OJ (P:Program) (o:AO) (dst:Option Nat) (b:Nat) (r:List (AI×Nat)) (K:Tm→St→Prop) (bS:List St) (tm:Tm) (s:St):Bool→Prop
 |true=>match aV o tm s with|some (d,s')=>ix P K r (s::bS) (tm.put dst d) s'|none=>False
 |false=>match aV o tm s with|some (d,_)=>pO (.op dst none o) tm d (bS.take b)∧ix P K r bS (tm.put dst d) s|none=>False
theorem aoM {P:Program} {K:Tm→St→Prop} (dst:Option Nat) (o:AO) (b:Nat) (r:List (AI×Nat)) (bS:List St) (tm:Tm) (s:St) :
 ix P K ((.op dst none o,b)::r) bS tm s=OJ P o dst b r K bS tm s o.core:=by
 simp only[ix,ow]
 cases o.core<;>rfl
theorem aoN {P:Program} (o:AO) (dst:Option Nat) (b:Nat) (r:List (AI×Nat)) (K:Tm→St→Prop) (bS:List St) (tm:Tm) (s:St) :
 OJ P o dst b r K bS tm s true=match aV o tm s with|some (d,s')=>ix P K r (s::bS) (tm.put dst d) s'|none=>False:=nd rfl
theorem aoO {P:Program} (o:AO) (dst:Option Nat) (b:Nat) (r:List (AI×Nat)) (K:Tm→St→Prop) (bS:List St) (tm:Tm) (s:St) :
 OJ P o dst b r K bS tm s false=match aV o tm s with|some (d,_)=>pO (.op dst none o) tm d (bS.take b)∧ix P K r bS (tm.put dst d) s|none=>False:=nd rfl
theorem ake {P:Program} {K:Tm→St→Prop} (dst:Option Nat) (t:Nat) (w:Bool) (o:AO) (b:Nat) (r:List (AI×Nat)) (bS:List St) (tm:Tm) (s:St) :
 ix P K ((.op dst (some (t,w)) o,b)::r) bS tm s = @GB (tm.get t) w ⟨(ix P K ((.op dst none o,b)::r) bS tm s),(ix P K r (if o.core then s::bS else bS) (tm.put dst (.tuple [])) s)⟩:=by
 simp only[GB,ix,ow]
 cases o.core<;>rfl
def KG (P:Program) (K:Tm→St→Prop) (r:List (AI×Nat)) (bS:List St) (tm:Tm) (dst:Option Nat) (d:D) (s:St):Prop:=ix P K r bS (tm.put dst d) s
theorem aoP {P:Program} (K:Tm→St→Prop) (r:List (AI×Nat)) (bS:List St) (tm:Tm) (dst:Option Nat) (d:D) (s:St):KG P K r bS tm dst d s=ix P K r bS (tm.put dst d) s:=nd rfl
theorem g_call {P:Program} {K:Tm→St→Prop} (dst:Option Nat) (f:Nat) (xs:List X) (b:Nat) (r:List (AI×Nat)) (bS:List St) (tm:Tm) (s:St) :
 ix P K ((.call dst none f xs,b)::r) bS tm s=CL true P f (xs.map (·.ev tm)) s (KG P K r (s::bS) tm dst):=nd rfl
theorem ady {P:Program} {K:Tm→St→Prop} (dst:Option Nat) (t:Nat) (w:Bool) (f:Nat) (xs:List X) (b:Nat) (r:List (AI×Nat)) (bS:List St) (tm:Tm) (s:St) :
 ix P K ((.call dst (some (t,w)) f xs,b)::r) bS tm s = @GB (tm.get t) w ⟨(ix P K ((.call dst none f xs,b)::r) bS tm s),(ix P K r (s::bS) (tm.put dst (.tuple [])) s)⟩:=nd rfl
class Ok (p:Prop):Prop where
 out:p
instance:Ok True:=⟨trivial⟩
instance {p q:Prop} [Ok p] [Ok q] : Ok (p∧q):=⟨⟨Ok.out,Ok.out⟩⟩
instance {α:Type} (a:α):Ok (a=a):=⟨rfl⟩
instance (d:D):Ok (Wk d .junk):=⟨Wk.junk d⟩
instance {l l':List D} [Ok (kh l l')] : Ok (Wk (.tuple l) (.tuple l')):=⟨Wk.tuple Ok.out⟩
instance {l l':List D} [Ok (kh l l')] : Ok (Wk (.agg l) (.agg l')):=⟨Wk.agg Ok.out⟩
instance {g:Tag} {z:Nat} {l l':List (List D)} [Ok (il l l')] : Ok (Wk (.slice g z l) (.slice g z l')):=⟨Wk.rows Ok.out⟩
instance {g:Tag} {z:Nat} {l l':List (List D)} [Ok (il l l')] : Ok (Wk (.slice g z l) (.slice .shared z l')):=⟨Wk.slice Ok.out⟩
instance (z z':Nat):Ok (Wk (.slice .full z []) (.slice .full z' [])):=⟨Wk.aoy z z'⟩
instance (g:Tag) (z z':Nat):Ok (Wk (.slice g z []) (.slice .shared z' [])):=⟨Wk.nil g z z'⟩
instance (d:D):Ok (Wk d d):=⟨Wk.refl d⟩
instance:Ok (kh [] []):=⟨.nil⟩
instance {d d':D} {l l':List D} [Ok (Wk d d')] [Ok (kh l l')] : Ok (kh (d::l) (d'::l')):=⟨.cons Ok.out Ok.out⟩
instance (l:List D):Ok (kh l l):=⟨kh.refl l⟩
instance:Ok (il [] []):=⟨.nil⟩
instance {d d':List D} {l l':List (List D)} [Ok (kh d d')] [Ok (il l l')] : Ok (il (d::l) (d'::l')):=⟨.cons Ok.out Ok.out⟩
instance {a a' b b':List (List D)} [Ok (il a a')] [Ok (il b b')] : Ok (il (a++b) (a'++b')):=⟨il.append Ok.out Ok.out⟩
instance (l:List (List D)):Ok (il l l):=⟨il.refl l⟩
theorem bs:(∀ b,(true ||b)=true)∧(∀ b,(false ||b)=b)∧(∀ b,(b ||true)=true)∧(∀ b,(b ||false)=b)∧(∀ b,(true && b)=b)∧(∀ b,(false && b)=false)∧(∀ b,(b && true)=b)∧(∀ b,(b && false)=false)∧
 (!true)=false∧(!false)=true∧(∀ b,(!!b)=b)∧((false=true)=False)∧(∀ (α β:Type) (a:α) (f:α→Option β),(some a).bind f=f a)∧
 (∀ (α β γ:Type) (x:Option α) (f:α→Option β) (g:β→Option γ),(x.bind f).bind g=x.bind fun y=>(f y).bind g):=
 ⟨Bool.true_or,Bool.false_or,Bool.or_true,Bool.or_false,Bool.true_and,Bool.false_and,Bool.and_true,Bool.and_false,rfl,rfl,Bool.not_not,by simp,fun _ _ _ _=>rfl,fun _ _ _ x f g=>Option.bind_assoc x f g⟩
attribute [go_sem] afY aoE aoF aj9 s_op aoH s_call af1 adv akb adx af3 aoI aoJ aoK akd aoM aoN aoO ake aoP g_call ady AO.core AI.kind AO.kind iQ
attribute [go_sem] Sd Se Ml Mm adw Ys R8 R9 Sb Sc Mn Mp Mq Mr Vh Vi Sf ac4 XY
attribute [go_sem] R7 Ms R4 R5 R6 Mt Mu Mv Vj Vk ac3 U3 acZ XV ac0 XW ac1 XX U2 ac2 XZ RF X0
attribute [go_sem] U8 U9 Va Vb Vc Vd Ve Vf Vg RH RI RJ RK RL RM RN RO RP RQ RR RS RT RU RV RW RX RY RZ R0 R3 Ya Yb Sg Si Sj Sk Sl Sn Vl Vm Sq Sr Ss Yc Yd Sv Vn Vo Mw Mx My Mz Ye Yf Sw Sx Sy Sz SA SB SC SD SE OT OU SF SG SH SI adg adh SJ SK SL OV OW adi adj adk adl OX OY OZ O0 O1 O2 O3 O4 O5 O6 O7 O8 O9 Pa SM SN SO SP adn ado Pb Pe adp adq Yg Yh Yi Yj Yk Yl Ym Yn Yo Vp Vq Vr Vs Vt SQ SR Yp Yq Vu adu Vv adr ads adt
attribute [go_sem] List.map_cons List.map_nil List.getElem?_cons_zero List.getElem?_cons_succ List.length_cons List.length_nil List.set_cons_zero List.set_cons_succ List.take_succ_cons List.take_zero List.take_nil List.drop_succ_cons List.drop_zero List.drop_nil List.cons_append List.nil_append List.append_nil Nat.zero_add Nat.add_zero Option.map_some Option.map_none
attribute [go_sem] Bool.not_false Bool.not_true List.length_map List.getElem?_map Int.toNat_natCast Int.natCast_nonneg Int.toNat_zero and_self and_true true_and
attribute [go_sem_proc ↓] reduceIte
attribute [go_sem_proc] Int.reduceLE reduceCtorEq Nat.reduceEqDiff Nat.reduceLeDiff Nat.reduceAdd Nat.reduceMul Nat.reduceSub Nat.reduceLT
theorem bt {b:Bool} {A C:Prop} (h1:b=true→A) (h:b=true:=by assumption) : @CB (.bool b) ⟨A,C⟩:=afZ h h1
theorem bu {b:Bool} {A C:Prop} (h1:b=false→C) (h:b=false:=by assumption) : @CB (.bool b) ⟨A,C⟩:=af0 h h1
theorem bx {b:Bool} {A C:Prop} (h1:b=true→A) (h2:b=false→C) : @CB (.bool b) ⟨A,C⟩:=⟨h1,h2⟩
theorem jG {a b:Prop} (x:a) (y:b):a∧b:=⟨x,y⟩
theorem bP {α:Type _} (a b:α):(some a=some b)=(a=b):=Option.some.injEq a b
theorem bQ {α:Sort _} {p:α→Prop} {a:α} : (∃ x,a=x∧p x)↔p a:=exists_eq_left'
theorem Fg {n m:Nat} (h:Nat.ble n m=true):n≤m:=Nat.le_of_ble_eq_true h
theorem aI {n m:Nat} {res:List (Nat×Option (Bool×Nat))} {d:D} {s':St} {e:Exit} {tm:Tm} {s:St} {Q:Exit→Tm→St→Prop} (hQ:rB n m res d s'=Q) (h : ∃ l,bh res tm s=some l∧Wk ((bj l).fg n m) d∧il (s.cut n m).al s'.al∧(s.cut n m).aA=s'.aA) (he:e = .ret∨e = .normal:=by first|exact .inl rfl|exact .inr rfl):Q e tm s:=by cases he with|inl x=>cases x;exact aj7 hQ h|inr x=>cases x;exact aj8 hQ h
theorem cO {p:Prop} (h:p:=by repeat' (first|exact Ok.out|with_reducible refine jG ?_ ?_|(simp;done))):p:=h
theorem bY {p:Prop} (h:p:=by repeat' (first|exact Ok.out|with_reducible refine jG ?_ ?_)):p:=h
theorem fS {p:Prop} (h:p:=by(try cases h);simp only[bh,bj,bP,bQ,go_sem,hD,hZ,gA,gB];repeat' (first|exact Ok.out|with_reducible refine jG ?_ ?_|(simp;done))):p:=h
theorem bA {p:Prop} (h:p:=by simp only[bh,bj,bP,bQ,go_sem,hD,hZ,gA,gB];repeat' (first|exact Ok.out|with_reducible refine jG ?_ ?_|(simp;done))):p:=h
theorem lX_ {p:Prop} (h:p:=by simp only[go_sem,hD,hZ,gA,gB];repeat' (first|exact Ok.out|with_reducible refine jG ?_ ?_)):p:=h
theorem fG {P:Program} {B:gW} {nt:Nat} {a:AC} {Q:Exit→Tm→St→Prop} {tm bJ:Tm} {s:St} {fx:List (List D)} (n m:Nat) (h:bp P B nt a Q bJ ⟨fx,(s.cut n m).aA⟩) (hn:B.s.al.length≤n:=by rw[hB];exact Fg rfl) (hm:B.s.aA.length≤m:=by rw[hB];exact Fg rfl) (ht:yy tm n m bJ:=by exact lX_) (ho:il (s.cut n m).al fx:=by exact lX_):bp P B nt a Q tm s:=bp.re bJ fx n m hn hm ht ho h
theorem fi {P:Program} {B:gW} {nt:Nat} {a:AC} {Q:Exit→Tm→St→Prop} {tm bJ:Tm} {s:St} {fx:List (List D)} (n m:Nat) (ht:yy tm n m bJ) (ho:il (s.cut n m).al fx) (h:bp P B nt a Q bJ ⟨fx,(s.cut n m).aA⟩) (hn:B.s.al.length≤n:=by rw[hB];exact Fg rfl) (hm:B.s.aA.length≤m:=by rw[hB];exact Fg rfl):bp P B nt a Q tm s:=bp.re bJ fx n m hn hm ht ho h
theorem bX:0<1∧0<1∧0<1∧0<1:=⟨Nat.zero_lt_one,Nat.zero_lt_one,Nat.zero_lt_one,Nat.zero_lt_one⟩
end Go.Abs
namespace Go.Abs
mutual
theorem SS (n m:Nat) : ∀ d,D.ok 0 0 d=true→D.fg n m d=d
 | .junk,_=>by simp[D.fg]
 | .int k n,_=>by simp[D.fg]
 | .bool b,_=>by simp[D.fg]
 | .str l,_=>by simp[D.fg]
 | .eW,_=>by simp[D.fg]
 | .val v,_=>by simp[D.fg]
 | .ff z,_=>by simp[D.fg]
 | .ga T o,h=>by simp[D.ok]at h
 | .gR o,h=>by simp[D.ok]at h
 | .ij f cs,h=>by
  simp only[D.ok]at h
  simp only[D.fg,jg n m cs h]
 | .ptr o f,h=>by simp[D.ok]at h
 | .dR r f,h=>by
  simp only[D.ok]at h
  simp only[D.fg,jg n m r h]
 | .slice g z rows,h=>by
  simp only[D.ok,Bool.and_eq_true]at h
  simp only[D.fg,MA n m rows h.2]
  cases g with
  |tok t y=>simp[Tag.ok]at h
  |full=>rfl
  |shared=>rfl
 | .agg cs,h=>by
  simp only[D.ok]at h
  simp only[D.fg,jg n m cs h]
 | .tuple cs,h=>by
  simp only[D.ok]at h
  simp only[D.fg,jg n m cs h]
theorem jg (n m:Nat) : ∀ l,D.bM 0 0 l=true→D.iD n m l=l
 | [],_=>by simp[D.iD]
 |d::r,h=>by
  simp only[D.bM,Bool.and_eq_true]at h
  simp only[D.iD,SS n m d h.1,jg n m r h.2]
theorem MA (n m:Nat) : ∀ l,D.jb 0 0 l=true→D.lE n m l=l
 | [],_=>by simp[D.lE]
 |d::r,h=>by
  simp only[D.jb,Bool.and_eq_true]at h
  simp only[D.lE,jg n m d h.1,MA n m r h.2]
end
theorem jc {α:Type} {f:α→List D} (h : ∀ x,D.bM 0 0 (f x)=true) (l:List α):D.jb 0 0 (l.map f)=true:=by
 simp[GV,h]
theorem nj {α:Type} {f:α→List D} (h : ∀ x,D.bM 0 0 (f x)=true) (n m:Nat) (l:List α):D.lE n m (l.map f)=l.map f:=MA n m _ (jc h l)
theorem PJ (n m:Nat) : ∀ a b,D.lE n m (a++b)=D.lE n m a++D.lE n m b
 | [],b=>by simp[D.lE]
 |x::a,b=>by simp[D.lE,PJ n m a b]
abbrev aK:=List UInt8
structure rj where
 kind:Int
 text:aK
 n:Int
 pos:Int
deriving DecidableEq
structure Ex where
 op:Int
 n:Int
 name:aK
 kids:List Ex
structure Ar where
 ref:Bool
 name:aK
 x:Ex
structure Sm where
 id:Int
 kind:Int
 labels:List aK
 name:aK
 proc:aK
 x:Ex
 has:Bool
 args:List Ar
 aP:List Sm
 aM:List Sm
structure Pm where
 name:aK
 ref:Bool
structure Pc where
 name:aK
 params:List Pm
 vars:List aK
 body:List Sm
 fin:List aK
structure Pg where
 globals:List aK
 procs:List Pc
def rk:Ex:=⟨0,0,[],[]⟩
def ar0:Ar:=⟨false,[],rk⟩
def JP:Sm:=⟨0,0,[],[],[],rk,false,[],[],[]⟩
def pg0:Pg:=⟨[],[]⟩
def encStr (s:aK):List D:= [.str s]
def kS (t:rj):List D:= [.int .i64 t.kind, .str t.text, .int .i64 t.n, .int .i64 t.pos]
def sl (z:Nat) (rows:List (List D)):D:= .slice .shared z rows
mutual
def cb:Ex→List D
 |⟨op,n,name,kids⟩=> [.int .i64 op, .int .i64 n, .str name, .slice .shared 4 (xk kids)]
def xk:List Ex→List (List D)
 | []=> []
 |x::l=>cb x::xk l
end
theorem JQ : ∀ l,xk l=l.map cb
 | []=>by simp[xk]
 |x::l=>by simp[xk,JQ l]
theorem jh (x:Ex):cb x = [.int .i64 x.op, .int .i64 x.n, .str x.name, .slice .shared 4 (x.kids.map cb)]:=by
 cases x;simp[cb,JQ]
def fc (a:Ar):List D:= [.bool a.ref, .str a.name, .int .i64 a.x.op, .int .i64 a.x.n, .str a.x.name, .slice .shared 4 (a.x.kids.map cb)]
mutual
def bd:Sm→List D
 |⟨id,kind,labels,name,proc,x,has,args,aP,aM⟩=> [.int .i64 id, .int .i64 kind, .slice .shared 1 (labels.map encStr), .str name, .str proc,
  .int .i64 x.op, .int .i64 x.n, .str x.name, .slice .shared 4 (x.kids.map cb), .bool has, .slice .shared 6 (args.map fc), .slice .shared 13 (vF aP), .slice .shared 13 (vF aM)]
def vF:List Sm→List (List D)
 | []=> []
 |x::l=>bd x::vF l
end
theorem JR : ∀ l,vF l=l.map bd
 | []=>by simp[vF]
 |x::l=>by simp[vF,JR l]
theorem dM (s:Sm):bd s = [.int .i64 s.id, .int .i64 s.kind, .slice .shared 1 (s.labels.map encStr), .str s.name, .str s.proc,
 .int .i64 s.x.op, .int .i64 s.x.n, .str s.x.name, .slice .shared 4 (s.x.kids.map cb), .bool s.has, .slice .shared 6 (s.args.map fc), .slice .shared 13 (s.aP.map bd), .slice .shared 13 (s.aM.map bd)]:=by
 cases s;simp[bd,JR]
def iJ (p:Pm):List D:= [.str p.name, .bool p.ref]
def bN (p:Pc):List D:= [.str p.name, .slice .shared 2 (p.params.map iJ), .slice .shared 1 (p.vars.map encStr), .slice .shared 13 (p.body.map bd), .slice .shared 1 (p.fin.map encStr)]
def bO (p:Pg):List D:= [.slice .shared 1 (p.globals.map encStr), .slice .shared 5 (p.procs.map bN)]
theorem af4 (x:rj):(kS x).length=4:=nd rfl
theorem adz (x:rj):List.take 4 (kS x)=kS x:=nd rfl
theorem adA (x:rj):List.drop 4 (kS x) = []:=nd rfl
theorem Vw (x:rj):(kS x)[0]? = some (.int .i64 x.kind):=nd rfl
theorem Vx (x:rj):(kS x)[1]? = some (.str x.text):=nd rfl
theorem Vy (x:rj):(kS x)[2]? = some (.int .i64 x.n):=nd rfl
theorem Vz (x:rj):(kS x)[3]? = some (.int .i64 x.pos):=nd rfl
theorem akf (G1:Int) (aa9:aK) (n_:Int) (af6:Int):kS ⟨G1,aa9,n_,af6⟩ = [.int .i64 G1, .str aa9, .int .i64 n_, .int .i64 af6]:=by simp only[kS]
theorem abb (x:Ex):(cb x).length=4:=by simp only[jh];rfl
theorem af7 (x:Ex):List.take 4 (cb x)=cb x:=by simp only[jh];rfl
theorem af8 (x:Ex):List.drop 4 (cb x) = []:=by simp only[jh];rfl
theorem Yt (x:Ex):(cb x)[0]? = some (.int .i64 x.op):=by simp only[jh];rfl
theorem Yu (x:Ex):(cb x)[1]? = some (.int .i64 x.n):=by simp only[jh];rfl
theorem Yv (x:Ex):(cb x)[2]? = some (.str x.name):=by simp only[jh];rfl
theorem Yw (x:Ex):(cb x)[3]? = some (.slice .shared 4 (x.kids.map cb)):=by simp only[jh];rfl
theorem aoQ (op_:Int) (n_:Int) (qi:aK) (abd:List Ex):cb ⟨op_,n_,qi,abd⟩ = [.int .i64 op_, .int .i64 n_, .str qi, .slice .shared 4 (abd.map cb)]:=by simp only[jh]
theorem akg (x:Ar):(fc x).length=6:=nd rfl
theorem af9 (x:Ar):List.take 6 (fc x)=fc x:=nd rfl
theorem aga (x:Ar):List.drop 6 (fc x) = []:=nd rfl
theorem Yx (x:Ar):(fc x)[0]? = some (.bool x.ref):=nd rfl
theorem Yy (x:Ar):(fc x)[1]? = some (.str x.name):=nd rfl
theorem Yz (x:Ar):(fc x)[2]? = some (.int .i64 x.x.op):=nd rfl
theorem YA (x:Ar):(fc x)[3]? = some (.int .i64 x.x.n):=nd rfl
theorem YB (x:Ar):(fc x)[4]? = some (.str x.x.name):=nd rfl
theorem YC (x:Ar):(fc x)[5]? = some (.slice .shared 4 (x.x.kids.map cb)):=nd rfl
theorem YD (x:Ar):List.take 4 (List.drop 2 (fc x))=cb x.x:=by simp only[fc,jh];rfl
theorem aoR (MB:Bool) (qi:aK) (x_:Ex):fc ⟨MB,qi,x_⟩ = [.bool MB, .str qi, .int .i64 x_.op, .int .i64 x_.n, .str x_.name, .slice .shared 4 (x_.kids.map cb)]:=by simp only[fc]
theorem Lm (x:Sm):(bd x).length=13:=by simp only[dM];rfl
theorem agb (x:Sm):List.take 13 (bd x)=bd x:=by simp only[dM];rfl
theorem agc (x:Sm):List.drop 13 (bd x) = []:=by simp only[dM];rfl
theorem YE (x:Sm):(bd x)[0]? = some (.int .i64 x.id):=by simp only[dM];rfl
theorem YF (x:Sm):(bd x)[1]? = some (.int .i64 x.kind):=by simp only[dM];rfl
theorem YG (x:Sm):(bd x)[2]? = some (.slice .shared 1 (x.labels.map encStr)):=by simp only[dM];rfl
theorem YH (x:Sm):(bd x)[3]? = some (.str x.name):=by simp only[dM];rfl
theorem YI (x:Sm):(bd x)[4]? = some (.str x.proc):=by simp only[dM];rfl
theorem YJ (x:Sm):(bd x)[5]? = some (.int .i64 x.x.op):=by simp only[dM];rfl
theorem YK (x:Sm):(bd x)[6]? = some (.int .i64 x.x.n):=by simp only[dM];rfl
theorem YL (x:Sm):(bd x)[7]? = some (.str x.x.name):=by simp only[dM];rfl
theorem YM (x:Sm):(bd x)[8]? = some (.slice .shared 4 (x.x.kids.map cb)):=by simp only[dM];rfl
theorem YN (x:Sm):(bd x)[9]? = some (.bool x.has):=by simp only[dM];rfl
theorem VA (x:Sm):(bd x)[10]? = some (.slice .shared 6 (x.args.map fc)):=by simp only[dM];rfl
theorem VB (x:Sm):(bd x)[11]? = some (.slice .shared 13 (x.aP.map bd)):=by simp only[dM];rfl
theorem VC (x:Sm):(bd x)[12]? = some (.slice .shared 13 (x.aM.map bd)):=by simp only[dM];rfl
theorem YO (x:Sm):List.take 4 (List.drop 5 (bd x))=cb x.x:=by simp only[dM,jh];rfl
theorem aoS (id_:Int) (G1:Int) (PK:List aK) (qi:aK) (abe:aK) (x_:Ex) (agd:Bool) (abf:List Ar) (age:List Sm) (agf:List Sm):bd ⟨id_,G1,PK,qi,abe,x_,agd,abf,age,agf⟩ = [.int .i64 id_, .int .i64 G1, .slice .shared 1 (PK.map encStr), .str qi, .str abe, .int .i64 x_.op, .int .i64 x_.n, .str x_.name, .slice .shared 4 (x_.kids.map cb), .bool agd, .slice .shared 6 (abf.map fc), .slice .shared 13 (age.map bd), .slice .shared 13 (agf.map bd)]:=by simp only[dM]
theorem akh (x:Pm):(iJ x).length=2:=nd rfl
theorem agh (x:Pm):List.take 2 (iJ x)=iJ x:=nd rfl
theorem agi (x:Pm):List.drop 2 (iJ x) = []:=nd rfl
theorem YP (x:Pm):(iJ x)[0]? = some (.str x.name):=nd rfl
theorem YQ (x:Pm):(iJ x)[1]? = some (.bool x.ref):=nd rfl
theorem aoT (qi:aK) (MB:Bool):iJ ⟨qi,MB⟩ = [.str qi, .bool MB]:=by simp only[iJ]
theorem aki (x:Pc):(bN x).length=5:=nd rfl
theorem agj (x:Pc):List.take 5 (bN x)=bN x:=nd rfl
theorem agk (x:Pc):List.drop 5 (bN x) = []:=nd rfl
theorem YR (x:Pc):(bN x)[0]? = some (.str x.name):=nd rfl
theorem YS (x:Pc):(bN x)[1]? = some (.slice .shared 2 (x.params.map iJ)):=nd rfl
theorem YT (x:Pc):(bN x)[2]? = some (.slice .shared 1 (x.vars.map encStr)):=nd rfl
theorem YU (x:Pc):(bN x)[3]? = some (.slice .shared 13 (x.body.map bd)):=nd rfl
theorem YV (x:Pc):(bN x)[4]? = some (.slice .shared 1 (x.fin.map encStr)):=nd rfl
theorem aoU (qi:aK) (PN:List Pm) (abg:List aK) (abh:List Sm) (agl:List aK):bN ⟨qi,PN,abg,abh,agl⟩ = [.str qi, .slice .shared 2 (PN.map iJ), .slice .shared 1 (abg.map encStr), .slice .shared 13 (abh.map bd), .slice .shared 1 (agl.map encStr)]:=by simp only[bN]
theorem akj (x:Pg):(bO x).length=2:=nd rfl
theorem agm (x:Pg):List.take 2 (bO x)=bO x:=nd rfl
theorem agn (x:Pg):List.drop 2 (bO x) = []:=nd rfl
theorem YW (x:Pg):(bO x)[0]? = some (.slice .shared 1 (x.globals.map encStr)):=nd rfl
theorem YX (x:Pg):(bO x)[1]? = some (.slice .shared 5 (x.procs.map bN)):=nd rfl
theorem aoV (MC:List aK) (VD:List Pc):bO ⟨MC,VD⟩ = [.slice .shared 1 (MC.map encStr), .slice .shared 5 (VD.map bN)]:=by simp only[bO]
attribute [go_sem] af4 adz adA Vw Vx Vy Vz akf abb af7 af8 Yt Yu Yv Yw aoQ akg af9 aga Yx Yy Yz YA YB YC YD aoR Lm agb agc YE YF YG YH YI YJ YK YL YM YN VA VB VC YO aoS akh agh agi YP YQ aoT aki agj agk YR YS YT YU YV aoU akj agm agn YW YX aoV
theorem G2 (s:aK):D.bM 0 0 (encStr s)=true:=rfl
theorem abi (t:rj):D.bM 0 0 (kS t)=true:=rfl
mutual
theorem lx : ∀ x,D.bM 0 0 (cb x)=true
 |⟨op,n,name,kids⟩=>by simp[cb,D.bM,D.ok,Tag.ok,abj kids]
theorem abj : ∀ l,D.jb 0 0 (xk l)=true
 | []=>rfl
 |x::l=>by simp[xk,D.jb,lx x,abj l]
end
theorem SU (a:Ar):D.bM 0 0 (fc a)=true:=by simp[fc,D.bM,D.ok,Tag.ok,jc lx]
mutual
theorem pz : ∀ x,D.bM 0 0 (bd x)=true
 |⟨id,kind,labels,name,proc,x,has,args,aP,aM⟩=>by simp[bd,D.bM,D.ok,Tag.ok,SV aP,SV aM,jc G2,jc lx,jc SU]
theorem SV : ∀ l,D.jb 0 0 (vF l)=true
 | []=>rfl
 |x::l=>by simp[vF,D.jb,pz x,SV l]
end
theorem SW (p:Pm):D.bM 0 0 (iJ p)=true:=rfl
theorem zA (p:Pc):D.bM 0 0 (bN p)=true:=by simp[bN,D.bM,D.ok,Tag.ok,jc SW,jc G2,jc pz]
theorem iy (p:Pg):D.bM 0 0 (bO p)=true:=by simp[bO,D.bM,D.ok,Tag.ok,jc G2,jc zA]
theorem ago (n m:Nat) (x:rj):D.iD n m (kS x)=kS x:=jg n m _ (abi x)
theorem akk (n m:Nat) (x:Ex):D.iD n m (cb x)=cb x:=jg n m _ (lx x)
theorem akl (n m:Nat) (x:Ar):D.iD n m (fc x)=fc x:=jg n m _ (SU x)
theorem akm (n m:Nat) (x:Sm):D.iD n m (bd x)=bd x:=jg n m _ (pz x)
theorem akn (n m:Nat) (x:Pm):D.iD n m (iJ x)=iJ x:=jg n m _ (SW x)
theorem ako (n m:Nat) (x:Pc):D.iD n m (bN x)=bN x:=jg n m _ (zA x)
theorem akp (n m:Nat) (x:Pg):D.iD n m (bO x)=bO x:=jg n m _ (iy x)
attribute [go_sem] ago akk akl akm akn ako akp
theorem fI (l:List aK):D.jb 0 0 (l.map encStr)=true:=jc G2 l
theorem abk (l:List Ex):D.jb 0 0 (l.map cb)=true:=jc lx l
theorem Ln (l:List Ar):D.jb 0 0 (l.map fc)=true:=jc SU l
theorem nF (l:List Sm):D.jb 0 0 (l.map bd)=true:=jc pz l
theorem akq (l:List Pm):D.jb 0 0 (l.map iJ)=true:=jc SW l
theorem yz (l:List Pc):D.jb 0 0 (l.map bN)=true:=jc zA l
theorem MD (n m:Nat) (l:List aK):D.lE n m (l.map encStr)=l.map encStr:=nj G2 n m l
theorem agp (n m:Nat) (l:List rj):D.lE n m (l.map kS)=l.map kS:=nj abi n m l
theorem akr (n m:Nat) (l:List Ex):D.lE n m (l.map cb)=l.map cb:=nj lx n m l
theorem aks (n m:Nat) (l:List Ar):D.lE n m (l.map fc)=l.map fc:=nj SU n m l
theorem akt (n m:Nat) (l:List Sm):D.lE n m (l.map bd)=l.map bd:=nj pz n m l
theorem aku (n m:Nat) (l:List Pm):D.lE n m (l.map iJ)=l.map iJ:=nj SW n m l
theorem abl (n m:Nat) (l:List Pc):D.lE n m (l.map bN)=l.map bN:=nj zA n m l
theorem agq (x:Ex) (r:List D):cb x++r = .int .i64 x.op:: .int .i64 x.n:: .str x.name:: .slice .shared 4 (x.kids.map cb)::r:=by rw[jh];rfl
theorem adB (d:D) (x:Ex):d::cb x = [d, .int .i64 x.op, .int .i64 x.n, .str x.name, .slice .shared 4 (x.kids.map cb)]:=by rw[jh]
attribute [go_sem] agq adB
theorem akv:((0:Nat):Int)=0:=nd rfl
theorem akw:((1:Nat):Int)=1:=nd rfl
theorem akx:((2:Nat):Int)=2:=nd rfl
attribute [go_sem] akv akw akx PJ List.length_append List.map_append encStr rk ar0 JP pg0 MD agp akr aks akt aku abl
theorem mx (a b:Nat):(if(b:Int) > (a:Int)then(b:Int)else(a:Int))=((max a b:Nat):Int):=by split<;>omega
theorem eB {x:Int} (h1 : -9223372036854775808≤x) (h2:x<9223372036854775808):IntKind.wrap .i64 x=x:=by
 rw[IntKind.wrap_i64];omega
@[go_sem] theorem aN {n:Nat} (h:n<4611686018427387904):IntKind.wrap .i64 ((n:Int)+1)=((n+1:Nat):Int):=by
 rw[eB]<;>omega
def inc (n:Nat):Option Nat:=if n<4611686018427387904 then some (n+1)else none
def aoW (n:Int):Option Int:=if -4611686018427387904<n∧n<4611686018427387904 then some (n+1)else none
@[go_sem] theorem anq {n:Nat} (h:n+1<4611686018427387904):IntKind.wrap .i64 ((n:Int)+1)=((n+1:Nat):Int):=by
 rw[eB]<;>omega
@[go_sem] theorem anr {n:Nat} (h:n<4611686018427387904):IntKind.wrap .i64 ((n:Int)+2)=((n+2:Nat):Int):=by
 rw[eB]<;>omega
def agr {α:Type} (l:List α) (i:Nat):Option α:=if i<4611686018427387904 then l[i]? else none
def push {α:Type} (k:Nat) (l:List α) (x:α):Option (List α):=if(l.length+1)*k≤bq then some (l++ [x])else none
end Go.Abs
namespace Go.Abs
def Cm (os ts:List Nat) (tm:Tm):Tm→Prop
 | []=>True
 |(k,d)::r=>tm.get k=d.cU os ts∧d.ok os.length ts.length=true∧Cm os ts tm r
theorem Cm.get {os ts:List Nat} {tm:Tm} : ∀ {bJ:Tm},Cm os ts tm bJ→∀ k,bJ.get k = .junk∨(tm.get k=(bJ.get k).cU os ts∧(bJ.get k).ok os.length ts.length=true)
 | [],_,k=> .inl rfl
 |(q,d)::r,⟨h1,h2,h3⟩,k=>by
  simp only[Tm.get]
  split
  ·rename_i e;subst e;exact .inr ⟨h1,h2⟩
  ·exact h3.get k
section
variable {P:Program} {B:gW} {nt:Nat}
theorem Holds.Dp {tm:Tm} {s:St} {act:Act} {w:World} (os:List Nat) (fx:List (List D)) (bJ:Tm) (um:os.Nodup) (jy : ∀ o∈os,o<s.al.length) (hn:B.s.al.length≤os.length)
 (hold : ∀ i,i<B.s.al.length→os[i]? = some i) (dA : ∀ (i o:Nat),os[i]? = some o→B.s.al.length≤i→B.s.al.length≤o) (ho:fx.length=os.length)
 (qx : ∀ (i o:Nat) (ds:List D),os[i]? = some o→fx[i]? = some ds→s.al[o]? = some (D.fa os (List.range s.aA.length) ds)∧D.bM os.length s.aA.length ds=true)
 (VE:Cm os (List.range s.aA.length) tm bJ) (h:Holds B nt tm s act w):Holds B nt bJ ⟨fx,s.aA⟩ act w:=by
 obtain⟨M,e,r,hr,h1,h2⟩:=h
 have wu:(List.range s.aA.length).length=s.aA.length:=List.length_range
 have rg : ∀ (i t:Nat),(List.range s.aA.length)[i]? = some t→i=t:=fun i t h=>by
  rw[List.getElem?_eq_some_iff]at h
  obtain⟨h3,h4⟩:=h
  simpa using h4
 have r0:Rel (gC M os (List.range s.aA.length)) ⟨fx,s.aA⟩ w:=r.sub um List.nodup_range jy ho (fun i o ds e1 e2=>by rw[wu];exact qx i o ds e1 e2) wu.symm (fun i t h=>by rw[rg i t h])
 have loc : ∀ (i:Nat) o,os[i]? = some o→(gC M os (List.range s.aA.length)).loc i=M.loc o:=fun i o h=>by simp only[gC,uE h]
 have be : ∀ t,t<s.aA.length→(gC M os (List.range s.aA.length)).be t=M.be t:=fun t h=>by
  have:(List.range s.aA.length)[t]? = some t:=List.getElem?_range h
  simp only[gC,uE this]
 refine⟨gC M os (List.range s.aA.length),⟨⟨e.le.G,by rw[ho];exact hn,fun o h=>?_,e.le.t,fun t n' h e'=>?_⟩,e.kept,fun o h3 h4=>?_,fun t b c z hl hb=>?_,e.sg,e.size,e.os,e.tape,e.output⟩,r0,fun k=>?_,h1,h2⟩
 ·rw[loc o o (hold o h)];exact e.le.loc o h
 ·obtain⟨n,g1,g2,g3⟩:=e.le.tk t n' h e'
  exact⟨n,g1,g2,fun eq=>by rw[be t (Nat.lt_of_lt_of_le h e.le.t)];exact g3 eq⟩
 ·simp only at h4
  rw[ho]at h4
  obtain⟨q,hq⟩ : ∃ q,os[o]? = some q:=⟨_,List.getElem?_eq_getElem h4⟩
  have oj:(gC M os (List.range s.aA.length)).mu o=M.mu q:=congrArg Prod.fst (loc o q hq)
  rw[oj]at h3 ⊢
  refine e.sf q ?_ (jy q (List.mem_of_getElem? hq))
  by_cases h5:B.s.al.length≤o
  ·exact .inl (dA o q hq h5)
  ·have:=hold o (by omega)
   rw[hq]at this
   cases this
   rcases h3 with h3|h3
   ·exact(h5 h3).elim
   ·exact .inr h3
 ·obtain⟨n,rh⟩:=hl
  have hD:=(List.getElem?_eq_some_iff.1 rh).1
  rw[be t hD]at hb
  exact e.rr t b c z ⟨n,rh⟩ hb
 ·rcases VE.get k with h3 | ⟨h3,h4⟩
  ·rw[h3];exact .junk _
  ·exact RD.Bd (M:=M) (M0:=gC M os (List.range s.aA.length)) (s:=s) (s0:=⟨fx,s.aA⟩) rfl loc ho (fun i t h=>by
    have:=rg i t h;subst this;exact be i (by have:=(List.getElem?_eq_some_iff.1 h).1;rwa [wu]at this)) (fun i t h=>by rw[rg i t h]) wu.symm (h3 ▸ hr k) _ rfl h4
theorem bp.Dp {a:AC} {Q:Exit→Tm→St→Prop} {tm:Tm} {s:St} (os:List Nat) (fx:List (List D)) (bJ:Tm) (um:os.Nodup) (jy : ∀ o∈os,o<s.al.length) (hn:B.s.al.length≤os.length)
 (hold : ∀ i,i<B.s.al.length→os[i]? = some i) (dA : ∀ (i o:Nat),os[i]? = some o→B.s.al.length≤i→B.s.al.length≤o) (ho:fx.length=os.length)
 (qx : ∀ (i o:Nat) (ds:List D),os[i]? = some o→fx[i]? = some ds→s.al[o]? = some (D.fa os (List.range s.aA.length) ds)∧D.bM os.length s.aA.length ds=true)
 (VE:Cm os (List.range s.aA.length) tm bJ) (h:bp P B nt a Q bJ ⟨fx,s.aA⟩):bp P B nt a Q tm s:=
 fun c hc act w hh=>h c hc act w (hh.Dp os fx bJ um jy hn hold dA ho qx VE)
mutual
def D.gw (o g:Nat) (rows:List (List D)):D→D
 | .dS z o' g' len=>if o'=o∧g'=g∧len=rows.length then .slice .shared z rows else .dS z o' g' len
 | .dR row off=> .dR (D.kn o g rows row) off
 | .slice t z rs=> .slice t z (D.s9 o g rows rs)
 | .agg cs=> .agg (D.kn o g rows cs)
 | .tuple ds=> .tuple (D.kn o g rows ds)
 | .ij f cs=> .ij f (D.kn o g rows cs)
 | .ptr o off=> .ptr o off
 | .junk=> .junk
 | .int k x=> .int k x
 | .bool b=> .bool b
 | .str l=> .str l
 | .eW=> .eW
 | .val v=> .val v
 | .ga T o=> .ga T o
 | .gR o=> .gR o
 | .gb o g off=> .gb o g off
 | .ff z=> .ff z
def D.kn (o g:Nat) (rows:List (List D)):List D→List D
 | []=> []
 |d::r=>D.gw o g rows d::D.kn o g rows r
def D.s9 (o g:Nat) (rows:List (List D)):List (List D)→List (List D)
 | []=> []
 |d::r=>D.kn o g rows d::D.s9 o g rows r
end
theorem nn (o g:Nat) (rows:List (List D)) : ∀ l,D.kn o g rows l=l.map (D.gw o g rows)
 | []=>by simp[D.kn]
 |d::r=>by simp[D.kn,nn o g rows r]
theorem PO (o g:Nat) (rows:List (List D)) : ∀ l,D.s9 o g rows l=l.map (D.kn o g rows)
 | []=>by simp[D.s9]
 |d::r=>by simp[D.s9,PO o g rows r]
theorem RD.gw {M:Map} {s:St} {o g:Nat} {rows:List (List D)} {b cap z:Nat} {A:Nat→Option (Nat×Nat)} (hm:M.ob o = .arr z A) (ha:A g=some (b,cap))
 (hs : ∀ row∈rows,row.length=z) (h1 : ∀ (i:Nat) (row:List D) (j:Nat) (d:D),rows[i]? = some row→row[j]? = some d→∃ u,M.G b (0+(i*z+j))=some u)
 (h2 : ∀ (i:Nat) (row:List D) (j:Nat) (d:D) (u:Value),rows[i]? = some row→row[j]? = some d→M.G b (0+(i*z+j))=some u→RD M s d u)
 {d:D} {v:Value} (h:RD M s d v):RD M s (d.gw o g rows) v:=by
 induction h with
 | dS z' o' g' len b' sj A' ho w5 yp hl=>
  simp only[D.gw]
  split
  ·rename_i hc
   obtain⟨rfl,rfl,rfl⟩:=hc
   rw[hm]at w5
   cases w5
   rw[ha]at yp
   cases yp
   exact .slice .shared z rows b 0 cap hl hs h1 h2 trivial
  ·exact .dS z' o' g' len b' sj A' ho w5 yp hl
 |gb z' o' g' off b' sj A' ho w5 yp=>simp only[D.gw];exact .gb z' o' g' off b' sj A' ho w5 yp
 |ff z a=>simp only[D.gw];exact .ff z a
 |junk v=>simp only[D.gw];exact .junk v
 |int k x=>simp only[D.gw];exact .int k x
 |bool b=>simp only[D.gw];exact .bool b
 |str l=>simp only[D.gw];exact .str l
 |eW=>simp only[D.gw];exact .eW
 |val v hv=>simp only[D.gw];exact .val v hv
 |ga T o v h ht hv=>simp only[D.gw];exact .ga T o v h ht hv
 |gR o h hm=>simp only[D.gw];exact .gR o h hm
 |ptr o off h hm=>simp only[D.gw];exact .ptr o off h hm
 |ij f ds vs hl _ ih=>
  simp only[D.gw,nn]
  refine .ij f _ vs (by simpa using hl) (fun i d v e1 e2=>?_)
  simp only[List.getElem?_map,Option.map_eq_some_iff]at e1
  obtain⟨d',e1,rfl⟩:=e1
  exact ih i d' v e1 e2
 | dR row off b k h1 h2 ih=>
  simp only[D.gw,nn]
  refine .dR _ off b k (fun i d e=>?_) (fun i d u e eu=>?_)
  ·simp only [List.getElem?_map,Option.map_eq_some_iff]at e
   obtain⟨d',e,rfl⟩:=e
   exact h1 i d' e
  ·simp only [List.getElem?_map,Option.map_eq_some_iff]at e
   obtain⟨d',e,rfl⟩:=e
   exact ih i d' u e eu
 |jE t z cap hc ht=>simp only[D.gw,D.s9];exact .jE _ z cap hc ht
 |mD z a cap=>simp only[D.gw,D.s9];exact .mD z a cap
 | slice t z rs b k cap hl hs h1 h2 ht ih=>
  simp only[D.gw,PO]
  have hlen:(rs.map (D.kn o g rows)).length=rs.length:=by simp
  have key:=RD.slice (M:=M) (s:=s) t z (rs.map (D.kn o g rows)) b k cap (by rw[hlen];exact hl) (fun row hr=>by
   obtain⟨ll,h',rfl⟩:=List.mem_map.1 hr
   rw[nn,List.length_map];exact hs ll h')
   (fun i row j d e1 e2=>by
    simp only[List.getElem?_map,Option.map_eq_some_iff]at e1
    obtain⟨ll,e1,rfl⟩:=e1
    rw[nn]at e2
    simp only[List.getElem?_map,Option.map_eq_some_iff]at e2
    obtain⟨d',e2,rfl⟩:=e2
    exact h1 i ll j d' e1 e2)
   (fun i row j d u e1 e2 eu=>by
    simp only[List.getElem?_map,Option.map_eq_some_iff]at e1
    obtain⟨ll,e1,rfl⟩:=e1
    rw[nn]at e2
    simp only[List.getElem?_map,Option.map_eq_some_iff]at e2
    obtain⟨d',e2,rfl⟩:=e2
    exact ih i ll j d' u e1 e2 eu)
   (by rw[hlen];exact ht)
  rw[hlen]at key
  exact key
 |agg cells vs hl h1 _ ih=>
  simp only[D.gw,nn]
  refine .agg _ vs (by simpa using hl) h1 (fun i d v e1 e2=>?_)
  simp only[List.getElem?_map,Option.map_eq_some_iff]at e1
  obtain⟨d',e1,rfl⟩:=e1
  exact ih i d' v e1 e2
 |tuple ds vs hl _ ih=>
  simp only[D.gw,nn]
  refine .tuple _ vs (by simpa using hl) (fun i d v e1 e2=>?_)
  simp only[List.getElem?_map,Option.map_eq_some_iff]at e1
  obtain⟨d',e1,rfl⟩:=e1
  exact ih i d' v e1 e2
def G3 (o g:Nat) (rows:List (List D)) (n m:Nat) (ds:List D):List D:=D.iD n m (D.kn o g rows ds)
def G4 (o g:Nat) (rows:List (List D)) (m:Nat) (tm:Tm):Tm→Prop
 | []=>True
 |(k,d)::r=>Wk (((tm.get k).gw o g rows).fg o m) d∧G4 o g rows m tm r
theorem G4.get {o g m:Nat} {rows:List (List D)} {tm:Tm} : ∀ {bJ:Tm},G4 o g rows m tm bJ→∀ t,Wk (((tm.get t).gw o g rows).fg o m) (bJ.get t)
 | [],_,t=>Wk.junk _
 |(k,d)::r,h,t=>by
  simp only[Tm.get]
  split
  ·rename_i hk;subst hk;exact h.1
  ·exact G4.get h.2 t
theorem Holds.YY {tm:Tm} {s:St} {act:Act} {w:World} (o g z:Nat) (rows:List (List D)) (bJ:Tm) (fx:List (List D)) (hn:B.s.al.length≤o) (eJ:s.al[o]? = some (.int .i64 (g:Int)::rows.flatten)) (hz : ∃ k l,tm.get k = .dS z o g l∨∃ (q:Nat) (ds:List D),s.al[q]? = some ds∧ds[k]? = some (.dS z o g l))
 (hs : ∀ row∈rows,row.length=z) (ht:G4 o g rows s.aA.length tm bJ) (qx:il ((s.al.take o).map (G3 o g rows o s.aA.length)) fx)
 (h:Holds B nt tm s act w):Holds B nt bJ ⟨fx,s.aA⟩ act w:=by
 obtain⟨M,e,r,hr,h1,h2⟩:=h
 have xl:o<s.al.length:=(List.getElem?_eq_some_iff.1 eJ).1
 obtain⟨A,hm⟩ : ∃ A,M.ob o = .arr z A:=by
  obtain⟨k,l,hz|⟨q,ds,hq,hz⟩⟩:=hz
  ·have:=hr k
   rw[hz]at this
   obtain⟨_,_,A,_,_,hm,_⟩:=this.uA
   exact⟨A,hm⟩
  ·obtain⟨vs,T,_,dU,_,jF⟩:=r.obj q ds hq
   have hD:=(List.getElem?_eq_some_iff.1 hz).1
   obtain⟨_,_,A,_,_,hm,_⟩:=(jF k _ _ hz (Array.getElem?_eq_getElem (by omega))).uA
   exact⟨A,hm⟩
 have ha:lQ s o g=some rows.flatten:=by unfold lQ;rw[eJ];simp
 obtain⟨us,T,cap,hh,uh,C5,dU,hle,gP,jF⟩:=r.IF hm ha
 obtain⟨iL,_⟩:=xf hs
 have VF : ∀ q,M.G (M.mu o) q=none:=r.j7 o xl
 have vb:B.w.heap.size≤M.mu o:=e.sf o (.inl hn) xl
 let M':Map:= {M with G:=fun b q=>if b=M.mu o then us[q]? else M.G b q}
 have mE : ∀ b,b≠M.mu o→∀ q,M'.G b q=M.G b q:=fun b hb q=>if_neg hb
 have le:Le M s M' s:=⟨fun b q v hq=>by
  by_cases hb:b=M.mu o
  ·subst hb;rw[VF]at hq;cases hq
  ·rw[mE b hb];exact hq,Nat.le_refl _,fun _ _=> .refl _,Nat.le_refl _,fun t n' _ e=>⟨n',e,Nat.le_refl _,fun _=>rfl⟩⟩
 -- the rows are among the cells
 have iR : ∀ (i:Nat) (row:List D) (j:Nat) (d:D),rows[i]? = some row→row[j]? = some d→rows.flatten[i*z+j]? = some d:=by
  have gen : ∀ (rows:List (List D)),(∀ row∈rows,row.length=z)→∀ (i:Nat) (row:List D) (j:Nat) (d:D),rows[i]? = some row→row[j]? = some d→rows.flatten[i*z+j]? = some d:=by
   intro rows
   induction rows with
   |nil=>intro _ i row j d e1;simp at e1
   | cons a rows ih=>
    intro hs i row j d e1 e2
    have sJ:=hs a (List.mem_cons_self ..)
    rw[List.flatten_cons]
    cases i with
    |zero=>
     simp at e1;subst e1
     rw[Nat.zero_mul,Nat.zero_add,List.getElem?_append_left (List.getElem?_eq_some_iff.1 e2).1];exact e2
    |succ i=>
     rw[List.getElem?_append_right (by rw[Nat.add_mul];omega),sJ,show(i+1)*z+j - z=i*z+j by rw[Nat.add_mul];omega]
     exact ih (fun q hq=>hs q (List.mem_cons_of_mem _ hq)) i row j d (by simpa using e1) e2
  exact gen rows hs
 have g1 : ∀ (i:Nat) (row:List D) (j:Nat) (d:D),rows[i]? = some row→row[j]? = some d→∃ u,M'.G (M.mu o) (0+(i*z+j))=some u:=fun i row j d e1 e2=>by
  have hD:=(List.getElem?_eq_some_iff.1 (iR i row j d e1 e2)).1
  refine⟨us[i*z+j]'(by omega), ?_⟩
  show(if M.mu o=M.mu o then us[0+(i*z+j)]? else _)=_
  rw[if_pos rfl,Nat.zero_add]
  exact Array.getElem?_eq_getElem _
 have g2 : ∀ (i:Nat) (row:List D) (j:Nat) (d:D) (u:Value),rows[i]? = some row→row[j]? = some d→M'.G (M.mu o) (0+(i*z+j))=some u→RD M' s d u:=fun i row j d u e1 e2 eu=>by
  have Cn:(if M.mu o=M.mu o then us[0+(i*z+j)]? else M.G (M.mu o) (0+(i*z+j)))=some u:=eu
  rw[if_pos rfl,Nat.zero_add]at Cn
  exact(jF _ d u (iR i row j d e1 e2) Cn).mono le
 have conv : ∀ {d:D} {v:Value},RD M s d v→RD M' (s.cut o s.aA.length) ((d.gw o g rows).fg o s.aA.length) v:=fun hd=>((hd.mono le).gw (M:=M') hm uh hs g1 g2).fg o s.aA.length
 have rc:=r.cut o s.aA.length
 have ec:=e.cut hn e.le.t
 have hD : ∀ q,q<(s.cut o s.aA.length).al.length→q<s.al.length∧q≠o:=fun q h=>by rw[lH]at h;omega
 have PQ:(s.cut o s.aA.length).aA=s.aA:=by simp[St.cut]
 have hlen:fx.length=min o s.al.length:=by rw[← qx.len];simp
 have VG:Le M (s.cut o s.aA.length) M' (s.cut o s.aA.length):=⟨le.G,Nat.le_refl _,fun _ _=> .refl _,Nat.le_refl _,fun t n' _ e=>⟨n',e,Nat.le_refl _,fun _=>rfl⟩⟩
 have les:Le M' (s.cut o s.aA.length) M' ⟨fx,s.aA⟩:=⟨fun _ _ _ h=>h,by rw[lH];simp only;omega,fun _ _=> .refl _,by simp[St.cut],fun t n' _ e=>⟨n',by rw[PQ];exact e,Nat.le_refl _,fun _=>rfl⟩⟩
 refine⟨M',⟨(ec.le.trans VG).trans les,ec.kept,fun q h3 h4=>?_,fun t b c z hl hb=>?_,fun b q fk=>?_,ec.size,ec.os,ec.tape,ec.output⟩,⟨fun b q v hq=>?_,fun q ds hq=>?_,fun q hq si=>?_,fun q q' hq la=>?_,fun t n' Ci=>?_,fun t b c z q hl hb hq=>?_,fun t t' b c z c' z' hl mF=>?_⟩,fun k=>?_,h1,h2⟩
 ·exact ec.sf q h3 (by rw[lH];simp only[hlen]at h4;exact h4)
 ·exact ec.rr t b c z (by obtain⟨n,hn⟩:=hl;exact⟨n,by rw[PQ];exact hn⟩) hb
 ·by_cases hb:b=M.mu o
  ·subst hb;exact .inl vb
  ·rw[mE b hb]at fk;exact ec.sg b q fk
 ·have la:(if b=M.mu o then us[q]? else M.G b q)=some v:=hq
  by_cases hb:b=M.mu o
  ·rw [if_pos hb]at la
   rw[hb,jw hh]
   exact⟨la,gP v (Array.mem_of_getElem? la)⟩
  ·rw [if_neg hb]at la
   exact r.comm b q v la
 ·have E8:=(List.getElem?_eq_some_iff.1 hq).1
  have vy:q<o:=by simp only[hlen]at E8;omega
  have hqs:q<s.al.length:=by omega
  obtain⟨Me,agt⟩ : ∃ Me,s.al[q]? = some Me:=⟨_,List.getElem?_eq_getElem hqs⟩
  obtain⟨vs,T',h3,h4,h5,h6⟩:=r.obj q Me agt
  obtain⟨r1,vG,hw⟩:=qx.get hq
  have aoX:r1=G3 o g rows o s.aA.length Me:=by
   rw[List.getElem?_map,List.getElem?_take_of_lt vy,agt]at vG
   simpa using vG.symm
  subst aoX
  refine⟨vs,T',h3,by rw[← hw.len];simp[G3,mL,nn,h4],h5,fun i d v e1 e2=>?_⟩
  obtain⟨d1,Dq,hwd⟩:=hw.get e1
  simp only[G3,mL,nn,List.getElem?_map,Option.map_eq_some_iff]at Dq
  obtain⟨d2,⟨d3,hd3,rfl⟩,rfl⟩:=Dq
  exact(hwd _ _ _ (conv (h6 i d3 v hd3 e2))).mono les
 ·have E8:q<o:=by simp only [hlen]at hq;omega
  show M'.G (M.mu q) si=none
  rw[mE _ (fun e=>by have:=r.inj q o (by omega) xl e;omega)]
  exact r.j7 q (by omega) si
 ·simp only [hlen]at hq la
  exact r.inj q q' (by omega) (by omega)
 ·rcases r.tok t n' Ci with h3 | ⟨b,cap,z,gk,T',h3,h4,h5,h6,h7⟩
  ·exact .inl h3
  ·refine .inr ⟨b,cap,z,gk,T',h3,h4,h5,h6,fun si Bg=> ?_,h7.2⟩
   rw[mE _ (fun e=>r.fM t b cap z o ⟨n',Ci⟩ h3 xl e.symm)]
   exact h7.1 si Bg
 ·simp only [hlen]at hq
  exact r.fM t b c z q hl hb (by omega)
 ·exact r.gN t t' b c z c' z' hl mF
 ·exact(ht.get k _ _ _ (conv (hr k))).mono les
theorem bp.YY {a:AC} {Q:Exit→Tm→St→Prop} {tm:Tm} {s:St} (o g z:Nat) (rows:List (List D)) (bJ:Tm) (fx:List (List D)) (hn:B.s.al.length≤o) (eJ:s.al[o]? = some (.int .i64 (g:Int)::rows.flatten)) (hz : ∃ k l,tm.get k = .dS z o g l∨∃ (q:Nat) (ds:List D),s.al[q]? = some ds∧ds[k]? = some (.dS z o g l))
 (hs : ∀ row∈rows,row.length=z) (ht:G4 o g rows s.aA.length tm bJ) (qx:il ((s.al.take o).map (G3 o g rows o s.aA.length)) fx)
 (h:bp P B nt a Q bJ ⟨fx,s.aA⟩):bp P B nt a Q tm s:=fun c hc act w hh=>h c hc act w (hh.YY o g z rows bJ fx hn eJ hz hs ht qx)
end
end Go.Abs
namespace Go.Abs
mutual
def D.flat:D→Bool
 | .int _ _=>true
 | .bool _=>true
 | .str _=>true
 | .tuple ds=>D.G5 ds
 |_=>false
def D.G5:List D→Bool
 | []=>true
 |d::r=>d.flat && D.G5 r
end
theorem JS : ∀ {l:List D},D.G5 l=true→∀ {i:Nat} {d:D},l[i]? = some d→d.flat=true
 | [],_,i,d,e=>by simp at e
 |a::l,h,i,d,e=>by
  simp only[D.G5,Bool.and_eq_true]at h
  cases i with
  |zero=>simp at e;subst e;exact h.1
  |succ i=>exact JS h.2 (by simpa using e)
theorem RD.flat {M M':Map} {s s':St} {d:D} {v:Value} (h:RD M s d v):d.flat=true→RD M' s' d v:=by
 induction h with
 |int k n=>exact fun _=> .int k n
 |bool b=>exact fun _=> .bool b
 |str l=>exact fun _=> .str l
 |tuple ds vs hl _ ih=>exact fun hf=> .tuple ds vs hl fun i d v e1 e2=>ih i d v e1 e2 (JS (by simpa only[D.flat]using hf) e1)
 |_=>intro hf;simp only[D.flat,Bool.false_eq_true]at hf
theorem PR {n m:Nat} : ∀ {l:List D},D.bM n m l=true→∀ {i:Nat} {d:D},l[i]? = some d→d.ok n m=true
 | [],_,i,d,e=>by simp at e
 |a::l,h,i,d,e=>by
  simp only[D.bM,Bool.and_eq_true]at h
  cases i with
  |zero=>simp at e;subst e;exact h.1
  |succ i=>exact PR h.2 (by simpa using e)
theorem Rel.Fa {M:Map} {s:St} {w w':World} (r:Rel M s w) (Fa : ∀ k,k<w.heap.size→w'.heap[k]? = w.heap[k]?) (hs:w.heap.size≤w'.heap.size) (h1:w'.os=w.os) (h2:w'.tape=w.tape) (h3:w'.output=w.output) :
 Rel M s w'∧Ext M s w M s w':=by
 refine⟨⟨fun p o v e=>?_,fun o ds e=>?_,r.j7,r.inj,fun t n e=>?_,r.fM,r.gN⟩,⟨Le.refl M s,fun k hk _ _=>Fa k hk,fun o h h'=>by rcases h with h|h;omega;exact(h rfl).elim,fun t b c z h e=> .inl ⟨h,c,z,e⟩,fun _ _ h=>(h rfl).elim,hs,h1,h2,h3⟩⟩
 ·obtain⟨h1,h2⟩:=r.comm p o v e
  refine⟨?_,h2⟩
  rw[← h1]
  simp only[World.cell?,Fa _ (r.C0 e)]
 ·obtain⟨vs,T,h1,h2⟩:=r.obj o ds e
  exact⟨vs,T,h1.keep (Fa _ h1.lt),h2⟩
 ·rcases r.tok t n e with h | ⟨p,cap,z,vs,T,h1,h2,h3⟩
  ·exact .inl h
  ·exact .inr ⟨p,cap,z,vs,T,h1,by rw[Fa _ (ld h2)];exact h2,h3⟩
theorem aH.aoY {P:Program} {f:FuncId} {args:List D} {d:D} {s:St} {o g z:Nat} {rows:List (List D)} {k:Nat} (hk:args[k]? = some (.dS z o g rows.length)) {more:List D}
 (eJ:s.al[o]? = some (.int .i64 (g:Int)::(rows.flatten++more))) (hs : ∀ row∈rows,row.length=z) (h:aH P f (D.kn o g rows args) S0 d S0) (ha:D.bM 0 0 (D.kn o g rows args)=true)
 (hd:d.flat=true):aH P f args s d s:=by
 intro M w gv r hl dU Be
 have hD:=(List.getElem?_eq_some_iff.1 hk).1
 obtain⟨b0,aoZ,A,_,_,hm,_⟩:=(Be k _ _ hk (Array.getElem?_eq_getElem (by omega))).uA
 have jf:lQ s o g=some (rows.flatten++more):=by unfold lQ;rw[eJ];simp
 obtain⟨us,T,cap,hh,uh,C5,aBA,hle,gP,jF⟩:=r.IF hm jf
 have xl:o<s.al.length:=(List.getElem?_eq_some_iff.1 eJ).1
 have VF : ∀ q,M.G (M.mu o) q=none:=r.j7 o xl
 let M':Map:= {M with G:=fun b q=>if b=M.mu o then us[q]? else M.G b q}
 have mE : ∀ b,b≠M.mu o→∀ q,M'.G b q=M.G b q:=fun b hb q=>if_neg hb
 have le:Le M s M' s:=⟨fun b q v hq=>by
  by_cases hb:b=M.mu o
  ·subst hb;rw[VF]at hq;cases hq
  ·rw[mE b hb];exact hq,Nat.le_refl _,fun _ _=> .refl _,Nat.le_refl _,fun t n' _ e=>⟨n',e,Nat.le_refl _,fun _=>rfl⟩⟩
 have iR : ∀ (i:Nat) (row:List D) (j:Nat) (d:D),rows[i]? = some row→row[j]? = some d→(rows.flatten++more)[i*z+j]? = some d:=by
  have gen : ∀ (rows:List (List D)),(∀ row∈rows,row.length=z)→∀ (i:Nat) (row:List D) (j:Nat) (d:D),rows[i]? = some row→row[j]? = some d→rows.flatten[i*z+j]? = some d:=by
   intro rows
   induction rows with
   |nil=>intro _ i row j d e1;simp at e1
   | cons a rows ih=>
    intro hs i row j d e1 e2
    have sJ:=hs a (List.mem_cons_self ..)
    rw[List.flatten_cons]
    cases i with
    |zero=>
     simp at e1;subst e1
     rw[Nat.zero_mul,Nat.zero_add,List.getElem?_append_left (List.getElem?_eq_some_iff.1 e2).1];exact e2
    |succ i=>
     rw[List.getElem?_append_right (by rw[Nat.add_mul];omega),sJ,show(i+1)*z+j - z=i*z+j by rw[Nat.add_mul];omega]
     exact ih (fun q hq=>hs q (List.mem_cons_of_mem _ hq)) i row j d (by simpa using e1) e2
  intro i row j d e1 e2
  have:=gen rows hs i row j d e1 e2
  rw[List.getElem?_append_left (List.getElem?_eq_some_iff.1 this).1];exact this
 have g1 : ∀ (i:Nat) (row:List D) (j:Nat) (d:D),rows[i]? = some row→row[j]? = some d→∃ u,M'.G (M.mu o) (0+(i*z+j))=some u:=fun i row j d e1 e2=>by
  have hD:=(List.getElem?_eq_some_iff.1 (iR i row j d e1 e2)).1
  refine⟨us[i*z+j]'(by omega), ?_⟩
  show(if M.mu o=M.mu o then us[0+(i*z+j)]? else _)=_
  rw[if_pos rfl,Nat.zero_add]
  exact Array.getElem?_eq_getElem _
 have g2 : ∀ (i:Nat) (row:List D) (j:Nat) (d:D) (u:Value),rows[i]? = some row→row[j]? = some d→M'.G (M.mu o) (0+(i*z+j))=some u→RD M' s d u:=fun i row j d u e1 e2 eu=>by
  have Cn:(if M.mu o=M.mu o then us[0+(i*z+j)]? else M.G (M.mu o) (0+(i*z+j)))=some u:=eu
  rw[if_pos rfl,Nat.zero_add]at Cn
  exact(jF _ d u (iR i row j d e1 e2) Cn).mono le
 have r0:Rel M' S0 w:=⟨fun b q v hq=>by
  have la:(if b=M.mu o then us[q]? else M.G b q)=some v:=hq
  by_cases hb:b=M.mu o
  ·rw [if_pos hb]at la
   rw[hb,jw hh]
   exact⟨la,gP v (Array.mem_of_getElem? la)⟩
  ·rw [if_neg hb]at la
   exact r.comm b q v la,fun o ds e=>by simp[S0]at e,fun o h=>by simp[S0]at h,fun o _ h=>by simp[S0]at h,fun t n e=>by simp[S0]at e,
  fun t b c z o hl _ ho=>by simp[S0]at ho,fun t t' b c z c' z' hl=>by obtain⟨n,hn⟩:=hl;simp[S0]at hn⟩
 have l0:Laid M' S0 w:=fun q cs hq=>⟨(hl q cs hq).1,fun o ho=>by simp[S0]at ho,fun t c z ht=>by obtain⟨n,hn⟩:=ht;simp[S0]at hn⟩
 have a0 : ∀ (i:Nat) (d:D) (v:Value),(D.kn o g rows args)[i]? = some d→gv[i]? = some v→RD M' S0 d v:=fun i d0 v e1 e2=>by
  have qh:=PR ha e1
  rw[nn,List.getElem?_map,Option.map_eq_some_iff]at e1
  obtain⟨d1,e1,rfl⟩:=e1
  have vG:=((Be i d1 v e1 e2).mono le).gw (M:=M') hm uh hs g1 g2
  exact RD.Bd (M:=M') (M0:=M') (s:=s) (s0:=S0) (os:= []) (ts:= []) rfl (by simp) rfl (by simp) (by simp) rfl vG _ (sn _ _ _ qh) qh
 refine(h M' w gv r0 l0 (by rw[dU,nn,List.length_map]) a0).mono fun e w' ⟨M2,d2,v,s2,h1,⟨h2,h3⟩,hx,_,h4⟩=>?_
 subst h2 h3
 have Fa : ∀ k,k<w.heap.size→w'.heap[k]? = w.heap[k]? :=fun k hk=>hx.kept k hk (fun o ho=>by simp[S0]at ho) (fun t c z ht=>by obtain⟨n,hn⟩:=ht;simp[S0]at hn)
 obtain⟨r',e'⟩:=r.Fa Fa hx.size hx.os hx.tape hx.output
 exact⟨M,d2,v,s,h1,⟨rfl,rfl⟩,e',r',h4.flat hd⟩
section
variable {P:Program} {B:gW} {nt:Nat}
theorem bV.wz {f:FuncId} {res:List (Nat×Option (Bool×Nat))} {body:AC} {args:List D} {s:St} {R:D→St→Prop} (h0:Has P f nt res body) (hl:Nat.ble args.length nt=true)
 (h : ∀ (B:gW) (Q:Exit→Tm→St→Prop),B.s=s→XQ res R=Q→ki P B nt body Q (oc 0 args) s):bV P f args s R:=by
 obtain⟨fn,hf,hc⟩:=h0
 refine bV.Ll (bV.UO (Q:=R) hf hc (Nat.le_of_ble_eq_true hl) fun B hB=>jz (h B _ hB rfl)) fun d s1 h=>⟨d,s1,Wk.refl _,il.refl _,rfl,h⟩
theorem iU {res:List (Nat×Option (Bool×Nat))} {R:D→St→Prop} {tm:Tm} {s:St} {e:Exit} {Q:Exit→Tm→St→Prop} (hQ:XQ res R=Q) (h : ∃ l,bh res tm s=some l∧R (bj l) s) (he:e = .ret∨e = .normal:=by first|exact .inl rfl|exact .inr rfl):Q e tm s:=by
 subst hQ
 rcases he with rfl|rfl<;>exact h
def upD (R:D→St→Prop) (d:D) (s:St):Prop:=∃ d' s',Wk d d'∧il s.al s'.al∧s.aA=s'.aA∧R d' s'
theorem bV.up {f:FuncId} {args:List D} {s:St} {R:D→St→Prop} (h:bV P f args s (upD R)):bV P f args s R:=
 bV.Ll h fun d s1 ⟨d',s',h1,h2,h3,h4⟩=>⟨d',s',h1,h2,h3,h4⟩
def xm (tm:Tm):Tm→Prop
 | []=>True
 |(k,d)::r=>Wk (tm.get k) d∧xm tm r
theorem xm.get {tm:Tm} : ∀ {bJ:Tm},xm tm bJ→∀ t,Wk (tm.get t) (bJ.get t)
 | [],_,t=>Wk.junk _
 |(k,d)::r,h,t=>by
  simp only[Tm.get]
  split
  ·rename_i hk;subst hk;exact h.1
  ·exact xm.get h.2 t
theorem agv (tm:Tm):xm tm [] = True:=nd rfl
theorem agw (tm:Tm) (k:Nat) (d:D) (r:Tm):xm tm ((k,d)::r)=(Wk (tm.get k) d∧xm tm r):=nd rfl
attribute [go_sem] agv agw
theorem Holds.rl {tm bJ:Tm} {s:St} {act:Act} {w:World} (ht:xm tm bJ) (h:Holds B nt tm s act w):Holds B nt bJ s act w:=by
 obtain⟨M,e,r,hr,h1,h2⟩:=h
 exact⟨M,e,r,fun k=>ht.get k _ _ _ (hr k),h1,h2⟩
theorem bp.rl {a:AC} {Q:Exit→Tm→St→Prop} {tm bJ:Tm} {s:St} (ht:xm tm bJ) (h:bp P B nt a Q bJ s):bp P B nt a Q tm s:=fun c hc act w hh=>h c hc act w (hh.rl ht)
theorem mK.rl {a r:AC} {Q:Exit→Tm→St→Prop} {tm bJ:Tm} {s:St} (ht:xm tm bJ) (h:mK P B nt a r Q bJ s):mK P B nt a r Q tm s:=fun c rest hc hr act w hh=>h c rest hc hr act w (hh.rl ht)
theorem Sem.rl {a:AC} {Q:Exit→Tm→St→Prop} {tm bJ:Tm} {s:St} (ht:xm tm bJ) (h:Sem P B nt a Q bJ s):Sem P B nt a Q tm s:=fun c hc act w hh=>h c hc act w (hh.rl ht)
end
theorem gX {s:St} {o:Nat} {r:List D} (h:s.al[o]? = some r):o<s.al.length:=(List.getElem?_eq_some_iff.1 h).1
theorem PS {s:St} {a b:Nat} {r r':List D} (h:s.al[a]? = some r) (h':s.al[b]? = some r') (hn:r≠r'):a≠b:=fun e=>by subst e;rw[h]at h';cases h';exact hn rfl
end Go.Abs
namespace Go.Abs
theorem aH.CN {P:Program} {f:Nat} {args:List D} {s0 s:St} {o off n m:Nat} {row:List D} (h:aH P f args s0 (.ptr o off) s) (ho:s.al[o]? = some row) (hn:s0.al.length≤n) (Co:n≤o) (hm:s0.aA.length≤m) :
 aH P f args s0 (.dR (D.iD n m row) off) (s.cut n m):=by
 intro M0 w0 gv r0 kN YZ ha
 refine(h M0 w0 gv r0 kN YZ ha).mono ?_
 rintro en w ⟨M,d,v0,s',rfl,⟨rfl,rfl⟩,e,r,hv⟩
 have Af:=hv.C1
 have qw:v0 = .pointer (some ⟨M.mu o,off,none⟩):=hv.uz.1
 have xl:o<s'.al.length:=(List.getElem?_eq_some_iff.1 ho).1
 obtain⟨vs,T,hh,dU,⟨gP,_⟩,jF⟩:=r.obj o row ho
 replace hh:w.heap[M.mu o]? = some (.cells vs T (0,0)):=hh.cells Af
 let M':Map:= {M with G:=fun b q=>if b=M.mu o then vs[q]? else M.G b q}
 have VF : ∀ q,M.G (M.mu o) q=none:=r.j7 o xl
 have le:Le M s' M' s':=⟨fun b q v hq=>by
  show(if b=M.mu o then vs[q]? else M.G b q)=some v
  by_cases hb:b=M.mu o
  ·subst hb;rw[VF]at hq;cases hq
  ·rw[if_neg hb];exact hq,Nat.le_refl _,fun _ _=> .refl _,Nat.le_refl _,fun t n' _ e=>⟨n',e,Nat.le_refl _,fun _=>rfl⟩⟩
 have hD : ∀ q,q<(s'.cut n m).al.length→q<s'.al.length∧q≠o:=fun q h=>by rw[lH]at h;omega
 have vb:w0.heap.size≤M.mu o:=e.sf o (.inl (by omega)) xl
 have ec:=e.cut hn hm
 have VG:Le M (s'.cut n m) M' (s'.cut n m):=⟨le.G,Nat.le_refl _,fun _ _=> .refl _,Nat.le_refl _,fun t n' _ e=>⟨n',e,Nat.le_refl _,fun _=>rfl⟩⟩
 have rc:=r.cut n m
 have mE : ∀ b,b≠M.mu o→∀ q,M'.G b q=M.G b q:=fun b hb q=>if_neg hb
 refine⟨M',_,v0,_,rfl,⟨rfl,rfl⟩,⟨ec.le.trans VG,ec.kept,ec.sf,ec.rr,fun b q fk=>?_,ec.size,ec.os,ec.tape,ec.output⟩,⟨fun b q v hq=>?_,fun q ds hq=>?_,fun q hq si=>?_,rc.inj,fun t n' Ci=>?_,rc.fM,rc.gN⟩, ?_⟩
 ·by_cases hb:b=M.mu o
  ·subst hb;exact .inl vb
  ·rw[mE b hb]at fk;exact ec.sg b q fk
 ·have la:(if b=M.mu o then vs[q]? else M.G b q)=some v:=hq
  by_cases hb:b=M.mu o
  ·rw [if_pos hb]at la
   rw[hb,jw hh]
   exact⟨la,gP v (Array.mem_of_getElem? la)⟩
  ·rw [if_neg hb]at la
   exact r.comm b q v la
 ·obtain⟨gk,T',h3,h4,h5,h6⟩:=rc.obj q ds hq
  exact⟨gk,T',h3,h4,h5,fun i d v e1 e2=>(h6 i d v e1 e2).mono VG⟩
 ·obtain⟨h3,h4⟩:=hD q hq
  show M'.G (M.mu q) si=none
  rw[mE _ (fun e=>h4 (r.inj q o h3 xl e))]
  exact r.j7 q h3 si
 ·rcases rc.tok t n' Ci with h3 | ⟨b,cap,z,gk,T',h3,h4,h5,h6,h7⟩
  ·exact .inl h3
  ·refine .inr ⟨b,cap,z,gk,T',h3,h4,h5,h6,fun si Bg=> ?_,h7.2⟩
   rw[mE _ (fun e=>r.fM t b cap z o (xh ⟨n',Ci⟩) h3 xl e.symm)]
   exact h7.1 si Bg
 ·rw [qw]
  have:=RD.dR (M:=M') (s:=s'.cut n m) (D.iD n m row) off (M.mu o) 0 (fun i d e1=>?_) (fun i d u e1 eu=>?_)
  ·simpa using this
  ·rw [mL,List.getElem?_map,Option.map_eq_some_iff]at e1
   obtain⟨d0,e1,rfl⟩:=e1
   have hi:=(List.getElem?_eq_some_iff.1 e1).1
   refine⟨vs[i]'(by omega), ?_⟩
   show(if M.mu o=M.mu o then vs[0+i]? else _)=_
   rw[if_pos rfl,Nat.zero_add]
   exact Array.getElem?_eq_getElem _
  ·rw [mL,List.getElem?_map,Option.map_eq_some_iff]at e1
   obtain⟨d0,e1,rfl⟩:=e1
   have Cn:(if M.mu o=M.mu o then vs[0+i]? else M.G (M.mu o) (0+i))=some u:=eu
   rw[if_pos rfl,Nat.zero_add]at Cn
   exact((jF i d0 u e1 Cn).fg n m).mono VG
theorem aH.goK {P:Program} {f:FuncId} {res:List (Nat×Option (Bool×Nat))} {body:AC} {args:List D} {s:St} {d:D} {s':St} {nt:Nat} (n m:Nat) (hn:s.al.length≤n) (hm:s.aA.length≤m) (h0:Has P f nt res body) (hl:Nat.ble args.length nt=true)
 (h : ∀ (B:gW) (Q:Exit→Tm→St→Prop),B.s=s→rB n m res d s'=Q→ki P B nt body Q (oc 0 args) s):aH P f args s d s':=by
 obtain⟨fn,hf,hc⟩:=h0
 refine bV.Ll (bV.intro (Q:=fun d1 s1=>Wk d1 d∧il s1.al s'.al∧s1.aA=s'.aA) hf hc (Nat.le_of_ble_eq_true hl) fun B hB=>(jz (h B _ hB rfl)).mono fun e tm s1 hr=>?_) fun d1 s1 ⟨h1,h2,h3⟩=>⟨d,s',h1,h2,h3,rfl,rfl⟩
 subst hB
 cases e with
 |normal=>obtain⟨l,h1,h2,h3,h4⟩:=hr;exact⟨l,h1,_,_,hn,hm,h2,h3,h4⟩
 |ret=>obtain⟨l,h1,h2,h3,h4⟩:=hr;exact⟨l,h1,_,_,hn,hm,h2,h3,h4⟩
 |exit id=>exact hr.elim
 |goto l=>exact hr.elim
 |panic ch=>exact hr.elim
 |outgrown=>exact hr.elim
section
variable (s:St) (o g off len k z size bytes:Nat) (kk:IntKind)
theorem aky:lQ s o g=match s.al[o]? with|some (.int .i64 n::cells)=>if n=(g:Int)then some cells else none|_=>none:=nd rfl
theorem agx (agg:Bool):A2 (.gb o g off) agg size s=match lQ s o g with|some cells=>(match part cells off agg size with|some d=>some (d,s)|none=>none)|none=>none:=nd rfl
theorem adC (r:List D):CY (.gb o g off) (some r) size s=match lQ s o g with
 |some cells=>if r.length=size∧off+size≤cells.length then some (.tuple [],⟨s.al.set o (.int .i64 g::gS cells off r),s.aA⟩)else none
 |none=>none:=nd rfl
theorem akz:QM (.gb o g off)=some (.gb o g off):=nd rfl
theorem adD:Gy (.gb o g k) off=some (.gb o g (k+off)):=nd rfl
theorem adE:Ad (.dS z o g len) (.int kk (k:Int)) size=if k<len then(if z=size then some (.gb o g (k*z))else none)else none:=by
 simp only[Ad]
 by_cases h1:k<len<;>by_cases h2:z=size<;>simp[h1,h2]
theorem akA:Ix (.dS z o g len)=some (.int .i64 len):=nd rfl
theorem agy:Ix (.ff z)=some (.int .i64 0):=nd rfl
theorem adF {s:St} {o g len z bytes:Nat} {t:Tag} {cells r:List D} (hs:s.al[o]? = some (.int .i64 (g:Int)::cells)) (hl:cells.length=len*z) (hm:(len+1)*(bytes+1)≤bq) :
 zn z bytes (.dS z o g len) (.slice t z [r]) s=some (.dS z o (g+1) (len+1),⟨s.al.set o (.int .i64 ((g+1:Nat):Int)::(cells++r)),s.aA⟩):=by
 have ha:lQ s o g=some cells:=by unfold lQ;rw[hs];simp
 simp only[zn,ha,List.length_singleton,hm,hl,or_true,and_self,if_true,Nat.le_refl,List.flatten_cons,List.flatten_nil,List.append_nil]
 rw[List.take_of_length_le (by omega)]
theorem FM {z bytes:Nat} (t:Tag) (r:List D) (s:St) (hm:bytes+1≤bq):zn z bytes (.ff z) (.slice t z [r]) s=some (.dS z s.al.length 0 1,⟨s.al++ [.int .i64 ((0:Nat):Int)::r],s.aA⟩):=by
 simp[zn,hm]
theorem akB (n m:Nat):D.fg n m (.dS z o g len)=if o<n then .dS z o g len else .junk:=nd (by simp only[D.fg])
theorem akC (n m:Nat):D.fg n m (.gb o g off)=if o<n then .gb o g off else .junk:=nd (by simp only[D.fg])
theorem akD (n m:Nat):D.fg n m (.ff z) = .ff z:=nd (by simp only[D.fg])
theorem agz:(D.dS z o g len).row=some [.dS z o g len]:=nd rfl
theorem agA:(D.gb o g off).row=some [.gb o g off]:=nd rfl
theorem agB:(D.ff z).row=some [.ff z]:=nd rfl
end
attribute [go_sem] aky agx adC akz adD adE akA agy akB akC akD agz agA agB
theorem Wk.ff (z z':Nat):Wk (.slice .full z []) (.ff z'):=fun M s v h=>by
 cases h with
 |jE _ _ cap hc ht=>subst hc;exact .ff z' none
 |slice _ _ _ b k cap hl hs h1 h2 ht=>
  have:cap=0:=ht
  subst this
  exact .ff z' _
instance (z z':Nat):Ok (Wk (.slice .full z []) (.ff z')):=⟨Wk.ff z z'⟩
instance {a a' b b':List D} [Ok (kh a a')] [Ok (kh b b')] : Ok (kh (a++b) (a'++b')):=⟨kh.append Ok.out Ok.out⟩
theorem akE (n m:Nat) (a b:List D):D.iD n m (a++b)=D.iD n m a++D.iD n m b:=nd (by simp only[mL,List.map_append])
attribute [go_sem] akE
theorem xn {α:Type} (f:α→List D) (n:Nat) (h : ∀ a,(f a).length=n) : ∀ l:List α,((l.map f).flatten).length=l.length*n
 | []=>by simp
 |a::l=>by simp[h a,xn f n h l,Nat.add_mul,Nat.add_comm]
theorem SX {α:Type} (f:α→List D) (n:Nat) (h : ∀ a,(f a).length=n) (a b:List α) (x y:α) (k:Nat) (r:List D) (hy:f y=gS (f x) k r) (hk:k+r.length≤n) :
 gS (((a++x::b).map f).flatten) (a.length*n+k) r=((a++y::b).map f).flatten:=by
 have sJ:=xn f n h a
 have hx:=h x
 unfold gS
 simp only[List.map_append,List.map_cons,List.flatten_append,List.flatten_cons,hy]
 unfold gS
 have e1:((a.map f).flatten++(f x++(b.map f).flatten)).take (a.length*n+k)=(a.map f).flatten++(f x).take k:=by
  rw[List.take_append,sJ,List.take_of_length_le (by omega),show a.length*n+k - a.length*n=k by omega,List.take_append_of_le_length (by omega)]
 have e2:((a.map f).flatten++(f x++(b.map f).flatten)).drop (a.length*n+k+r.length)=(f x).drop (k+r.length)++(b.map f).flatten:=by
  rw[List.drop_append,sJ,List.drop_eq_nil_of_le (by omega),show a.length*n+k+r.length - a.length*n=k+r.length by omega,List.drop_append_of_le_length (by omega)]
  simp
 rw[e1,e2]
 simp only[List.append_assoc]
def zC (os:List Nat) (m:Nat) (al:List (List D)):List Nat→List (List D)→Prop
 | [],[]=>True
 |o::l,ds::r=>al[o]? = some (D.fa os (List.range m) ds)∧D.bM os.length m ds=true∧zC os m al l r
 |_,_=>False
theorem zC.get {os:List Nat} {m:Nat} {al:List (List D)} : ∀ {l:List Nat} {r:List (List D)},zC os m al l r→r.length=l.length∧∀ (i o:Nat) (ds:List D),l[i]? = some o→r[i]? = some ds→al[o]? = some (D.fa os (List.range m) ds)∧D.bM os.length m ds=true
 | [],[],_=>⟨rfl,fun i o ds h=>by simp at h⟩
 |o::l,ds::r,⟨h1,h2,h3⟩=>by
  obtain⟨g1,g2⟩:=h3.get
  refine⟨by simp[g1],fun i o' o7 e1 e2=>?_⟩
  cases i with
  |zero=>simp at e1 e2;subst e1 e2;exact⟨h1,h2⟩
  |succ i=>exact g2 i o' o7 (by simpa using e1) (by simpa using e2)
 | [],_::_,h=>h.elim
 |_::_,[],h=>h.elim
section
variable {P:Program} {B:gW} {nt:Nat} {a:AC} {Q:Exit→Tm→St→Prop} {tm:Tm} {s:St}
theorem bp.Y0 (hB:B.s = ⟨[],[]⟩) (os:List Nat) (fx:List (List D)) (bJ:Tm) (um:os.Nodup) (jy : ∀ o∈os,o<s.al.length) (qx:zC os s.aA.length s.al os fx) (VE:Cm os (List.range s.aA.length) tm bJ)
 (h:bp P B nt a Q bJ ⟨fx,s.aA⟩):bp P B nt a Q tm s:=
 bp.Dp os fx bJ um jy (by rw[hB];exact Nat.zero_le _) (fun i h=>by rw[hB]at h;exact absurd h (Nat.not_lt_zero _)) (fun i o _ _=>by rw[hB];exact Nat.zero_le _) qx.get.1 qx.get.2 VE h
end
section
variable (os ts:List Nat) (n m:Nat)
theorem akF (o off:Nat):D.cU os ts (.ptr o off)=match os[o]? with|some o'=> .ptr o' off|none=> .junk:=nd (by simp only[D.cU]<;>rfl)
theorem akG (z o g len:Nat):D.cU os ts (.dS z o g len)=match os[o]? with|some o'=> .dS z o' g len|none=> .junk:=nd (by simp only[D.cU]<;>rfl)
theorem adG (g:Tag) (z:Nat) (rows:List (List D)):D.cU os ts (.slice g z rows) = .slice (g.cU ts) z (D.px os ts rows):=nd (by simp only[D.cU])
theorem akH (l:List D):D.cU os ts (.agg l) = .agg (D.fa os ts l):=nd (by simp only[D.cU])
theorem agC:D.cU os ts .junk = .junk:=nd (by simp only[D.cU])
theorem akI (k:IntKind) (x:Int):D.cU os ts (.int k x) = .int k x:=nd (by simp only[D.cU])
theorem agD (b:Bool):D.cU os ts (.bool b) = .bool b:=nd (by simp only[D.cU])
theorem akJ (l:List UInt8):D.cU os ts (.str l) = .str l:=nd (by simp only[D.cU])
theorem agE:D.cU os ts .eW = .eW:=nd (by simp only[D.cU])
theorem agF (z:Nat):D.cU os ts (.ff z) = .ff z:=nd (by simp only[D.cU])
theorem adH:D.fa os ts [] = []:=nd (by simp only[D.fa])
theorem adI (d:D) (l:List D):D.fa os ts (d::l)=D.cU os ts d::D.fa os ts l:=nd (by simp only[D.fa])
theorem Y1:Tag.cU ts .shared = .shared:=nd rfl
theorem agG:Tag.cU ts .full = .full:=nd rfl
theorem adJ (o off:Nat):D.ok n m (.ptr o off)=decide (o<n):=nd (by simp only[D.ok])
theorem adK (z o g len:Nat):D.ok n m (.dS z o g len)=decide (o<n):=nd (by simp only[D.ok])
theorem VH (g:Tag) (z:Nat) (rows:List (List D)):D.ok n m (.slice g z rows)=(g.ok m && D.jb n m rows):=nd (by simp only[D.ok])
theorem adL (l:List D):D.ok n m (.agg l)=D.bM n m l:=nd (by simp only[D.ok])
theorem Y2:D.ok n m .junk=true:=nd (by simp only[D.ok])
theorem adM (k:IntKind) (x:Int):D.ok n m (.int k x)=true:=nd (by simp only[D.ok])
theorem Y3 (b:Bool):D.ok n m (.bool b)=true:=nd (by simp only[D.ok])
theorem adN (l:List UInt8):D.ok n m (.str l)=true:=nd (by simp only[D.ok])
theorem Y4:D.ok n m .eW=true:=nd (by simp only[D.ok])
theorem Y5 (z:Nat):D.ok n m (.ff z)=true:=nd (by simp only[D.ok])
theorem agH:D.bM n m [] = true:=nd (by simp only[D.bM])
theorem agI (d:D) (l:List D):D.bM n m (d::l)=(D.ok n m d && D.bM n m l):=nd (by simp only[D.bM])
theorem SY:Tag.ok m .shared=true:=nd rfl
theorem Y6:Tag.ok m .full=true:=nd rfl
theorem adO (os:List Nat) (m:Nat) (al:List (List D)):zC os m al [] [] = True:=nd rfl
theorem adP (os:List Nat) (m:Nat) (al:List (List D)) (o:Nat) (l:List Nat) (ds:List D) (r:List (List D)):zC os m al (o::l) (ds::r)=(al[o]? = some (D.fa os (List.range m) ds)∧D.bM os.length m ds=true∧zC os m al l r):=nd rfl
theorem agJ (tm:Tm):Cm os ts tm [] = True:=nd rfl
theorem agK (tm:Tm) (k:Nat) (d:D) (r:Tm):Cm os ts tm ((k,d)::r)=(tm.get k=d.cU os ts∧d.ok os.length ts.length=true∧Cm os ts tm r):=nd rfl
theorem ME (rows:List (List D)) (h:D.jb 0 0 rows=true):D.px os ts rows=rows:=jY os ts rows h
theorem G6 (row:List D) (h:D.bM 0 0 row=true):D.fa os ts row=row:=fV os ts row h
theorem SZ (rows:List (List D)) (h:D.jb 0 0 rows=true):D.jb n m rows=true:=nN (Nat.zero_le n) (Nat.zero_le m) rows h
theorem Lo (row:List D) (h:D.bM 0 0 row=true):D.bM n m row=true:=jr (Nat.zero_le n) (Nat.zero_le m) row h
theorem Es (p:Pg):D.fa os ts (bO p)=bO p:=G6 _ _ _ (iy p)
theorem PT (p:Sm):D.fa os ts (bd p)=bd p:=G6 _ _ _ (pz p)
theorem FN (l:List Pc):D.px os ts (l.map bN)=l.map bN:=ME _ _ _ (yz l)
theorem Y7 (l:List Sm):D.px os ts (l.map bd)=l.map bd:=ME _ _ _ (nF l)
theorem qB (l:List aK):D.px os ts (l.map encStr)=l.map encStr:=ME _ _ _ (fI l)
theorem IQ (p:Pc):D.fa os ts (bN p)=bN p:=G6 _ _ _ (zA p)
theorem MF (p:Pc):D.bM n m (bN p)=true:=Lo _ _ _ (zA p)
theorem G7 (p:Pg):D.bM n m (bO p)=true:=Lo _ _ _ (iy p)
theorem VI (p:Sm):D.bM n m (bd p)=true:=Lo _ _ _ (pz p)
theorem IS (l:List Pc):D.jb n m (l.map bN)=true:=SZ _ _ _ (yz l)
theorem adQ (l:List Sm):D.jb n m (l.map bd)=true:=SZ _ _ _ (nF l)
theorem xo (l:List aK):D.jb n m (l.map encStr)=true:=SZ _ _ _ (fI l)
theorem G8 : ∀ l:List Pc,D.bM 0 0 ((l.map bN).flatten)=true:=fun l=>by
 have h:=yz l
 rw[GV,List.all_eq_true]at h
 rw[Ao,List.all_eq_true]
 intro d hd
 obtain⟨r,hr,hd⟩:=List.mem_flatten.1 hd
 have:=h r hr
 rw[Ao,List.all_eq_true]at this
 exact this d hd
theorem xp (l:List Pc):D.fa os ts ((l.map bN).flatten)=(l.map bN).flatten:=G6 _ _ _ (G8 l)
theorem Av (l:List Pc):D.bM n m ((l.map bN).flatten)=true:=Lo _ _ _ (G8 l)
theorem adR (l:List Pc):D.iD n m ((l.map bN).flatten)=(l.map bN).flatten:=jg _ _ _ (G8 l)
end
attribute [go_sem] IQ MF akF akG adG akH agC akI agD akJ agE agF adH adI Y1 agG adJ adK VH adL Y2 adM Y3 adN Y4 Y5 agH agI SY Y6 adO adP agJ agK Es PT FN Y7 qB G7 VI IS adQ xo xp Av adR
mutual
theorem MG (o g:Nat) (rows:List (List D)) : ∀ d,D.ok 0 0 d=true→D.gw o g rows d=d
 | .junk,_=>by simp[D.gw]
 | .int k n,_=>by simp[D.gw]
 | .bool b,_=>by simp[D.gw]
 | .str l,_=>by simp[D.gw]
 | .eW,_=>by simp[D.gw]
 | .val v,_=>by simp[D.gw]
 | .ff z,_=>by simp[D.gw]
 | .ga T o,h=>by simp[D.ok]at h
 | .gR o,h=>by simp[D.ok]at h
 | .dS z o g len,h=>by simp[D.ok]at h
 | .gb o g off,h=>by simp[D.ok]at h
 | .ptr o f,h=>by simp[D.ok]at h
 | .ij f cs,h=>by
  simp only[D.ok]at h
  simp only[D.gw,uF o g rows cs h]
 | .dR r f,h=>by
  simp only[D.ok]at h
  simp only[D.gw,uF o g rows r h]
 | .slice t z rs,h=>by
  simp only[D.ok,Bool.and_eq_true]at h
  simp only[D.gw,Aw o g rows rs h.2]
 | .agg cs,h=>by
  simp only[D.ok]at h
  simp only[D.gw,uF o g rows cs h]
 | .tuple cs,h=>by
  simp only[D.ok]at h
  simp only[D.gw,uF o g rows cs h]
theorem uF (o g:Nat) (rows:List (List D)) : ∀ l,D.bM 0 0 l=true→D.kn o g rows l=l
 | [],_=>by simp[D.kn]
 |d::r,h=>by
  simp only[D.bM,Bool.and_eq_true]at h
  simp only[D.kn,MG o g rows d h.1,uF o g rows r h.2]
theorem Aw (o g:Nat) (rows:List (List D)) : ∀ l,D.jb 0 0 l=true→D.s9 o g rows l=l
 | [],_=>by simp[D.s9]
 |d::r,h=>by
  simp only[D.jb,Bool.and_eq_true]at h
  simp only[D.s9,uF o g rows d h.1,Aw o g rows r h.2]
end
section
variable (o g:Nat) (rows:List (List D)) (n m:Nat)
theorem akK (q off:Nat):D.gw o g rows (.ptr q off) = .ptr q off:=nd (by simp only[D.gw])
theorem agL (q h off:Nat):D.gw o g rows (.gb q h off) = .gb q h off:=nd (by simp only[D.gw])
theorem akL (z o' g' len:Nat):D.gw o g rows (.dS z o' g' len)=if o'=o∧g'=g∧len=rows.length then .slice .shared z rows else .dS z o' g' len:=nd (by simp only[D.gw])
theorem adS (t:Tag) (z:Nat) (rs:List (List D)):D.gw o g rows (.slice t z rs) = .slice t z (D.s9 o g rows rs):=nd (by simp only[D.gw])
theorem akM (l:List D):D.gw o g rows (.agg l) = .agg (D.kn o g rows l):=nd (by simp only[D.gw])
theorem agM:D.gw o g rows .junk = .junk:=nd (by simp only[D.gw])
theorem akN (k:IntKind) (x:Int):D.gw o g rows (.int k x) = .int k x:=nd (by simp only[D.gw])
theorem agN (b:Bool):D.gw o g rows (.bool b) = .bool b:=nd (by simp only[D.gw])
theorem akO (l:List UInt8):D.gw o g rows (.str l) = .str l:=nd (by simp only[D.gw])
theorem adT:D.kn o g rows [] = []:=nd (by simp only[D.kn])
theorem adU (d:D) (l:List D):D.kn o g rows (d::l)=D.gw o g rows d::D.kn o g rows l:=nd (by simp only[D.kn])
theorem ao0 (p:Pg):D.kn o g rows (bO p)=bO p:=uF _ _ _ _ (iy p)
theorem akP (l:List Pc):D.s9 o g rows (l.map bN)=l.map bN:=Aw _ _ _ _ (yz l)
theorem akQ (l:List Sm):D.s9 o g rows (l.map bd)=l.map bd:=Aw _ _ _ _ (nF l)
theorem agO (l:List aK):D.s9 o g rows (l.map encStr)=l.map encStr:=Aw _ _ _ _ (fI l)
theorem akR (ds:List D):G3 o g rows n m ds=D.iD n m (D.kn o g rows ds):=nd rfl
theorem agP (tm:Tm):G4 o g rows m tm [] = True:=nd rfl
theorem agQ (tm:Tm) (k:Nat) (d:D) (r:Tm):G4 o g rows m tm ((k,d)::r)=(Wk (((tm.get k).gw o g rows).fg o m) d∧G4 o g rows m tm r):=nd rfl
end
attribute [go_sem] akK agL akL adS akM agM akN agN akO adT adU ao0 akP akQ agO akR agP agQ
theorem aH.Dp {P:Program} {f:FuncId} {args:List D} {d d':D} {al fx:List (List D)} (os:List Nat) (h:aH P f args S0 d ⟨al,[]⟩) (um:os.Nodup) (jy : ∀ o∈os,o<al.length) (ho:fx.length=os.length)
 (qx : ∀ (i o:Nat) (ds:List D),os[i]? = some o→fx[i]? = some ds→al[o]? = some (D.fa os [] ds)∧D.bM os.length 0 ds=true) (hd:d'.cU os [] = d) (qh:d'.ok os.length 0=true):aH P f args S0 d' ⟨fx,[]⟩:=by
 intro M0 w0 gv r0 kN YZ ha
 refine(h M0 w0 gv r0 kN YZ ha).mono ?_
 rintro en w ⟨M,d1,v,s',rfl,⟨rfl,rfl⟩,e,r,hv⟩
 have r1:Rel (gC M os []) ⟨fx,[]⟩ w:=r.sub um List.nodup_nil jy ho qx rfl (fun i t h=>by simp at h)
 have loc : ∀ (i:Nat) o,os[i]? = some o→(gC M os []).loc i=M.loc o:=fun i o h=>by simp only[gC,uE h]
 refine⟨gC M os [],d',v,_,rfl,⟨rfl,rfl⟩,⟨⟨e.le.G,Nat.zero_le _,fun o h=>absurd h (Nat.not_lt_zero _),Nat.zero_le _,fun t n' h=>absurd h (Nat.not_lt_zero _)⟩,fun b hb _ _=>e.kept b hb (fun o h=>absurd h (Nat.not_lt_zero _)) (fun t c z ⟨n,hn⟩=>by simp[S0]at hn),fun o h3 h4=>?_,
  fun t b c z ⟨n,hn⟩=>by simp at hn,e.sg,e.size,e.os,e.tape,e.output⟩,r1, ?_⟩
 ·simp only at h4
  rw[ho]at h4
  obtain⟨q,hq⟩ : ∃ q,os[o]? = some q:=⟨_,List.getElem?_eq_getElem h4⟩
  rw[show(gC M os []).mu o=M.mu q from congrArg Prod.fst (loc o q hq)]
  exact e.sf q (.inl (Nat.zero_le _)) (jy q (List.mem_of_getElem? hq))
 ·exact RD.Bd (M:=M) (M0:=gC M os []) (s:=⟨al,[]⟩) (s0:=⟨fx,[]⟩) rfl loc ho (fun i t h=>by simp at h) (fun i t h=>by simp at h) rfl hv _ hd qh
theorem aH.abn {P:Program} {f:FuncId} {args row:List D} {d:D} (h:aH P f args S0 d ⟨[row],[]⟩) (ha:D.bM 0 0 args=true) (hr:D.bM 0 0 row=true) (s:St):aH P f args s (d.cU [s.al.length] []) ⟨s.al++ [row],s.aA⟩:=by
 refine bV.frame [] [] h List.nodup_nil List.nodup_nil (by simp) (by simp) rfl (by simp) rfl (by simp) (by rw[fV _ _ _ ha]) ha ?_
 rintro _ _ ⟨rfl,rfl⟩
 refine⟨by simp[D.back,kE], ?_⟩
 simp[St.back,lq,kE,fV _ _ _ hr]
end Go.Abs
namespace Go.Abs
mutual
def Ex.size:Ex→Nat
 |⟨_,_,_,kids⟩=>1+Ex.a7 kids
def Ex.a7:List Ex→Nat
 | []=>0
 |x::l=>1+x.size+Ex.a7 l
end
mutual
def Ex.depth:Ex→Nat
 |⟨_,_,_,kids⟩=>Ex.rN kids+1
def Ex.rN:List Ex→Nat
 | []=>0
 |x::l=>max x.depth (Ex.rN l)
end
def agR (x:Ex):Option Int:=if x.size<4611686018427387904 then some (x.depth:Int)else none
theorem Ex.da {x:Ex} : ∀ {l:List Ex},x∈l→x.size<Ex.a7 l
 |y::l,h=>by
  simp only[Ex.a7]
  rcases List.mem_cons.1 h with rfl|h
  ·omega
  ·have:=Ex.da h;omega
theorem Ex.dQ : ∀ (l:List Ex),l.length≤Ex.a7 l
 | []=>Nat.le_refl _
 |x::l=>by simp only[Ex.a7,List.length_cons];have:=Ex.dQ l;omega
def S1 (t:rj):Int×Int:=
 if t.kind != 4 then(0,0)
 else if t.text == [124,124]then(17,1)
 else if t.text == [38,38]then(16,2)
 else if t.text == [61,61]then(14,3)
 else if t.text == [33,61]then(15,3)
 else if t.text == [60]then(10,4)
 else if t.text == [60,61]then(11,4)
 else if t.text == [62]then(12,4)
 else if t.text == [62,61]then(13,4)
 else if t.text == [43]then(8,5)
 else if t.text == [45]then(9,5)
 else if t.text == [42]then(5,6)
 else if t.text == [47]then(6,6)
 else if t.text == [37]then(7,6)
 else(0,0)
structure Rd where
 l:List rj
 i:Nat
 code:Int
 MH:Int
 n:Nat
abbrev Rd.good (r:Rd):Bool:=r.code==0
def Rd.xq (r:Rd):Option rj:=(agr r.l r.i).bind fun t=>if decide (0≤t.kind) && decide (t.kind≤4)then some t else none
def Rd.bad (c:Int) (r:Rd):Option Rd:=if r.good then r.xq.bind fun t=>some {r with code:=c,MH:=t.pos}else some r
def Rd.is (text:aK) (r:Rd):Option Bool:=r.xq.bind fun t=>some ((t.kind==3 ||t.kind==4) && t.text==text)
def Rd.take (text:aK) (r:Rd):Option (Bool×Rd):=
 if !r.good then some (false,r)else(r.is text).bind fun b=>if !b then some (false,r)else some (true,{r with i:=r.i+1})
def Rd.want (text:aK) (r:Rd):Option Rd:=(r.take text).bind fun p=>if !p.1 then p.2.bad 3 else some p.2
def Rd.name (room:Bool) (r:Rd):Option (aK×Rd):=
 r.xq.bind fun t=>if !r.good ||t.kind != 1 then(r.bad 3).bind fun r=>some ([],r)else if !room then(r.bad 4).bind fun r=>some ([],r)else some (t.text,{r with i:=r.i+1})
def Rd.on (r:Rd):Rd:= {r with i:=r.i+1}
mutual
def Rd.one:Nat→Rd→Option (Ex×Rd)
 | 0,_=>none
 | n+1,r=>r.xq.bind fun t=>
  if !r.good then some (rk,r)
  else if t.kind==2 then some (⟨1,t.n,[],[]⟩,{r with i:=r.i+1})
  else if t.kind==1 then some (⟨2,0,t.text,[]⟩,{r with i:=r.i+1})
  else(r.take [40]).bind fun p=>
   if p.1 then(Rd.two n 1 p.2).bind fun x=>(x.2.want [41]).bind fun r=>some (x.1,r)
   else(p.2.take [45]).bind fun p=>
    if p.1 then(Rd.one n p.2).bind fun x=>some (⟨3,0,[],[x.1]⟩,x.2)
    else(p.2.take [33]).bind fun p=>
     if p.1 then(Rd.one n p.2).bind fun x=>some (⟨4,0,[],[x.1]⟩,x.2)
     else(p.2.bad 3).bind fun r=>some (rk,r)
def Rd.two:Nat→Int→Rd→Option (Ex×Rd)
 | 0,_,_=>none
 |n+1,least,r=>(Rd.one n r).bind fun x=>Rd.agS n least x.1 x.2
def Rd.agS:Nat→Int→Ex→Rd→Option (Ex×Rd)
 | 0,_,_,_=>none
 | n+1,least,x,r=>
  if r.good then r.xq.bind fun t=>
   if decide ((S1 t).2<least) ||(S1 t).1==0 then some (x,r)
   else(Rd.two n ((S1 t).2+1) {r with i:=r.i+1}).bind fun y=>Rd.agS n least ⟨(S1 t).1,0,[],[x,y.1]⟩ y.2
  else some (x,r)
end
def Rd.whole (n:Nat) (r:Rd):Option (Ex×Rd):=
 r.xq.bind fun t=>(Rd.two n 1 r).bind fun x=>
  if x.2.good then(agR x.1).bind fun d=>if decide (d > 20)then some (x.1,{x.2 with code:=4,MH:=t.pos})else some (x.1,x.2)
  else some (x.1,x.2)
def Rd.names:Nat→List aK→Int→Rd→Option (List aK×Rd)
 | 0,_,_,_=>none
 | n+1,l,agT,r=>
  if r.good then(r.name (decide ((l.length:Int)<agT))).bind fun p=>(push 17 l p.1).bind fun l=>(p.2.take [44]).bind fun q=>
   if !q.1 then(q.2.want [59]).bind fun r=>some (l,r)else Rd.names n l agT q.2
  else some (l,r)
def Rd.ahead (sign:aK) (r:Rd):Option Bool:=
 if r.good then r.xq.bind fun t=>if t.kind==1 then(agr r.l (r.i+1)).bind fun u=>some (u.kind==4 && u.text==sign)else some false
 else some false
def Rd.labels:Nat→List aK→Rd→Option (List aK×Rd)
 | 0,_,_=>none
 |n+1,l,r=>(r.ahead [58]).bind fun b=>if b then r.xq.bind fun t=>(push 17 l t.text).bind fun l=>Rd.labels n l {r with i:=r.i+2}else some (l,r)
def Rd.agU (r:Rd):Option Bool:=
 r.xq.bind fun t=>some (if t.kind==1 then true else if t.kind != 3 then false
  else t.text == [105,102] ||t.text == [119,104,105,108,101] ||t.text == [98,114,101,97,107] ||t.text == [99,111,110,116,105,110,117,101] ||t.text == [114,101,116,117,114,110] ||t.text == [103,111,116,111] ||t.text == [114,101,97,100] ||t.text == [112,114,105,110,116])
def Rd.S2 (m:Nat):Nat→List Ar→Rd→Option (List Ar×Rd)
 | 0,_,_=>none
 | n+1,l,r=>
  if r.good then(r.take [114,101,102]).bind fun p=>
   if p.1 then(p.2.name true).bind fun x=>(push 81 l ⟨true,x.1,rk⟩).bind fun l=>(x.2.take [44]).bind fun c=>if !c.1 then some (l,c.2)else Rd.S2 m n l c.2
   else(Rd.whole m p.2).bind fun x=>(push 81 l ⟨false,[],x.1⟩).bind fun l=>(x.2.take [44]).bind fun c=>if !c.1 then some (l,c.2)else Rd.S2 m n l c.2
  else some (l,r)
def Rd.other (sign:aK) (r:Rd):Option Bool:=if r.good then(r.is sign).bind fun b=>some !b else some false
def Rd.call (m:Nat) (name proc:aK) (r:Rd):Option (Sm×Rd):=
 (r.want [40]).bind fun r=>(r.other [41]).bind fun b=>
  if b then(Rd.S2 m m [] r).bind fun q=>(q.2.want [41]).bind fun r=>(r.want [59]).bind fun r=>some (⟨0,4,[],name,proc,rk,false,q.1,[],[]⟩,r)
  else(r.want [41]).bind fun r=>(r.want [59]).bind fun r=>some (⟨0,4,[],name,proc,rk,false,[],[],[]⟩,r)
def Rd.named (m:Nat) (r:Rd):Option (Sm×Rd):=
 (r.name true).bind fun x=>(x.2.is [40]).bind fun b=>
  if b then Rd.call m [] x.1 x.2
  else(x.2.want [61]).bind fun r=>(r.ahead [40]).bind fun b=>
   if b then(r.name true).bind fun y=>Rd.call m x.1 y.1 y.2
   else(Rd.whole m r).bind fun y=>(y.2.want [59]).bind fun r=>some (⟨0,1,[],x.1,[],y.1,false,[],[],[]⟩,r)
def Rd.plain (m:Nat) (word:aK) (r:Rd):Option (Sm×Rd):=
 if word == [98,114,101,97,107]then some (⟨0,7,[],[],[],rk,false,[],[],[]⟩,r)
 else if word == [99,111,110,116,105,110,117,101]then some (⟨0,8,[],[],[],rk,false,[],[],[]⟩,r)
 else if word == [114,101,116,117,114,110]then(r.is [59]).bind fun b=>
  if !b then(Rd.whole m r).bind fun x=>some (⟨0,9,[],[],[],x.1,true,[],[],[]⟩,x.2)else some (⟨0,9,[],[],[],rk,false,[],[],[]⟩,r)
 else if word == [103,111,116,111]then(r.name true).bind fun x=>some (⟨0,10,[],x.1,[],rk,false,[],[],[]⟩,x.2)
 else if word == [114,101,97,100]then(r.name true).bind fun x=>some (⟨0,2,[],x.1,[],rk,false,[],[],[]⟩,x.2)
 else if word == [112,114,105,110,116]then(Rd.whole m r).bind fun x=>some (⟨0,3,[],[],[],x.1,false,[],[],[]⟩,x.2)
 else some (JP,r)
def Rd.head (m:Nat) (r:Rd):Option (Ex×Rd):=(r.want [40]).bind fun r=>(Rd.whole m r).bind fun x=>(x.2.want [41]).bind fun r=>some (x.1,r)
mutual
def Rd.rows (m:Nat):Nat→Int→Bool→Rd→Option ((List Sm×List aK)×Rd)
 | 0,_,_,_=>none
 |n+1,nest,body,r=>Rd.abo m n nest body [] r
def Rd.abo (m:Nat):Nat→Int→Bool→List Sm→Rd→Option ((List Sm×List aK)×Rd)
 | 0,_,_,_,_=>none
 | n+1,nest,body,out,r=>
  if r.good then(Rd.labels m [] r).bind fun l=>(l.2.is [125]).bind fun b=>
   if b && (body ||(l.1.length:Int)==0)then some ((out,l.1),{l.2 with i:=l.2.i+1})
   else(Rd.stmt m n nest l.2).bind fun s=>(push 209 out {s.1 with labels:=l.1}).bind fun out=>Rd.abo m n nest body out s.2
  else some (([],[]),r)
def Rd.stmt (m:Nat):Nat→Int→Rd→Option (Sm×Rd)
 | 0,_,_=>none
 | n+1,nest,r=>r.agU.bind fun b=>
  if !b then(r.bad 3).bind fun r=>some (JP,r)
  else(inc r.n).bind fun k=>
   if decide ((k:Int) > 200) ||decide (nest > 12)then(({r with n:=k} : Rd).bad 4).bind fun r=>some (JP,r)
   else({r with n:=k} : Rd).xq.bind fun t=>
    if t.kind==1 then Rd.named m {r with n:=k}
    else if t.text == [105,102]then Rd.choice m n nest {r with n:=k,i:=r.i+1}
    else if t.text == [119,104,105,108,101]then(Rd.head m {r with n:=k,i:=r.i+1}).bind fun x=>(Rd.block m n nest x.2).bind fun b=>some (⟨0,6,[],[],[],x.1,false,[],b.1,[]⟩,b.2)
    else(Rd.plain m t.text {r with n:=k,i:=r.i+1}).bind fun s=>(s.2.want [59]).bind fun r=>some (s.1,r)
def Rd.block (m:Nat):Nat→Int→Rd→Option (List Sm×Rd)
 | 0,_,_=>none
 |n+1,nest,r=>(r.want [123]).bind fun r=>(aoW nest).bind fun k=>(Rd.rows m n k false r).bind fun p=>some (p.1.1,p.2)
def Rd.choice (m:Nat):Nat→Int→Rd→Option (Sm×Rd)
 | 0,_,_=>none
 |n+1,nest,r=>(Rd.head m r).bind fun x=>(Rd.block m n nest x.2).bind fun t=>(t.2.take [101,108,115,101]).bind fun q=>
  if q.1 then(Rd.block m n nest q.2).bind fun e=>some (⟨0,5,[],[],[],x.1,false,[],t.1,e.1⟩,e.2)
  else some (⟨0,5,[],[],[],x.1,false,[],t.1,[]⟩,q.2)
end
def Rd.params:Nat→List Pm→Rd→Option (List Pm×Rd)
 | 0,_,_=>none
 | n+1,l,r=>
  if r.good then(r.take [114,101,102]).bind fun q=>(q.2.name (decide ((l.length:Int)<8))).bind fun x=>(push 25 l ⟨x.1,q.1⟩).bind fun l=>(x.2.take [44]).bind fun c=>
   if !c.1 then some (l,c.2)else Rd.params n l c.2
  else some (l,r)
def Rd.vars (m:Nat):Nat→List aK→Rd→Option (List aK×Rd)
 | 0,_,_=>none
 |n+1,l,r=>(r.take [118,97,114]).bind fun q=>if q.1 then(Rd.names m l 16 q.2).bind fun x=>Rd.vars m n x.1 x.2 else some (l,q.2)
def Rd.abp (m:Nat) (name:aK) (ps:List Pm) (r:Rd):Option (Pc×Rd):=
 (Rd.vars m m [] r).bind fun v=>(Rd.rows m m 1 true v.2).bind fun b=>some (⟨name,ps,v.1,b.1.1,b.1.2⟩,b.2)
def Rd.proc (m:Nat) (r:Rd):Option (Pc×Rd):=
 (r.name true).bind fun x=>(x.2.want [40]).bind fun r=>(r.other [41]).bind fun b=>
  if b then(Rd.params m [] r).bind fun q=>(q.2.want [41]).bind fun r=>(r.want [123]).bind fun r=>Rd.abp m x.1 q.1 r
  else(r.want [41]).bind fun r=>(r.want [123]).bind fun r=>Rd.abp m x.1 [] r
def Rd.globals (m:Nat):Nat→List aK→Rd→Option (List aK×Rd)
 | 0,_,_=>none
 |n+1,l,r=>(r.take [103,108,111,98,97,108]).bind fun q=>if q.1 then(Rd.names m l 16 q.2).bind fun x=>Rd.globals m n x.1 x.2 else some (l,q.2)
def Rd.agV (r:Rd):Option Bool:=if r.good then r.is [112,114,111,99]else some false
def Rd.VJ (r:Rd):Option Bool:=if r.good then r.xq.bind fun t=>some (t.kind != 0)else some false
def Rd.procs (m:Nat):Nat→List Pc→Rd→Option (List Pc×Rd)
 | 0,_,_=>none
 | n+1,l,r=>r.agV.bind fun b=>
  if b then
   if(l.length:Int)==16 then(r.bad 4).bind fun r=>some (l,r)
   else(Rd.proc m {r with i:=r.i+1}).bind fun x=>(push 113 l x.1).bind fun l=>Rd.procs m n l x.2
  else r.VJ.bind fun b=>if b then(r.bad 3).bind fun r=>some (l,r)else some (l,r)
def Rd.program (m:Nat) (r:Rd):Option (Pg×Rd):=(Rd.globals m m [] r).bind fun g=>(Rd.procs m m [] g.2).bind fun q=>some (⟨g.1,q.1⟩,q.2)
mutual
def Ex.beq:Ex→Ex→Bool
 |⟨op,n,name,kids⟩,⟨op',n',S3,abq⟩=>if op != op' ||n != n' || !(name==S3) ||(kids.length:Int) != (abq.length:Int)then false else Ex.rC kids abq
def Ex.rC:List Ex→List Ex→Bool
 | [],_=>true
 |_::_,[]=>true
 |x::l,y::l'=>if !Ex.beq x y then false else Ex.rC l l'
end
def Ar.a7:List Ar→Nat
 | []=>0
 |a::l=>1+a.x.size+Ar.a7 l
mutual
def Sm.size:Sm→Nat
 |⟨_,_,labels,_,_,x,_,args,aP,aM⟩=>1+labels.length+x.size+Ar.a7 args+Sm.a7 aP+Sm.a7 aM
def Sm.a7:List Sm→Nat
 | []=>0
 |s::l=>1+s.size+Sm.a7 l
end
def Pc.size (f:Pc):Nat:=1+f.params.length+f.vars.length+f.fin.length+Sm.a7 f.body
def Pc.a7:List Pc→Nat
 | []=>0
 |f::l=>1+f.size+Pc.a7 l
def Pg.size (p:Pg):Nat:=1+p.globals.length+Pc.a7 p.procs
mutual
def Sm.num (b:Bool) (n:Nat):Sm→Sm×Nat
 |⟨id,kind,labels,name,proc,x,has,args,aP,aM⟩=>
  (⟨if b then((n+1:Nat):Int)else id,kind,labels,name,proc,x,has,args,(Sm.dJ b (n+1) aP).1,(Sm.dJ b (Sm.dJ b (n+1) aP).2 aM).1⟩,(Sm.dJ b (Sm.dJ b (n+1) aP).2 aM).2)
def Sm.dJ (b:Bool) (n:Nat):List Sm→List Sm×Nat
 | []=>([],n)
 |s::l=>((Sm.num b n s).1::(Sm.dJ b (Sm.num b n s).2 l).1,(Sm.dJ b (Sm.num b n s).2 l).2)
end
def Pc.dJ (n:Nat):List Pc→List Pc
 | []=> []
 |f::l=> {f with body:=(Sm.dJ true n f.body).1}::Pc.dJ (Sm.dJ true n f.body).2 l
def Pg.number (p:Pg):Pg:= {p with procs:=Pc.dJ 0 p.procs}
def Pg.adV (p:Pg):Option Pg:=if p.size<1073741824 then some p.number else none
mutual
theorem Sm.agW (b:Bool) (n:Nat) : ∀ s:Sm,(Sm.num b n s).2≤n+s.size
 |⟨id,kind,labels,name,proc,x,has,args,aP,aM⟩=>by
  simp only[Sm.num,Sm.size]
  have h1:=Sm.uG b (n+1) aP
  have h2:=Sm.uG b (Sm.dJ b (n+1) aP).2 aM
  omega
theorem Sm.uG (b:Bool) (n:Nat) : ∀ l:List Sm,(Sm.dJ b n l).2≤n+Sm.a7 l
 | []=>by simp[Sm.dJ,Sm.a7]
 |s::l=>by
  simp only[Sm.dJ,Sm.a7]
  have h1:=Sm.agW b n s
  have h2:=Sm.uG b (Sm.num b n s).2 l
  omega
end
theorem Sm.dQ : ∀ (l:List Sm),l.length≤Sm.a7 l
 | []=>Nat.le_refl _
 |x::l=>by simp only[Sm.a7,List.length_cons];have:=Sm.dQ l;omega
theorem Ar.dQ : ∀ (l:List Ar),l.length≤Ar.a7 l
 | []=>Nat.le_refl _
 |x::l=>by simp only[Ar.a7,List.length_cons];have:=Ar.dQ l;omega
theorem Pc.dQ : ∀ (l:List Pc),l.length≤Pc.a7 l
 | []=>Nat.le_refl _
 |x::l=>by simp only[Pc.a7,List.length_cons];have:=Pc.dQ l;omega
theorem Ar.da {x:Ar} : ∀ {l:List Ar},x∈l→x.x.size<Ar.a7 l
 |y::l,h=>by
  simp only[Ar.a7]
  rcases List.mem_cons.1 h with rfl|h
  ·omega
  ·have:=Ar.da h;omega
theorem Sm.da {x:Sm} : ∀ {l:List Sm},x∈l→x.size<Sm.a7 l
 |y::l,h=>by
  simp only[Sm.a7]
  rcases List.mem_cons.1 h with rfl|h
  ·omega
  ·have:=Sm.da h;omega
theorem Pc.da {x:Pc} : ∀ {l:List Pc},x∈l→x.size<Pc.a7 l
 |y::l,h=>by
  simp only[Pc.a7]
  rcases List.mem_cons.1 h with rfl|h
  ·omega
  ·have:=Pc.da h;omega
theorem Sm.MI (b:Bool) (n:Nat) : ∀ l:List Sm,(Sm.dJ b n l).1.length=l.length
 | []=>rfl
 |s::l=>by simp only[Sm.dJ,List.length_cons,Sm.MI b _ l]
mutual
def Sm.iF:Sm→Nat
 |⟨_,_,_,_,_,_,_,_,aP,aM⟩=>1+Sm.gn aP+Sm.gn aM
def Sm.gn:List Sm→Nat
 | []=>0
 |s::l=>s.iF+Sm.gn l
end
structure Im where
 s:Sm
 proc:Int
 up:Int
 next:Int
 loop:Int
mutual
def Im.one (proc up next loop:Int) (out:List Im):Sm→List Im
 | ⟨id,kind,labels,name,pc,x,has,args,aP,aM⟩=>
  Im.rows proc ((out.length:Int)+1) (if kind==6 then(out.length:Int)+1 else next) (if kind==6 then(out.length:Int)+1 else loop)
   (Im.rows proc ((out.length:Int)+1) (if kind==6 then(out.length:Int)+1 else next) (if kind==6 then(out.length:Int)+1 else loop) (out++ [⟨⟨id,kind,labels,name,pc,x,has,args,aP,aM⟩,proc,up,next,loop⟩]) aP) aM
def Im.rows (proc up next loop:Int) (out:List Im):List Sm→List Im
 | []=>out
 |s::l=>Im.rows proc up next loop (Im.one proc up (if l.length=0 then next else(out.length:Int)+1+(s.iF:Int)) loop out s) l
end
theorem Im.agX (proc up next loop:Int) (out:List Im) (s:Sm):Im.one proc up next loop out s =
 Im.rows proc ((out.length:Int)+1) (if s.kind==6 then(out.length:Int)+1 else next) (if s.kind==6 then(out.length:Int)+1 else loop)
  (Im.rows proc ((out.length:Int)+1) (if s.kind==6 then(out.length:Int)+1 else next) (if s.kind==6 then(out.length:Int)+1 else loop) (out++ [⟨s,proc,up,next,loop⟩]) s.aP) s.aM:=by
 cases s;simp only[Im.one]
mutual
theorem adW (proc up next loop:Int) (out:List Im) : ∀ s:Sm,(Im.one proc up next loop out s).length=out.length+s.iF
 |⟨id,kind,labels,name,pc,x,has,args,aP,aM⟩=>by
  simp only[Im.one,Sm.iF]
  rw[iN,iN]
  simp only[List.length_append,List.length_cons,List.length_nil];omega
theorem iN (proc up next loop:Int) (out:List Im) : ∀ l:List Sm,(Im.rows proc up next loop out l).length=out.length+Sm.gn l
 | []=>rfl
 |s::l=>by
  simp only[Im.rows,Sm.gn]
  rw[iN,adW];omega
end
mutual
theorem FP : ∀ s:Sm,s.iF≤s.size
 |⟨_,_,labels,_,_,x,_,args,aP,aM⟩=>by
  have:=pd aP;have:=pd aM
  simp only[Sm.iF,Sm.size];omega
theorem pd : ∀ l:List Sm,Sm.gn l≤Sm.a7 l
 | []=>Nat.le_refl _
 |s::l=>by
  have:=FP s;have:=pd l
  simp only[Sm.gn,Sm.a7];omega
end
structure Sh where
 L:List Im
 lo:List Int
 hi:List Int
def Sh.go (i:Nat) (h:Sh):List Pc→Sh
 | []=>h
 |f::l=>Sh.go (i+1) ⟨Im.rows i 0 (-1) 0 h.L f.body,h.lo++ [(h.L.length:Int)+1],h.hi++ [((Im.rows i 0 (-1) 0 h.L f.body).length:Int)+1]⟩ l
def Pg.aZ (p:Pg):Sh:=Sh.go 0 ⟨[],[],[]⟩ p.procs
def adX:Nat:=3
def abr:Nat:=4
def abt:Nat:=5
def Y8:Nat:=6
def abu:Nat:=7
def abv:Nat:=8
def adY:Nat:=9
def abw:Nat:=10
def yA:Nat:=11
def Y9:Nat:=12
def abx:Nat:=13
def Za:Nat:=14
def zE:Nat:=15
def zF:Nat:=16
def xr:Nat:=17
def ajt:Nat:=18
def ae1:Nat:=19
def ve:Nat:=20
def vY:Nat:=21
def rY:Nat:=22
def ae2:Nat:=23
def aby:Nat:=24
def vZ:Nat:=25
def akS:Nat:=26
def aju:Nat:=27
def oy:Nat:=28
def oz:Nat:=29
def ajv:Nat:=30
def xu:Nat:=31
def ajw:Nat:=32
def Bi:Nat:=33
def adZ:Nat:=34
def abz:Nat:=35
def tc:Nat:=36
def ae3:Nat:=37
def zG:Nat:=38
def zH:Nat:=39
def kF:Nat:=40
def iz:Nat:=41
def lN:Nat:=42
def lT:Nat:=43
def jZ:Nat:=44
def jt:Nat:=45
def qC:Nat:=46
def qa:Nat:=47
def sr:Nat:=48
def qb:Nat:=49
def agY:Nat:=50
def PU:Nat:=51
def S4:Nat:=52
def zI:Nat:=53
def ajx:Nat:=54
def rO:Nat:=55
def Zb:Nat:=56
def agZ:Nat:=57
def Zc:Nat:=58
def pX:Nat:=59
def Bj:Nat:=60
def rZ:Nat:=61
def Bk:Nat:=62
def abA:Nat:=63
def oA:Nat:=64
def pA:Nat:=65
def ly:Nat:=66
def ae4:Nat:=67
def td:Nat:=68
def l7:Nat:=69
def wM:Nat:=70
def kX:Nat:=71
def kY:Nat:=72
def xv:Nat:=73
def qD:Nat:=74
def iu:Nat:=75
def mU:Nat:=76
def jC:Nat:=77
def kT:Nat:=78
def fu:Nat:=79
def qj:Nat:=80
def rP:Nat:=81
def lO:Nat:=82
def akT:Nat:=83
def ag0:Nat:=84
def zJ:Nat:=85
def ae5:Nat:=86
def Uf:Nat:=87
def PV:Nat:=88
def ag1:Nat:=89
def ae6:Nat:=90
def S5:Nat:=91
def S6:Nat:=92
def PW:Nat:=93
def VK:Nat:=94
def np:Nat:=95
def sa:Nat:=96
def xw:Nat:=97
def v7:Nat:=98
def zK:Nat:=99
def abB:Nat:=100
def pB:Nat:=101
def ko:Nat:=102
def oB:Nat:=103
def tf:Nat:=104
def Dr:Nat:=105
def Bl:Nat:=106
def v8:Nat:=107
def nQ:Nat:=108
def lF:Nat:=109
def vf:Nat:=110
def gY:Nat:=111
def yB:Nat:=112
def oD:Nat:=113
def iV:Nat:=114
def cT:Nat:=115
def ag2:Nat:=116
def ag3:Nat:=117
def ag4:Nat:=118
def abC:Nat:=119
def nR:Nat:=120
def Ug:Nat:=121
def ad0:Nat:=122
def ag5:Nat:=123
def ag6:Nat:=124
def akU:Nat:=125
def akV:Nat:=126
def S7:Nat:=127
def pP:Nat:=128
def gZ:Nat:=129
def qk:Nat:=130
def sb:Nat:=131
def xx:Nat:=132
def ti:Nat:=133
def rQ:Nat:=134
def xy:Nat:=135
def tj:Nat:=136
def uH:Nat:=137
def oE:Nat:=138
def pC:Nat:=139
def kp:Nat:=140
def zL:Nat:=141
def qE:Nat:=142
def tn:Nat:=143
def wa:Nat:=144
def l8:Nat:=145
def qF:Nat:=146
def akW:Nat:=147
def ag7:Nat:=148
def ag8:Nat:=149
def ag9:Nat:=150
def ae7:Nat:=151
def ajy:Nat:=152
def ajz:Nat:=153
def ant:Nat:=154
def abD:Nat:=155
def ae8:Nat:=156
def ae9:Nat:=157
def aha:Nat:=158
def ajA:Nat:=159
def afa:Nat:=160
def ahb:Nat:=161
def akX:Nat:=162
def akY:Nat:=163
def abE:Nat:=164
def ad1:Nat:=165
def ahc:Nat:=166
def lU:Nat:=167
def tq:Nat:=168
def xA:Nat:=169
def xB:Nat:=170
def wb:Nat:=171
def zM:Nat:=172
def kq:Nat:=173
def kP:Nat:=174
def zN:Nat:=175
def Bm:Nat:=176
def tr:Nat:=177
def Bn:Nat:=178
def ahd:Nat:=179
def ajB:Nat:=180
def akZ:Nat:=181
def ahe:Nat:=182
def ad2:Nat:=183
def ak0:Nat:=184
def ajC:Nat:=185
def ak1:Nat:=186
def ajD:Nat:=187
def ajE:Nat:=188
def tt:Nat:=189
def iW:Nat:=190
def ql:Nat:=191
def wc:Nat:=192
def G9:Nat:=193
def abF:Nat:=194
def kr:Nat:=195
def we:Nat:=196
def uI:Nat:=197
def ahf:Nat:=198
def ahg:Nat:=199
def ajF:Nat:=200
def ad3:Nat:=201
def ajG:Nat:=202
def ak2:Nat:=203
def Pf:Nat:=204
def afb:Nat:=205
def afc:Nat:=206
def jM:Nat:=207
def Ds:Nat:=208
def Gt:Nat:=209
def Dt:Nat:=210
def EU:Nat:=211
def Et:Nat:=212
def z8:Nat:=213
def Xu:Nat:=214
def CJ:Nat:=215
def FQ:Nat:=216
def Xv:Nat:=217
def Xw:Nat:=218
def ahh:Nat:=219
def ajH:Nat:=220
def ajI:Nat:=221
def afd:Nat:=222
def ahi:Nat:=223
def Gu:Nat:=224
def OD:Nat:=225
def Ph:Nat:=226
def CK:Nat:=227
def Iv:Nat:=228
def VL:Nat:=229
def Iw:Nat:=230
abbrev AI.o (t:Nat) (a:AO):AI:= .op (some t) none a
abbrev AI.g (t c:Nat) (b:Bool) (a:AO):AI:= .op (some t) (some (c,b)) a
abbrev AI.c (t f:Nat) (l:List X):AI:= .call (some t) none f l
abbrev AI.d (t c:Nat) (b:Bool) (f:Nat) (l:List X):AI:= .call (some t) (some (c,b)) f l
abbrev AI.m (t:Nat) (x:X):AI:= .op (some t) none (.mv x)
abbrev bK:X:= .s 0
abbrev br:X:= .s 1
abbrev dC:X:= .s 2
abbrev cJ:X:= .s 3
abbrev fH:X:= .s 4
abbrev cj:X:= .s 5
abbrev dK:X:= .s 6
abbrev dc:X:= .s 7
abbrev dd:X:= .s 8
abbrev du:X:= .s 9
abbrev cv:X:= .s 10
abbrev cW:X:= .s 11
abbrev de:X:= .s 12
abbrev dm:X:= .s 13
abbrev c6:X:= .s 14
abbrev dD:X:= .s 15
abbrev dn:X:= .s 16
abbrev dN:X:= .s 17
abbrev dL:X:= .s 18
abbrev eC:X:= .s 19
abbrev eK:X:= .s 20
abbrev eH:X:= .s 21
abbrev eO:X:= .s 22
abbrev eR:X:= .s 23
abbrev fb:X:= .s 24
abbrev fj:X:= .s 25
abbrev fB:X:= .s 26
abbrev fL:X:= .s 27
abbrev gp:X:= .s 28
abbrev gy:X:= .s 29
abbrev gG:X:= .s 30
abbrev gJ:X:= .s 31
abbrev iG:X:= .s 32
abbrev iA:X:= .s 33
abbrev ji:X:= .s 34
abbrev iH:X:= .s 35
abbrev iY:X:= .s 36
abbrev ju:X:= .s 37
abbrev ke:X:= .s 38
abbrev jU:X:= .s 39
abbrev kL:X:= .s 40
abbrev ku:X:= .s 41
abbrev kZ:X:= .s 42
abbrev kM:X:= .s 43
abbrev k8:X:= .s 44
abbrev mM:X:= .s 45
abbrev mN:X:= .s 46
abbrev nS:X:= .s 47
abbrev mO:X:= .s 48
abbrev mP:X:= .s 49
abbrev ng:X:= .s 50
abbrev lV:X:= .s 51
abbrev lW:X:= .s 52
abbrev mQ:X:= .s 53
abbrev nh:X:= .s 54
abbrev ni:X:= .s 55
abbrev pD:X:= .s 56
abbrev qG:X:= .s 57
abbrev qc:X:= .s 58
abbrev nT:X:= .s 59
abbrev rD:X:= .s 60
abbrev tu:X:= .s 61
abbrev su:X:= .s 62
abbrev tv:X:= .s 63
abbrev tw:X:= .s 64
abbrev xC:X:= .s 65
abbrev zO:X:= .s 66
abbrev zP:X:= .s 67
abbrev xD:X:= .s 68
abbrev Bo:X:= .s 69
abbrev Bp:X:= .s 70
abbrev FR:X:= .s 71
abbrev Du:X:= .s 72
abbrev Dv:X:= .s 73
abbrev FT:X:= .s 74
abbrev FU:X:= .s 75
abbrev Dw:X:= .s 76
abbrev FV:X:= .s 77
abbrev Bq:X:= .s 78
abbrev IT:X:= .s 79
abbrev IU:X:= .s 80
abbrev IV:X:= .s 81
abbrev MJ:X:= .s 82
abbrev MK:X:= .s 83
abbrev MM:X:= .s 84
abbrev MN:X:= .s 85
abbrev MO:X:= .s 86
abbrev MP:X:= .s 87
abbrev MQ:X:= .s 88
abbrev FW:X:= .s 89
abbrev IW:X:= .s 90
abbrev MR:X:= .s 91
abbrev S8:X:= .s 92
abbrev Zd:X:= .s 93
abbrev Ze:X:= .s 94
abbrev Zf:X:= .s 95
abbrev ahj:X:= .s 96
abbrev ahk:X:= .s 97
abbrev ahl:X:= .s 98
abbrev ahm:X:= .s 99
abbrev abG:X:= .s 100
abbrev abH:X:= .s 101
abbrev abI:X:= .s 102
abbrev abJ:X:= .s 103
abbrev abK:X:= .s 104
abbrev abL:X:= .s 105
abbrev abM:X:= .s 106
abbrev abN:X:= .s 107
abbrev abO:X:= .s 108
abbrev ak3:X:= .s 109
abbrev abP:X:= .s 110
abbrev abQ:X:= .s 111
abbrev S9:X:= .s 112
abbrev abR:X:= .s 113
abbrev abS:X:= .s 114
abbrev abT:X:= .s 115
abbrev abU:X:= .s 116
abbrev abV:X:= .s 117
abbrev abW:X:= .s 118
abbrev abX:X:= .s 119
abbrev abY:X:= .s 120
abbrev abZ:X:= .s 121
abbrev ab0:X:= .s 122
abbrev ab1:X:= .s 123
abbrev ab2:X:= .s 124
abbrev ab3:X:= .s 125
abbrev ak4:X:= .s 126
abbrev ab4:X:= .s 127
abbrev Ha:X:= .s 128
abbrev ab5:X:= .s 129
abbrev ab6:X:= .s 130
abbrev ak5:X:= .s 131
abbrev ak6:X:= .s 132
abbrev ak7:X:= .s 133
abbrev ak8:X:= .s 134
abbrev ak9:X:= .s 135
abbrev ala:X:= .s 136
abbrev alb:X:= .s 137
abbrev alc:X:= .s 138
abbrev ald:X:= .s 139
abbrev ale:X:= .s 140
abbrev alf:X:= .s 141
abbrev alg:X:= .s 142
abbrev alh:X:= .s 143
abbrev ali:X:= .s 144
abbrev alj:X:= .s 145
abbrev alk:X:= .s 146
abbrev alm:X:= .s 147
abbrev aln:X:= .s 148
abbrev alo:X:= .s 149
abbrev alp:X:= .s 150
abbrev alq:X:= .s 151
abbrev alr:X:= .s 152
abbrev als:X:= .s 153
abbrev alu:X:= .s 154
abbrev alv:X:= .s 155
abbrev alw:X:= .s 156
abbrev alx:X:= .s 157
abbrev aly:X:= .s 158
abbrev alz:X:= .s 159
abbrev alA:X:= .s 160
abbrev alB:X:= .s 161
abbrev alC:X:= .s 162
abbrev alD:X:= .s 163
abbrev alE:X:= .s 164
abbrev alG:X:= .s 165
abbrev alH:X:= .s 166
abbrev alI:X:= .s 167
abbrev alJ:X:= .s 168
abbrev alK:X:= .s 169
abbrev alL:X:= .s 170
abbrev alM:X:= .s 171
abbrev alN:X:= .s 172
abbrev alO:X:= .s 173
abbrev alP:X:= .s 174
abbrev alQ:X:= .s 175
abbrev Q04:AC:= .cond cv (.seq (.run [.o 8 (.mv (.k (.bool false)))]) .ret) .skip
abbrev Q09:AC:= .cond dm (.seq (.run [.o 8 (.mv (.k (.bool true)))]) .ret) .skip
abbrev Q0E:AC:= .cond dL (.seq (.run [.o 8 (.mv (.k (.bool true)))]) .ret) .skip
abbrev Q0G:AC:= .par [.o 19 (.load fH true 2), .m 20 br, .m 21 dC, .c 22 rY [eC,eK,eH], .o 23 (.load fH true 2), .m 24 cJ, .c 25 xu [eR,fb], .m 26 br, .m 27 dC, .c 28 rY [fj,fB,fL], .c 29 vZ [eO,gp], .m 8 gy] [(0,0),(1,0),(2,0),(3,0),(4,1),(5,0),(6,0),(7,0),(8,0),(9,0),(10,0),(11,0)]
abbrev Q0K:AC:= .seq (.seq (.run [.c 9 zE [], .o 10 (.un .not du)]) Q04) (.seq (.seq (.run [.o 11 (.load fH true 2), .c 12 zF [cW], .o 13 (.un .not de)]) Q09) (.seq (.seq (.run [.o 14 (.load fH true 2), .m 15 br, .m 16 dC, .c 17 vY [c6,dD,dn], .o 18 (.un .not dN)]) Q0E) (.seq Q0G .ret)))
abbrev Q0L:AC:= .seq (.run [.o 4 (.box bK), .o 8 (.mv (.k (.bool false)))]) Q0K
abbrev Q0O:AC:= .run [.m 9 dC, .o 10 (.bin .eql du (.k (.int .i64 0))), .m 11 cv, .g 12 11 true (.aw br 0), .g 13 11 true (.load de false 1), .g 14 11 true (.bin .eql dm (.k (.int .i64 1))), .o 15 (.pick cW c6 (.k (.bool false))), .m 16 dD, .g 17 16 true (.aw br 1), .g 18 16 true (.load dN false 1), .g 19 16 true (.bin .eql dL (.k (.int .i64 7))), .o 20 (.pick dn eC (.k (.bool false))), .m 21 eK, .g 22 21 true (.aw br 3), .g 23 21 true (.load eO false 1),(.g 24 21 true (.dv [(.int .i64 0)] 1 2 [(0,(.k (.int .i64 5))),(1,(.k (.int .i64 5)))])), .d 25 21 true oy [eR,fb], .o 26 (.pick eH fj (.k (.bool false))), .m 27 fB, .g 28 27 true (.aw br 4), .g 29 27 true (.load gp false 1), .g 30 27 true (.len gy), .g 31 27 true (.bin .eql gG (.k (.int .i64 2))), .o 32 (.pick fL gJ (.k (.bool false))), .m 33 iG, .g 34 33 true (.aw br 4), .g 35 33 true (.load ji false 1), .g 36 33 true (.cH iH (.k (.int .i64 0)) 2), .g 37 33 true (.aw iY 0), .g 38 33 true (.load ju false 1), .g 39 33 true (.bin .eql ke (.k (.int .i64 2))), .o 40 (.pick iA jU (.k (.bool false))), .m 41 kL, .g 42 41 true (.aw br 4), .g 43 41 true (.load kZ false 1), .g 44 41 true (.cH kM (.k (.int .i64 1)) 2), .g 45 41 true (.aw k8 1), .g 46 41 true (.load mM false 1),(.g 47 41 true (.dv [(.int .i64 0)] 1 1 [(0,(.k (.int .i64 5)))])), .d 48 41 true oy [mN,nS], .o 49 (.pick ku mO (.k (.bool false))), .m 50 mP, .g 51 50 true (.load br true 5), .d 52 50 true zG [lV], .g 53 50 true (.sP .real lW lW),(.g 54 50 true (.sP .eq mQ (.k (.val (.float .f64 4619567317775286272))))), .o 55 (.pick ng nh (.k (.bool false))), .m 0 ni]
abbrev Q0Q:AC:= .seq (.run [.c 4 zH [],(.o 5 (.dv [(.int .i64 0)] 1 2 [(0,(.k (.int .i64 5))),(1,(.k (.int .i64 2)))])),(.c 6 xr [fH,(.k (.slice .full 0 [])),(.k (.int .i64 50)),cj]), .m 3 dK, .o 7 (.ext cJ 0), .o 8 (.ext cJ 1), .o 1 (.alloc [(.int .i64 0),(.int .i64 0),(.int .i64 0),(.slice .full 0 []),(.slice .full 0 [])]), .op none none (.store br dc 5), .m 2 dd]) (.seq Q0O .ret)
abbrev Q0R:AC:= .seq (.run [.o 0 (.mv (.k (.bool false)))]) Q0Q
abbrev Q0Z:AC:= .par [.o 26 (.aw cj 4), .o 27 (.load fB false 1), .o 28 (.aw cj 2), .o 29 (.load gp false 1), .o 30 (.aw cj 0), .o 31 (.load gG false 1), .m 32 cJ, .c 33 iz [gJ,iG], .c 34 kF [gy,iA], .c 35 kF [fL,ji], .m 3 iH] [(4,0),(5,0),(6,0),(7,0),(2,0),(3,1),(8,0),(0,0),(1,2),(9,0),(10,0)]
abbrev Q18:AC:= .seq (.seq (.run [.m 36 dK, .o 37 (.aw cj 1), .o 38 (.load ju false 1), .o 39 (.len ke), .o 40 (.bin .lss iY jU), .m 41 kL, .g 42 41 true (.mv cJ), .g 43 41 true (.bin .leq kZ (.k (.int .i64 20000))), .o 44 (.pick ku kM (.k (.bool false)))]) (.cond k8 .skip (.exit 2))) (.seq (.block 3 (.run [.o 47 (.aw cj 1), .o 48 (.load nS false 1), .m 49 dK, .o 50 (.cH mO mP 2), .o 51 (.aw ng 0), .o 52 (.load lV false 1), .m 53 cJ, .c 54 iz [lW,mQ], .m 3 nh])) (.run [.m 45 dK, .o 46 (.bin .add mM (.k (.int .i64 1))), .m 6 mN]))
abbrev Q1D:AC:= .seq (.seq (.run [.o 6 (.mv (.k (.int .i64 0)))]) (.block 2 (.loop Q18))) (.run [.o 55 (.aw cj 3), .o 56 (.load ni false 1), .m 57 cJ, .c 58 lN [pD,qG], .m 3 qc])
abbrev Q1I:AC:= .seq (.block 1 (.seq (.run [.o 21 (.aw br 1), .o 22 (.load eH false 1), .m 23 fH, .o 24 (.cH eO eR 5), .o 25 (.load fb true 5), .o 5 (.alloc [(.str []),(.slice .full 0 []),(.slice .full 0 []),(.slice .full 0 []),(.slice .full 0 [])]), .op none none (.store cj fj 5)]) (.seq Q0Z Q1D))) (.run [.m 19 fH, .o 20 (.bin .add eC (.k (.int .i64 1))), .m 4 eK])
abbrev Q1J:AC:= .seq (.seq (.run [.m 10 fH, .o 11 (.aw br 1), .o 12 (.load cW false 1), .o 13 (.len de), .o 14 (.bin .lss cv dm), .m 15 c6, .g 16 15 true (.mv cJ), .g 17 15 true (.bin .leq dn (.k (.int .i64 20000))), .o 18 (.pick dD dN (.k (.bool false)))]) (.cond dL .skip (.exit 0))) Q1I
abbrev Q1P:AC:= .seq (.seq (.run [.o 4 (.mv (.k (.int .i64 0)))]) (.block 0 (.loop Q1J))) (.seq (.run [.m 59 cJ, .o 60 (.bin .leq nT (.k (.int .i64 20000))), .m 2 rD]) .ret)
abbrev Q1R:AC:= .seq (.run [.o 1 (.box bK), .o 2 (.mv (.k (.bool false)))]) (.seq (.run [.o 7 (.aw br 0), .o 8 (.load dc false 1), .c 9 kF [dd,(.k (.int .i64 0))], .m 3 du]) Q1P)
abbrev Q1W:AC:= .cond fb (.seq (.run [.o 25 (.build [(.int .i64 0),(.int .i64 0),(.int .i64 0),(.slice .full 0 []),(.slice .full 0 [])] []), .op none none (.store dd fj 5), .o 9 (.mv (.k (.int .i64 1)))]) .ret) .skip
abbrev Q26:AC:= .seq (.cond iY .skip (.exit 0)) (.seq (.block 1 (.run [.m 37 cv, .m 38 cv, .o 39 (.cz ke), .o 40 (.aw jU 1), .o 41 (.load kL false 1), .o 42 (.alloc [(.int .i64 0)]), .o 43 (.dv [.eW] 1 1 [(0,kZ)]), .o 44 (.app 1 8 ku kM), .o 45 (.cz ju), .o 46 (.aw mM 1), .op none none (.store mN k8 1)])) (.run [.o 47 (.bin .add iH (.k (.int .i64 1))), .m 35 nS]))
abbrev Q27:AC:= .seq (.run [.o 36 (.bin .lss iH ji)]) Q26
abbrev Q2H:AC:= .cond pD (.seq (.run [.o 12 (.mv (.k (.int .i64 0)))]) (.goto 0)) .skip
abbrev Q2I:AC:= .seq (.run [.m 55 dm,(.o 56 (.bin .eql ni (.k (.int .i64 (-1)))))]) Q2H
abbrev Q2M:AC:= .cond tv (.seq (.run [.m 64 cv, .o 65 (.cz tw), .o 66 (.aw xC 6), .o 67 (.aw zO 0), .op none none (.store zP (.k (.int .i64 2)) 1)]) (.goto 2)) .skip
abbrev Q2Y:AC:= .seq (.run [.m 102 cv, .o 103 (.aw cW 0), .o 104 (.load abJ true 13), .c 105 qa [abI,abK], .m 12 abL]) (.seq (.run [.m 106 cv, .o 107 (.cz abM), .o 108 (.aw abN 6), .o 109 (.aw abO 0), .o 110 (.load ak3 false 1), .o 111 (.bin .eql abP (.k (.int .i64 0)))]) (.cond abQ (.goto 0) .skip))
abbrev Q32:AC:= .cond Ze (.run [.m 96 cv, .o 97 (.aw cW 0), .o 98 (.load ahk true 13), .c 99 qC [ahj,ahl], .m 13 ahm]) (.seq (.run [.o 101 (.bin .eql IW (.k (.int .i64 9))), .m 100 abH]) (.cond abG Q2Y (.run [.m 91 cv, .o 92 (.load cW true 17), .c 93 sr [MR,S8], .m 13 Zd])))
abbrev Q34:AC:= .block 2 (.seq (.run [.o 95 (.bin .eql IW (.k (.int .i64 4))), .m 94 Zf]) Q32)
abbrev Q3E:AC:= .seq (.run [.m 127 cv, .o 128 (.cz ab4), .o 129 (.aw Ha 6), .o 130 (.load ab5 true 5), .op none none (.store dd ab6 5), .o 9 (.mv (.k (.int .i64 0)))]) .ret
abbrev Q3G:AC:= .seq (.seq (.run [.m 121 cv, .o 122 (.cz abZ), .o 123 (.aw ab0 6), .o 124 (.aw ab1 0), .o 125 (.load ab2 false 1), .o 126 (.bin .eql ab3 (.k (.int .i64 0)))]) (.cond ak4 (.goto 1) .skip)) (.seq (.label 2) Q3E)
abbrev Q3H:AC:= .seq (.run [.m 118 cv, .m 119 de, .c 120 qb [abW,abX], .m 13 abY]) Q3G
abbrev Q3K:AC:= .seq (.seq (.run [.m 112 cv, .o 113 (.cz S9), .o 114 (.aw abR 6), .o 115 (.aw abS 0), .o 116 (.load abT false 1), .o 117 (.bin .eql abU (.k (.int .i64 0)))]) (.cond abV (.goto 1) .skip)) (.seq (.goto 2) (.seq (.label 0) Q3H))
abbrev Q3N:AC:= .seq (.run [.m 68 cv, .o 69 (.cz xD), .o 70 (.aw Bo 6), .o 71 (.aw Bp 1), .o 72 (.load FR false 1), .o 73 (.bin .add Du (.k (.int .i64 1))), .o 74 (.cz xD), .o 75 (.aw FT 6), .o 76 (.aw FU 1), .op none none (.store Dw Dv 1)]) (.seq (.run [.m 77 cv, .o 78 (.cz FV), .o 79 (.aw Bq 0), .o 80 (.load IT false 1), .o 81 (.cz IU), .o 82 (.aw IV 2), .o 83 (.load MJ false 1), .m 84 dm, .o 85 (.bin .sub MM (.k (.int .i64 1))), .o 86 (.cH MK MN 17), .o 87 (.load MO true 17), .op none none (.store cW MP 17)]) (.seq (.seq (.run [.o 88 (.aw cW 0), .o 89 (.aw MQ 1), .o 90 (.load FW false 1)]) Q34) Q3K))
abbrev Q3P:AC:= .seq Q2I (.seq (.seq (.run [.m 57 cv, .o 58 (.cz qG), .o 59 (.aw qc 6), .o 60 (.aw nT 1), .o 61 (.load rD false 1), .m 62 dC, .o 63 (.bin .eql tu su)]) Q2M) Q3N)
abbrev Q3S:AC:= .seq (.run [.o 12 (.mv (.k (.int .i64 0)))]) (.seq (.run [.m 48 cv, .m 49 cv, .o 50 (.cz mP), .o 51 (.aw ng 0), .o 52 (.load lV false 1),(.c 53 jt [lW,(.k (.str [109,97,105,110]))]),(.c 54 jZ [mO,mQ,(.k (.slice .full 0 [])),(.k (.int .i64 0))]), .m 13 nh]) (.seq (.label 1) Q3P))
abbrev Q3T:AC:= .seq (.run [.o 11 (.alloc [(.int .i64 0),(.int .i64 0),(.slice .full 0 []),(.str []),(.str []),(.int .i64 0),(.int .i64 0),(.str []),(.slice .full 0 []),(.bool false),(.slice .full 0 []),(.slice .full 0 []),(.slice .full 0 []),(.int .i64 0),(.int .i64 0),(.int .i64 0),(.int .i64 0)])]) Q3S
abbrev Q3U:AC:= .seq (.seq (.run [.o 32 (.aw fH 0), .o 33 (.load iG false 1), .o 34 (.len iA), .o 35 (.mv (.k (.int .i64 0)))]) (.block 0 (.loop Q27))) Q3T
abbrev Q3W:AC:= .seq (.seq (.run [.m 14 dC, .o 15 (.bin .lss c6 (.k (.int .i64 0))), .m 16 dD, .g 17 16 false (.mv dC), .g 18 16 false (.bin .gtr dN (.k (.int .i64 1000000))), .o 19 (.pick dn (.k (.bool true)) dL), .m 20 eC, .g 21 20 false (.load fH true 2), .d 22 20 false ve [eH], .g 23 20 false (.un .not eO), .o 24 (.pick eK (.k (.bool true)) eR)]) Q1W) (.seq (.run [.o 26 (.load fH true 2), .c 27 lT [fB], .m 28 br, .m 29 cJ, .o 30 (.build [.eW,(.slice .full 0 []),(.slice .full 0 []),(.slice .full 0 []),(.slice .full 0 []),(.slice .full 0 []),(.int .i64 0),(.int .i64 0),(.int .i64 0),(.slice .full 0 []),(.slice .full 0 [])] [(0,(1,fL)),(2,(1,gp)),(3,(1,gy))]), .o 31 (.box gG), .m 10 gJ]) Q3U)
abbrev Q3X:AC:= .scope Q3W
abbrev Q3Y:AC:= .seq (.run [.o 4 (.box bK), .o 8 (.alloc [(.int .i64 0),(.int .i64 0),(.int .i64 0),(.slice .full 0 []),(.slice .full 0 [])]), .o 9 (.mv (.k (.int .i64 0)))]) Q3X
abbrev Q42:AC:= .seq (.run [.o 1 (.box bK), .o 2 (.mv (.k (.bool false)))]) (.seq (.run [.o 3 (.load br true 2), .c 4 zI [cJ], .o 5 (.E4 fH 0 false 1), .o 6 (.bin .eql cj (.k (.int .i64 0))), .m 2 dK]) .ret)
abbrev Q46:AC:= .seq (.run [.o 3 (.box bK), .o 6 (.mv (.k (.bool false)))]) (.seq (.run [.o 7 (.load cJ true 2), .c 8 ve [dc], .m 9 dd, .g 10 9 true (.mv dC), .g 11 9 true (.bin .geq cv (.k (.int .i64 0))), .o 12 (.pick du cW (.k (.bool false))), .m 13 de, .g 14 13 true (.mv dC), .g 15 13 true (.bin .leq c6 (.k (.int .i64 400))), .o 16 (.pick dm dD (.k (.bool false))), .m 17 dn, .g 18 17 true (.mv br), .g 19 17 true (.len dL), .g 20 17 true (.bin .leq eC (.k (.int .i64 100))), .o 21 (.pick dN eK (.k (.bool false))), .m 6 eH]) .ret)
abbrev Q48:AC:= .par [.o 10 (.load cJ true 2), .m 11 br, .m 12 dC, .o 13 (.load cJ true 2), .c 14 Bi [dm,(.k (.int .i64 0))], .c 15 xr [cv,cW,de,c6], .m 9 dD, .o 16 (.ext du 0), .o 17 (.ext du 1), .o 7 (.alloc [(.int .i64 0),(.int .i64 0),(.int .i64 0),(.slice .full 0 []),(.slice .full 0 [])]), .op none none (.store dc dn 5), .m 8 dN] [(3,0),(4,0),(0,1),(1,0),(2,0),(5,0),(9,0),(6,0),(7,0),(10,0),(8,0),(11,0)]
abbrev Q4C:AC:= .seq (.run [.o 3 (.box bK), .o 6 (.alloc [(.int .i64 0),(.int .i64 0),(.int .i64 0),(.slice .full 0 []),(.slice .full 0 [])])]) (.seq Q48 (.seq (.run [.o 18 (.load dc true 5), .op none none (.store dK dL 5)]) .ret))
abbrev Q4E:AC:= .run [.o 5 (.aw dC 0), .o 6 (.load cj false 1), .o 7 (.aw cJ 0), .o 8 (.load dc false 1), .o 9 (.bin .eql dK dd), .m 10 du, .g 11 10 true (.aw dC 1), .g 12 10 true (.load cW false 1), .g 13 10 true (.aw cJ 1), .g 14 10 true (.load dm false 1), .g 15 10 true (.bin .eql de c6), .o 16 (.pick cv dD (.k (.bool false))), .m 17 dn, .g 18 17 true (.aw dC 2), .g 19 17 true (.load dL false 1), .g 20 17 true (.aw cJ 2), .g 21 17 true (.load eK false 1), .g 22 17 true (.bin .eql eC eH), .o 23 (.pick dN eO (.k (.bool false))), .m 24 eR, .g 25 24 true (.aw dC 3), .g 26 24 true (.load fj false 1), .g 27 24 true (.aw cJ 3), .g 28 24 true (.load fL false 1), .d 29 24 true oy [fB,gp], .o 30 (.pick fb gy (.k (.bool false))), .m 4 gG]
abbrev Q4G:AC:= .seq (.run [.o 2 (.box bK), .o 3 (.box br), .o 4 (.mv (.k (.bool false)))]) (.seq Q4E .ret)
abbrev Q4L:AC:= .cond cv (.seq (.run [.o 4 (.mv (.k (.bool false)))]) .ret) .skip
abbrev Q4R:AC:= .par [.m 16 bK, .m 17 cj, .o 18 (.cH dn dN 1), .o 19 (.load dL false 1), .m 20 br, .m 21 cj, .o 22 (.cH eK eH 1), .o 23 (.load eO false 1), .o 24 (.bin .neq eC eR)] [(0,0),(1,0),(2,0),(3,0),(4,0),(5,0),(6,0),(7,0),(8,0)]
abbrev Q4U:AC:= .cond fb (.seq (.run [.o 4 (.mv (.k (.bool false)))]) .ret) .skip
abbrev Q50:AC:= .seq (.cond c6 .skip (.exit 0)) (.seq (.block 1 (.seq (.run [.m 15 dm, .m 5 dD]) (.seq Q4R Q4U))) (.run [.o 25 (.bin .add dm (.k (.int .i64 1))), .m 13 fj]))
abbrev Q54:AC:= .seq (.run [.m 11 bK, .o 12 (.len cW), .o 13 (.mv (.k (.int .i64 0)))]) (.block 0 (.loop (.seq (.run [.o 14 (.bin .lss dm de)]) Q50)))
abbrev Q57:AC:= .seq Q54 (.seq (.run [.o 4 (.mv (.k (.bool true)))]) .ret)
abbrev Q59:AC:= .seq (.run [.o 4 (.mv (.k (.bool false)))]) (.seq (.seq (.run [.m 6 bK, .o 7 (.len dK), .m 8 br, .o 9 (.len dd), .o 10 (.bin .neq dc du)]) Q4L) Q57)
abbrev Q5D:AC:= .seq (.run [.o 1 (.box bK), .o 2 (.mv (.k (.bool false)))]) (.seq (.run [.o 3 (.load br true 4), .c 4 rO [cJ,(.k (.int .i64 20))], .m 2 fH]) .ret)
abbrev Q5M:AC:= .par [.o 18 (.dv [(.str []),(.slice .full 0 []),(.slice .full 0 []),(.slice .full 0 []),(.slice .full 0 [])] 5 0 []), .o 19 (.aw cj 1), .o 20 (.load eC false 1), .m 21 br, .o 22 (.CO 5 eK (some eH) none), .o 23 (.app 5 112 dL eO), .o 24 (.aw cj 1), .o 25 (.load fb false 1), .m 26 br, .o 27 (.CO 5 fj none (some fB)), .o 28 (.app 5 112 eR fL), .o 29 (.aw cj 1), .op none none (.store gy gp 1)] [(0,0),(1,0),(2,0),(3,0),(4,0),(5,0),(6,0),(7,1),(8,0),(9,0),(10,0),(11,0),(12,0)]
abbrev Q5R:AC:= .seq (.seq (.run [.o 8 (.aw cj 1), .o 9 (.load dd false 1), .o 10 (.len du), .o 11 (.bin .eql cv (.k (.int .i64 0)))]) (.cond cW (.seq (.run [.o 12 (.load cj true 2), .op none none (.store fH de 2)]) .ret) .skip)) (.seq (.run [.m 13 br, .o 14 (.aw cj 1), .o 15 (.load c6 false 1), .o 16 (.len dD), .c 17 Bj [dm,dn], .m 1 dN]) (.seq Q5M (.seq (.run [.o 30 (.load cj true 2), .c 31 rZ [gG], .op none none (.store fH gJ 2)]) .ret)))
abbrev Q5T:AC:= .seq (.run [.o 2 (.box bK), .o 4 (.alloc [(.slice .full 0 []),(.slice .full 0 [])])]) (.seq (.run [.o 6 (.load dC true 2), .c 7 pX [dK], .o 5 (.alloc [(.slice .full 0 []),(.slice .full 0 [])]), .op none none (.store cj dc 2)]) Q5R)
abbrev Q64:AC:= .seq (.run [.o 13 (.cH du cW 16), .o 14 (.load dm true 16), .o 7 (.alloc [(.int .i64 0),(.int .i64 0),(.slice .full 0 []),(.str []),(.str []),(.int .i64 0),(.int .i64 0),(.str []),(.slice .full 0 []),(.bool false),(.slice .full 0 []),(.slice .full 0 []),(.slice .full 0 []),(.int .i64 0),(.int .i64 0),(.bool false)]), .op none none (.store dc c6 16)]) (.seq (.run [.m 15 br, .o 16 (.bin .eql dD (.k (.int .i64 0))), .m 17 dn, .g 18 17 false (.aw dc 0), .g 19 17 false (.aw dL 1), .g 20 17 false (.load eC false 1), .g 21 17 false (.mv br), .g 22 17 false (.bin .eql eK eH), .o 23 (.pick dN (.k (.bool true)) eO)]) (.cond eR (.run [.m 24 cj, .o 25 (.aw dc 0), .o 26 (.aw fj 0), .o 27 (.load fB false 1), .o 28 (.dv [(.int .i64 0)] 1 1 [(0,fL)]), .o 29 (.app 1 8 fb gp), .m 5 gy]) .skip))
abbrev Q68:AC:= .seq (.cond de .skip (.exit 0)) (.seq (.block 1 Q64) (.run [.o 30 (.bin .add cW (.k (.int .i64 1))), .m 11 gG]))
abbrev Q6C:AC:= .seq (.run [.o 8 (.load dC true 2), .c 9 Bk [dd], .o 10 (.len du), .o 11 (.mv (.k (.int .i64 0)))]) (.block 0 (.loop (.seq (.run [.o 12 (.bin .lss cW cv)]) Q68)))
abbrev Q6H:AC:= .seq (.run [.o 2 (.box bK), .o 4 (.mv (.k (.slice .full 0 [])))]) (.seq (.run [.o 5 (.mv (.k (.slice .full 0 [])))]) (.seq Q6C (.seq (.run [.m 31 cj, .m 4 gJ]) .ret)))
abbrev Q6M:AC:= .cond eR (.seq (.run [.o 2 (.mv (.k (.bool false)))]) .ret) .skip
abbrev Q6T:AC:= .run [.o 33 (.aw cj 1), .o 34 (.load iA false 1), .o 35 (.len ji), .o 36 (.bin .gtr iH (.k (.int .i64 8))), .m 37 iY, .g 38 37 false (.aw cj 2), .g 39 37 false (.load ke false 1), .g 40 37 false (.len jU), .g 41 37 false (.bin .gtr kL (.k (.int .i64 16))), .o 42 (.pick ju (.k (.bool true)) ku), .m 43 kZ, .g 44 43 false (.aw cj 0), .g 45 43 false (.load k8 false 1), .d 46 43 false pA [mM], .g 47 43 false (.un .not mN), .o 48 (.pick kM (.k (.bool true)) nS), .m 49 mO, .g 50 49 false (.aw cj 2), .g 51 49 false (.load ng false 1), .d 52 49 false oA [lV], .g 53 49 false (.un .not lW), .o 54 (.pick mP (.k (.bool true)) mQ), .m 55 nh, .g 56 55 false (.aw cj 4), .g 57 55 false (.load pD false 1), .d 58 55 false oA [qG], .g 59 55 false (.un .not qc), .o 60 (.pick ni (.k (.bool true)) nT)]
abbrev Q6W:AC:= .cond rD (.seq (.run [.o 2 (.mv (.k (.bool false)))]) .ret) .skip
abbrev Q75:AC:= .cond FR (.seq (.run [.o 2 (.mv (.k (.bool false)))]) .ret) .skip
abbrev Q7A:AC:= .seq (.block 3 (.seq (.run [.o 66 (.cH su tw 2), .o 67 (.load zO true 2), .o 7 (.alloc [(.str []),(.bool false)]), .op none none (.store dc zP 2)]) (.seq (.run [.o 68 (.aw dc 0), .o 69 (.load xD false 1), .c 70 pA [Bo], .o 71 (.un .not Bp)]) Q75))) (.run [.o 72 (.bin .add tw (.k (.int .i64 1))), .m 64 Du])
abbrev Q7E:AC:= .block 2 (.loop (.seq (.run [.o 65 (.bin .lss tw tv)]) (.seq (.cond xC .skip (.exit 2)) Q7A)))
abbrev Q7J:AC:= .cond FV (.seq (.run [.o 2 (.mv (.k (.bool false)))]) .ret) .skip
abbrev Q7L:AC:= .seq (.seq (.run [.o 61 (.aw cj 1), .o 62 (.load tu false 1), .o 63 (.len su), .o 64 (.mv (.k (.int .i64 0)))]) Q7E) (.seq (.run [.m 73 cJ, .o 74 (.aw cj 3), .o 75 (.load FT false 1), .c 76 ly [Dv,FU,(.k (.int .i64 1))], .o 77 (.un .not Dw)]) Q7J)
abbrev Q7Q:AC:= .seq (.block 1 (.seq (.run [.o 31 (.cH fL gy 5), .o 32 (.load gJ true 5), .o 5 (.alloc [(.str []),(.slice .full 0 []),(.slice .full 0 []),(.slice .full 0 []),(.slice .full 0 [])]), .op none none (.store cj iG 5)]) (.seq (.seq Q6T Q6W) Q7L))) (.run [.o 78 (.bin .add gy (.k (.int .i64 1))), .m 29 Bq])
abbrev Q7U:AC:= .block 0 (.loop (.seq (.run [.o 30 (.bin .lss gy gp)]) (.seq (.cond gG .skip (.exit 0)) Q7Q)))
abbrev Q7Y:AC:= .seq (.seq (.run [.o 26 (.aw br 1), .o 27 (.load fB false 1), .o 28 (.len fL), .o 29 (.mv (.k (.int .i64 0)))]) Q7U) (.seq (.run [.o 2 (.mv (.k (.bool true)))]) .ret)
abbrev Q80:AC:= .seq (.seq (.run [.o 8 (.aw br 0), .o 9 (.load dd false 1), .o 10 (.len du), .o 11 (.bin .gtr cv (.k (.int .i64 16))), .m 12 cW, .g 13 12 false (.aw br 1), .g 14 12 false (.load dm false 1), .g 15 12 false (.len c6), .g 16 12 false (.bin .gtr dD (.k (.int .i64 16))), .o 17 (.pick de (.k (.bool true)) dn), .m 18 dN, .g 19 18 false (.aw br 0), .g 20 18 false (.load eC false 1), .d 21 18 false oA [eK], .g 22 18 false (.un .not eH), .o 23 (.pick dL (.k (.bool true)) eO)]) Q6M) (.seq (.run [.o 24 (.build [(.int .i64 0)] []), .o 25 (.box fb), .m 3 fj]) Q7Y)
abbrev Q81:AC:= .seq (.run [.o 1 (.box bK), .o 2 (.mv (.k (.bool false)))]) Q80
open Go.Proofs
theorem rE:Has Tryz.prog yA 30 [(8,none)] Q0L:=⟨Tryz.f11,by kernel_rfl,by kernel_rfl⟩
set_option maxRecDepth 20000 in
theorem KR : Has Tryz.prog zE 56 [(0, none)] Q0R := ⟨Tryz.f15, by kernel_rfl, by kernel_rfl⟩
theorem KS:Has Tryz.prog zF 61 [(2,none)] Q1R:=⟨Tryz.f16,by kernel_rfl,by kernel_rfl⟩
theorem wN:Has Tryz.prog xr 131 [(8,(some (true,5))),(9,none)] Q3Y:=⟨Tryz.f17,by kernel_rfl,by kernel_rfl⟩
theorem KT:Has Tryz.prog ve 7 [(2,none)] Q42:=⟨Tryz.f20,by kernel_rfl,by kernel_rfl⟩
theorem Hb:Has Tryz.prog vY 22 [(6,none)] Q46:=⟨Tryz.f21,by kernel_rfl,by kernel_rfl⟩
theorem Hc:Has Tryz.prog rY 19 [(6,(some (true,5)))] Q4C:=⟨Tryz.f22,by kernel_rfl,by kernel_rfl⟩
theorem Hd:Has Tryz.prog vZ 31 [(4,none)] Q4G:=⟨Tryz.f25,by kernel_rfl,by kernel_rfl⟩
theorem xE:Has Tryz.prog oy 26 [(4,none)] Q59:=⟨Tryz.f28,by kernel_rfl,by kernel_rfl⟩
theorem FX:Has Tryz.prog oz 5 [(2,none)] Q5D:=⟨Tryz.f29,by kernel_rfl,by kernel_rfl⟩
theorem IX:Has Tryz.prog xu 32 [(4,(some (true,2)))] Q5T:=⟨Tryz.f31,by kernel_rfl,by kernel_rfl⟩
theorem MS:Has Tryz.prog Bi 32 [(4,none)] Q6H:=⟨Tryz.f33,by kernel_rfl,by kernel_rfl⟩
theorem MT:Has Tryz.prog tc 79 [(2,none)] Q81:=⟨Tryz.f36,by kernel_rfl,by kernel_rfl⟩
end Go.Abs
