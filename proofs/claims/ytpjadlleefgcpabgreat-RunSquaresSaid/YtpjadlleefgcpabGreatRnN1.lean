/-
  What is proved here: part 1 of the road to the claim (Frame, Frame2, Walk, Par, Par1, Par2, Par3, Step, Wp, Types, Mir, MirTree, Cnt, MirFlat, Nums, Codes0, Have0, Codes1, Have1).
  No conditions.
-/
import Derived.Test.YtpjadlleefgcpabGreatRnN0
import Derived.Attr
import Derived.Test.YtpjadlleefgcpabGreatProg
import Derived.KernelRfl

set_option linter.unusedSimpArgs false
set_option linter.unusedVariables false
namespace Go.Abs
def Tag.ok (m:Nat):Tag→Bool
 | .tok t _=>decide (t<m)
 |_=>true
def Tag.db (ts:List Nat):Tag→Tag
 | .tok t y=>match ts[t]? with|some t'=> .tok t' y|none=> .shared
 |g=>g
mutual
def D.ok (n m:Nat):D→Bool
 | .ptr o _=>decide (o<n)
 | .dL row _=>D.bH n m row
 | .slice g _ rows=>g.ok m && D.gW n m rows
 | .agg cs=>D.bH n m cs
 | .tuple ds=>D.bH n m ds
 | .fm _ o=>decide (o<n)
 | .gi _ cs=>D.bH n m cs
 | .fS o=>decide (o<n)
 | .eF _ o _ _=>decide (o<n)
 | .fp o _ _=>decide (o<n)
 |_=>true
def D.bH (n m:Nat):List D→Bool
 | []=>true
 |d::r=>D.ok n m d && D.bH n m r
def D.gW (n m:Nat):List (List D)→Bool
 | []=>true
 |d::r=>D.bH n m d && D.gW n m r
end
mutual
def D.db (os ts:List Nat):D→D
 | .ptr o off=>match os[o]? with|some o'=> .ptr o' off|none=> .junk
 | .dL row off=> .dL (D.eT os ts row) off
 | .slice g z rows=> .slice (g.db ts) z (D.nQ os ts rows)
 | .agg cs=> .agg (D.eT os ts cs)
 | .tuple ds=> .tuple (D.eT os ts ds)
 | .junk=> .junk
 | .int k x=> .int k x
 | .bool b=> .bool b
 | .str l=> .str l
 | .ek=> .ek
 | .val v=> .val v
 | .fm T o=>match os[o]? with|some o'=> .fm T o'|none=> .junk
 | .gi f cs=> .gi f (D.eT os ts cs)
 | .fS o=>match os[o]? with|some o'=> .fS o'|none=> .junk
 | .eF z o g len=>match os[o]? with|some o'=> .eF z o' g len|none=> .junk
 | .fp o g off=>match os[o]? with|some o'=> .fp o' g off|none=> .junk
 | .eD z=> .eD z
def D.eT (os ts:List Nat):List D→List D
 | []=> []
 |d::r=>D.db os ts d::D.eT os ts r
def D.nQ (os ts:List Nat):List (List D)→List (List D)
 | []=> []
 |d::r=>D.eT os ts d::D.nQ os ts r
end
theorem fM (os ts:List Nat) : ∀ l,D.eT os ts l=l.map (D.db os ts)
 | []=>by simp[D.eT]
 |d::r=>by simp[D.eT,fM os ts r]
theorem Cp (os ts:List Nat) : ∀ l,D.nQ os ts l=l.map (D.eT os ts)
 | []=>by simp[D.nQ]
 |d::r=>by simp[D.nQ,Cp os ts r]
theorem ym (n m:Nat) : ∀ l,D.bH n m l=l.all (D.ok n m)
 | []=>by simp[D.bH]
 |d::r=>by simp[D.bH,ym n m r]
theorem EI (n m:Nat) : ∀ l,D.gW n m l=l.all (D.bH n m)
 | []=>by simp[D.gW]
 |d::r=>by simp[D.gW,EI n m r]
theorem vv {n m:Nat} {l:List D} (h:D.bH n m l=true) {i:Nat} {d:D} (e:l[i]? = some d):D.ok n m d=true:=by
 rw[ym]at h;exact List.all_eq_true.1 h d (List.mem_of_getElem? e)
theorem ZS {n m:Nat} {l:List (List D)} (h:D.gW n m l=true) {i:Nat} {d:List D} (e:l[i]? = some d):D.bH n m d=true:=by
 rw[EI]at h;exact List.all_eq_true.1 h d (List.mem_of_getElem? e)
section
variable {M M0:Map} {s s0:St} {os ts:List Nat}
theorem iP.Cq (kT : ∀ (i:Nat) t,ts[i]? = some t→M0.be i=M.be t) (ht : ∀ (i t:Nat),ts[i]? = some t→s0.aw[i]? = s.aw[t]?) (hlen:s0.aw.length=ts.length) {g:Tag} {z len cap:Nat} {base:Option (Nat×Nat)} (pQ:g.ok ts.length=true) (h:iP M s (g.db ts) z len base cap):iP M0 s0 g z len base cap:=by
 cases g with
 |full=>exact h
 |shared=>exact h
 |tok t y=>
  have hC:t<ts.length:=by simpa[Tag.ok]using pQ
  have e:ts[t]? = some ts[t]:=List.getElem?_eq_getElem hC
  simp only[Tag.db,e]at h
  obtain⟨h1,h2⟩:=h
  refine⟨by omega,fun n hn=>?_⟩
  rw[ht t _ e]at hn
  rw[kT t _ e]
  exact h2 n hn
theorem RD.Cq (hG:M0.G=M.G) (jq : ∀ (i:Nat) o,os[i]? = some o→M0.loc i=M.loc o) (jT:s0.ah.length=os.length)
 (kT : ∀ (i:Nat) t,ts[i]? = some t→M0.be i=M.be t) (ht : ∀ (i t:Nat),ts[i]? = some t→s0.aw[i]? = s.aw[t]?) (hlen:s0.aw.length=ts.length) {d:D} {v:Value} (h:RD M s d v) :
 ∀ d0:D,d0.db os ts=d→d0.ok os.length ts.length=true→RD M0 s0 d0 v:=by
 have mR : ∀ (i:Nat) o,os[i]? = some o→M0.mu i=M.mu o:=fun i o h=>congrArg Prod.fst (jq i o h)
 have tag:=fun {g z len cap base}=>@iP.Cq M M0 s s0 ts kT ht hlen g z len cap base
 induction h with
 | junk v=>
  intro d0 e ok
  cases d0<;>simp only[D.db]at e<;>try (cases e;done)
  ·exact .junk v
  ·rename_i o off
   have hC:o<os.length:=by simpa[D.ok]using ok
   rw[List.getElem?_eq_getElem hC]at e;cases e
  ·rename_i T o
   have hC:o<os.length:=by simpa[D.ok]using ok
   rw[List.getElem?_eq_getElem hC]at e;cases e
  ·rename_i o
   have hC:o<os.length:=by simpa[D.ok]using ok
   rw[List.getElem?_eq_getElem hC]at e;cases e
  ·rename_i z o g len
   have hC:o<os.length:=by simpa[D.ok]using ok
   rw[List.getElem?_eq_getElem hC]at e;cases e
  ·rename_i o g off
   have hC:o<os.length:=by simpa[D.ok]using ok
   rw[List.getElem?_eq_getElem hC]at e;cases e
 |eD z a=>intro d0 e ok;cases d0<;>simp only[D.db]at e<;>first|(cases e;exact .eD _ _)|(split at e<;>cases e)|cases e
 |eF z o g len b cap A ho hm ha hl=>
  intro d0 e ok
  cases d0<;>simp only[D.db]at e<;>first|(cases e;done)|skip
  all_goals try (split at e<;>cases e;done)
  rename_i z0 o0 g0 acN
  have hC:o0<os.length:=by simpa[D.ok]using ok
  rw[List.getElem?_eq_getElem hC]at e
  cases e
  exact RD.eF (s:=s0) z o0 g len b cap A (by omega) ((congrArg Prod.snd (jq o0 _ (List.getElem?_eq_getElem hC))).trans hm) ha hl
 |fp z o g off b cap A ho hm ha=>
  intro d0 e ok
  cases d0<;>simp only[D.db]at e<;>first|(cases e;done)|skip
  all_goals try (split at e<;>cases e;done)
  rename_i o0 g0 Vi
  have hC:o0<os.length:=by simpa[D.ok]using ok
  rw[List.getElem?_eq_getElem hC]at e
  cases e
  exact RD.fp (s:=s0) z o0 g off b cap A (by omega) ((congrArg Prod.snd (jq o0 _ (List.getElem?_eq_getElem hC))).trans hm) ha
 |val v hv=>intro d0 e ok;cases d0<;>simp only[D.db]at e<;>first|(cases e;exact .val _ hv)|(split at e<;>cases e)|cases e
 |fm T o v ho ht hv=>
  intro d0 e ok
  cases d0<;>simp only[D.db]at e<;>first|(split at e<;>cases e;done)|skip
  all_goals try (cases e;done)
  rename_i T0 o0
  have hC:o0<os.length:=by simpa[D.ok]using ok
  rw[List.getElem?_eq_getElem hC]at e
  cases e
  have hl:=jq o0 _ (List.getElem?_eq_getElem hC)
  exact .fm _ o0 v (by omega) ((congrArg (fun x=>x.2.ty?) hl).trans ht) (by rw[mR o0 _ (List.getElem?_eq_getElem hC)];exact hv)
 |int k x=>intro d0 e ok;cases d0<;>simp only[D.db]at e<;>first|(cases e;exact .int _ _)|(split at e<;>cases e)|cases e
 |bool b=>intro d0 e ok;cases d0<;>simp only[D.db]at e<;>first|(cases e;exact .bool _)|(split at e<;>cases e)|cases e
 |str l=>intro d0 e ok;cases d0<;>simp only[D.db]at e<;>first|(cases e;exact .str _)|(split at e<;>cases e)|cases e
 |ek=>intro d0 e ok;cases d0<;>simp only[D.db]at e<;>first|(cases e;exact .ek)|(split at e<;>cases e)|cases e
 |fS o ho hm=>
  intro d0 e ok
  cases d0<;>simp only[D.db]at e<;>first|(cases e;done)|skip
  all_goals try (split at e<;>cases e;done)
  rename_i o0
  have hC:o0<os.length:=by simpa[D.ok]using ok
  rw[List.getElem?_eq_getElem hC]at e
  cases e
  rw[← mR o0 _ (List.getElem?_eq_getElem hC)]
  exact RD.fS (s:=s0) o0 (by omega) ((congrArg Prod.snd (jq o0 _ (List.getElem?_eq_getElem hC))).trans hm)
 |gi f ds vs hl _ ih=>
  intro d0 e ok
  cases d0<;>simp only[D.db]at e<;>first|(split at e<;>cases e;done)|skip
  all_goals try (cases e;done)
  rename_i f0 Sn
  simp only[D.gi.injEq]at e
  obtain⟨rfl,rfl⟩:=e
  simp only[D.ok]at ok
  rw[fM]at hl ih
  refine .gi _ Sn vs (by simpa using hl) (fun i d v e1 e2=>ih i _ v (by rw[List.getElem?_map,e1];rfl) e2 d rfl (vv ok e1))
 |ptr o off ho hm=>
  intro d0 e ok
  cases d0<;>simp only[D.db]at e<;>first|(cases e;done)|skip
  all_goals try (split at e<;>cases e;done)
  rename_i o0 Vi
  have hC:o0<os.length:=by simpa[D.ok]using ok
  rw[List.getElem?_eq_getElem hC]at e
  cases e
  rw[← mR o0 _ (List.getElem?_eq_getElem hC)]
  exact RD.ptr (s:=s0) o0 _ (by omega) (by rw[show M0.ob o0=_ from congrArg Prod.snd (jq o0 _ (List.getElem?_eq_getElem hC))];exact hm)
 |dL row off b k h1 h2 ih=>
  intro d0 e ok
  cases d0<;>simp only[D.db]at e<;>first|(split at e<;>cases e;done)|skip
  all_goals try (cases e;done)
  rename_i akr Vi
  simp only[D.dL.injEq]at e
  obtain⟨rfl,rfl⟩:=e
  simp only[D.ok]at ok
  rw[fM]at h1 ih
  refine .dL akr Vi b k (fun i d e=>?_) (fun i d u e eu=>?_)
  ·rw[hG];exact h1 i _ (by rw[List.getElem?_map,e];rfl)
  ·rw[hG]at eu;exact ih i _ u (by rw[List.getElem?_map,e];rfl) eu d rfl (vv ok e)
 |jo g z cap hc pR=>
  intro d0 e ok
  cases d0<;>simp only[D.db]at e<;>first|(split at e<;>cases e;done)|skip
  all_goals try (cases e;done)
  rename_i g0 z0 ku
  simp only[D.slice.injEq]at e
  obtain⟨rfl,rfl,e⟩:=e
  have:ku = []:=by cases ku<;>simp[D.nQ]at e;rfl
  subst this
  simp only[D.ok,Bool.and_eq_true]at ok
  exact .jo g0 z0 cap hc (tag ok.1 pR)
 | mg z a cap=>
  intro d0 e ok
  cases d0<;>simp only[D.db]at e<;>first|(split at e<;>cases e;done)|skip
  all_goals try (cases e;done)
  rename_i g0 z0 ku
  simp only[D.slice.injEq]at e
  obtain⟨hg,rfl,e⟩:=e
  have:ku = []:=by cases ku<;>simp[D.nQ]at e;rfl
  subst this
  simp only[D.ok,Bool.and_eq_true]at ok
  have:g0 = .shared:=by
   cases g0 with
   |tok t y=>
    have ht:t<ts.length:=by simpa[Tag.ok]using ok.1
    simp[Tag.db,ht]at hg
   |shared=>rfl
   |_=>simp[Tag.db]at hg
  subst this
  exact .mg _ a cap
 | slice g z rows b k cap hl hs h1 h2 pR ih=>
  intro d0 e ok
  cases d0<;>simp only[D.db]at e<;>first|(split at e<;>cases e;done)|skip
  all_goals try (cases e;done)
  rename_i g0 z0 ku
  simp only[D.slice.injEq]at e
  obtain⟨rfl,rfl,rfl⟩:=e
  simp only[D.ok,Bool.and_eq_true]at ok
  rw[Cp]at hl hs h1 ih pR
  simp only[Cp,List.length_map]at hl pR ⊢
  have ey : ∀ (i:Nat) (row:List D),ku[i]? = some row→(ku.map (D.eT os ts))[i]? = some (D.eT os ts row):=fun i row e=>by rw[List.getElem?_map,e];rfl
  have kI : ∀ (row:List D) (j:Nat) (d:D),row[j]? = some d→(D.eT os ts row)[j]? = some (D.db os ts d):=fun row j d e=>by rw[fM,List.getElem?_map,e];rfl
  refine .slice g0 z0 ku b k cap hl (fun row hr=>?_) (fun i row j d e1 e2=>?_) (fun i row j d u e1 e2 eu=>?_) (tag ok.1 pR)
  ·have:=hs (D.eT os ts row) (List.mem_map.2 ⟨row,hr,rfl⟩)
   rwa [fM,List.length_map]at this
  ·rw[hG];exact h1 i _ j _ (ey i row e1) (kI row j d e2)
  ·rw[hG]at eu;exact ih i _ j _ u (ey i row e1) (kI row j d e2) eu d rfl (vv (ZS ok.2 e1) e2)
 |agg cells vs hl h1 _ ih=>
  intro d0 e ok
  cases d0<;>simp only[D.db]at e<;>first|(split at e<;>cases e;done)|skip
  all_goals try (cases e;done)
  rename_i Sn
  simp only[D.agg.injEq]at e
  subst e
  simp only[D.ok]at ok
  rw[fM]at hl ih
  refine .agg Sn vs (by simpa using hl) h1 (fun i d v e1 e2=>ih i _ v (by rw[List.getElem?_map,e1];rfl) e2 d rfl (vv ok e1))
 |tuple ds vs hl _ ih=>
  intro d0 e ok
  cases d0<;>simp only[D.db]at e<;>first|(split at e<;>cases e;done)|skip
  all_goals try (cases e;done)
  rename_i Sn
  simp only[D.tuple.injEq]at e
  subst e
  simp only[D.ok]at ok
  rw[fM]at hl ih
  refine .tuple Sn vs (by simpa using hl) (fun i d v e1 e2=>ih i _ v (by rw[List.getElem?_map,e1];rfl) e2 d rfl (vv ok e1))
theorem RD.db (hG:M0.G=M.G) (jq : ∀ i,i<s0.ah.length→∃ o,os[i]? = some o∧o<s.ah.length∧M.loc o=M0.loc i)
 (kT : ∀ i,i<s0.aw.length→∃ t,ts[i]? = some t∧t<s.aw.length∧s.aw[t]? = s0.aw[i]? ∧M.be t=M0.be i) {d:D} {v:Value} (h:RD M0 s0 d v):RD M s (d.db os ts) v:=by
 have tag : ∀ {g:Tag} {z len cap:Nat} {base:Option (Nat×Nat)},iP M0 s0 g z len base cap→iP M s (g.db ts) z len base cap:=by
  intro g z len cap base h
  cases g with
  |full=>exact h
  |shared=>exact h
  |tok t y=>
   obtain⟨h1,h2⟩:=h
   obtain⟨t',e,hC,JQ,hb⟩:=kT t h1
   simp only[Tag.db,e]
   refine⟨hC,fun n hn=>?_⟩
   rw[hb]
   exact h2 n (JQ ▸ hn)
 induction h with
 |junk v=>simp only[D.db];exact .junk v
 |int k x=>simp only[D.db];exact .int k x
 |bool b=>simp only[D.db];exact .bool b
 |str l=>simp only[D.db];exact .str l
 |ek=>simp only[D.db];exact .ek
 |ptr o off ho hk=>
  obtain⟨o',e,hC,hm⟩:=jq o ho
  simp only[D.db,e]
  have hb:M.ob o'=M0.ob o:=congrArg Prod.snd hm
  have hm:M.mu o'=M0.mu o:=congrArg Prod.fst hm
  rw[← hm]
  exact .ptr o' off hC (by rw[hb];exact hk)
 |fS o ho hk=>
  obtain⟨o',e,hC,hm⟩:=jq o ho
  simp only[D.db,e]
  have hb:M.ob o'=M0.ob o:=congrArg Prod.snd hm
  have hm:M.mu o'=M0.mu o:=congrArg Prod.fst hm
  rw[← hm]
  exact .fS o' hC (by rw[hb];exact hk)
 |eD z a=>simp only[D.db];exact .eD z a
 |eF z o g len b cap A ho hk ha hl=>
  obtain⟨o',e,hC,hm⟩:=jq o ho
  simp only[D.db,e]
  exact .eF z o' g len b cap A hC ((congrArg Prod.snd hm).trans hk) ha hl
 |fp z o g off b cap A ho hk ha=>
  obtain⟨o',e,hC,hm⟩:=jq o ho
  simp only[D.db,e]
  exact .fp z o' g off b cap A hC ((congrArg Prod.snd hm).trans hk) ha
 |gi f ds vs hl _ ih=>
  simp only[D.db,fM]
  refine .gi f _ vs (by simpa using hl) (fun i d v e1 e2=>?_)
  simp only[List.getElem?_map,Option.map_eq_some_iff]at e1
  obtain⟨d',e1,rfl⟩:=e1
  exact ih i d' v e1 e2
 |val v hv=>simp only[D.db];exact .val v hv
 |fm T o v ho ht hv=>
  obtain⟨o',e,hC,hm⟩:=jq o ho
  simp only[D.db,e]
  have h1:M.mu o'=M0.mu o:=congrArg Prod.fst hm
  have h2:M.ty o'=M0.ty o:=congrArg (fun x=>x.2.ty?) hm
  exact .fm T o' v hC (by rw[h2];exact ht) (by rw[h1];exact hv)
 | dL row off b k h1 h2 ih=>
  simp only[D.db,fM]
  refine .dL _ off b k (fun i d e=>?_) (fun i d u e eu=>?_)
  ·simp only [List.getElem?_map,Option.map_eq_some_iff]at e
   obtain⟨d',e,rfl⟩:=e
   rw[← hG];exact h1 i d' e
  ·simp only [List.getElem?_map,Option.map_eq_some_iff]at e
   obtain⟨d',e,rfl⟩:=e
   rw[← hG]at eu;exact ih i d' u e eu
 |jo g z cap hc ht=>simp only[D.db,D.nQ];exact .jo _ z cap hc (tag ht)
 |mg z a cap=>simp only[D.db,D.nQ,Tag.db];exact .mg z a cap
 | slice g z rows b k cap hl hs h1 h2 ht ih=>
  simp only[D.db,Cp]
  have hlen:(rows.map (D.eT os ts)).length=rows.length:=by simp
  have key:=RD.slice (M:=M) (s:=s) (g.db ts) z (rows.map (D.eT os ts)) b k cap (by rw[hlen];exact hl) (fun row hr=>by
   obtain⟨jt,h',rfl⟩:=List.mem_map.1 hr
   rw[fM,List.length_map];exact hs jt h')
   (fun i row j d e1 e2=>by
    simp only[List.getElem?_map,Option.map_eq_some_iff]at e1
    obtain⟨jt,e1,rfl⟩:=e1
    rw[fM]at e2
    simp only[List.getElem?_map,Option.map_eq_some_iff]at e2
    obtain⟨d',e2,rfl⟩:=e2
    rw[← hG];exact h1 i jt j d' e1 e2)
   (fun i row j d u e1 e2 eu=>by
    simp only[List.getElem?_map,Option.map_eq_some_iff]at e1
    obtain⟨jt,e1,rfl⟩:=e1
    rw[fM]at e2
    simp only[List.getElem?_map,Option.map_eq_some_iff]at e2
    obtain⟨d',e2,rfl⟩:=e2
    rw[← hG]at eu;exact ih i jt j d' u e1 e2 eu)
   (by rw[hlen];exact tag ht)
  rw[hlen]at key
  exact key
 |agg cells vs hl h1 _ ih=>
  simp only[D.db,fM]
  refine .agg _ vs (by simpa using hl) h1 (fun i d v e1 e2=>?_)
  simp only[List.getElem?_map,Option.map_eq_some_iff]at e1
  obtain⟨d',e1,rfl⟩:=e1
  exact ih i d' v e1 e2
 |tuple ds vs hl _ ih=>
  simp only[D.db,fM]
  refine .tuple _ vs (by simpa using hl) (fun i d v e1 e2=>?_)
  simp only[List.getElem?_map,Option.map_eq_some_iff]at e1
  obtain⟨d',e1,rfl⟩:=e1
  exact ih i d' v e1 e2
def kB {α:Type} : List Nat→List α→List α→List α
 | [],new,l=>l++new
 |_::_,[],l=>l
 |o::os,x::xs,l=>kB os xs (l.set o x)
def kj (os:List Nat) (n k:Nat):List Nat:=os++(List.range k).map (n + ·)
theorem xk {α:Type} : ∀ (os:List Nat) (xs l:List α),os.length≤xs.length→(kB os xs l).length=l.length+(xs.length - os.length)
 | [],xs,l,_=>by simp[kB]
 |o::os,[],l,h=>by simp at h
 |o::os,x::xs,l,h=>by
  simp only[kB]
  rw[xk os xs _ (by simpa using h)]
  simp
theorem DN {α:Type} : ∀ (os:List Nat) (xs l:List α),os.length≤xs.length→os.Nodup→(∀ o∈os,o<l.length)→
 (∀ (i:Nat) (o:Nat),os[i]? = some o→(kB os xs l)[o]? = xs[i]?)∧(∀ o,o<l.length→o∉os→(kB os xs l)[o]? = l[o]?)∧
 (∀ k,(kB os xs l)[l.length+k]? = xs[os.length+k]?)
 | [],xs,l,_,_,_=>by
  refine⟨by simp,fun o ho _=>by simp only[kB];rw[List.getElem?_append_left ho],fun k=>by simp only[kB];rw[List.getElem?_append_right (by omega)];simp⟩
 |o::os,[],l,h,_,_=>by simp at h
 | o::os,x::xs,l,h,hn,hC=>by
  simp only[List.nodup_cons]at hn
  have Ao : ∀ q∈os,q<(l.set o x).length:=fun q hq=>by simpa using hC q (by simp[hq])
  obtain⟨h1,h2,h3⟩:=DN os xs (l.set o x) (by simpa using h) hn.2 Ao
  have ho:o<l.length:=hC o (by simp)
  simp only[kB]
  refine⟨fun i q e=>?_,fun q hq Br=>?_,fun k=>?_⟩
  ·cases i with
   |zero=>
    simp only[List.getElem?_cons_zero,Option.some.injEq]at e
    subst e
    rw[h2 o (by simpa using ho) hn.1]
    simp[ho]
   |succ i=>simpa using h1 i q (by simpa using e)
  ·have vr:q≠o:=fun e=>Br (by simp [e])
   rw[h2 q (by simpa using hq) (fun h=>Br (by simp[h])),List.getElem?_set_ne (Ne.symm vr)]
  ·have:=h3 k
   simp only[List.length_set]at this
   rw[this]
   simp only[List.length_cons]
   rw[show os.length+1+k=(os.length+k)+1 by omega];simp
theorem Dl (os:List Nat) (n k i:Nat):(kj os n k)[i]? = if i<os.length then os[i]? else if i<os.length+k then some (n+(i - os.length))else none:=by
 unfold kj
 split
 ·rename_i h;rw[List.getElem?_append_left h]
 ·rename_i h
  rw[List.getElem?_append_right (by omega)]
  split
  ·rename_i h2
   rw[List.getElem?_map,List.getElem?_range (by omega)];rfl
  ·rename_i h2
   rw[List.getElem?_eq_none]
   simp;omega
def posOf:List Nat→Nat→Option Nat
 | [],_=>none
 |x::r,o=>if x=o then some 0 else(posOf r o).map (· + 1)
theorem iQ : ∀ {l:List Nat} {o i:Nat},posOf l o=some i→l[i]? = some o
 | x::r,o,i,h=>by
  simp only[posOf]at h
  split at h
  ·rename_i e;cases h;simp[e]
  ·cases hp:posOf r o with
   |none=>rw[hp]at h;cases h
   |some j=>rw[hp]at h;cases h;simpa using iQ hp
theorem l6 : ∀ {l:List Nat} {o i:Nat},l.Nodup→l[i]? = some o→posOf l o=some i
 | x::r,o,i,hn,h=>by
  simp only[List.nodup_cons]at hn
  simp only[posOf]
  cases i with
  |zero=>simp at h;simp[h]
  |succ i=>
   simp at h
   have:x≠o:=fun e=>hn.1 (by rw[e];exact List.mem_of_getElem? h)
   rw[if_neg this,l6 hn.2 h];rfl
end
end Go.Abs
namespace Go.Abs
theorem Ap {l:List Nat} {n k:Nat} (h:l.Nodup) (hl : ∀ o∈l,o<n):(kj l n k).Nodup:=by
 unfold kj
 rw[List.nodup_append]
 refine⟨h, ?_,fun a ha b hb=>?_⟩
 ·rw [List.nodup_iff_pairwise_ne,List.pairwise_map]
  exact List.Pairwise.imp (fun h=>by omega) (List.nodup_iff_pairwise_ne.1 List.nodup_range)
 ·obtain⟨c,hc,rfl⟩:=List.mem_map.1 hb
  have:=hl a ha
  omega
def gL (M:Map) (os ts:List Nat):Map:=⟨M.G,fun i=>M.loc (os.getD i 0),fun i=>M.be (ts.getD i 0)⟩
def yn (M M0:Map) (os ts:List Nat):Map:=
 ⟨M0.G,fun o=>match posOf os o with|some i=>M0.loc i|none=>M.loc o,fun t=>match posOf ts t with|some i=>M0.be i|none=>M.be t⟩
section
variable {P:Program} {M:Map} {s s0:St} {w:World} {os ts:List Nat}
theorem ve {l:List Nat} {i o:Nat} (h:l[i]? = some o):l.getD i 0=o:=by simp[List.getD,h]
theorem Rel.sub (r:Rel M s w) (uE:os.Nodup) (vw:ts.Nodup) (jT : ∀ o∈os,o<s.ah.length)
 (ho:s0.ah.length=os.length) (xl : ∀ (i o:Nat) (ds:List D),os[i]? = some o→s0.ah[i]? = some ds→s.ah[o]? = some (D.eT os ts ds)∧D.bH os.length ts.length ds=true)
 (ht:s0.aw.length=ts.length) (tZ : ∀ (i t:Nat),ts[i]? = some t→s0.aw[i]? = s.aw[t]?):Rel (gL M os ts) s0 w:=by
 have nth : ∀ i,i<s0.ah.length→∃ o,os[i]? = some o∧o<s.ah.length:=fun i hi=>⟨os[i],List.getElem?_eq_getElem (by omega),jT _ (List.getElem_mem _)⟩
 have loc : ∀ (i:Nat) o,os[i]? = some o→(gL M os ts).loc i=M.loc o:=fun i o h=>by simp only[gL,ve h]
 have mu : ∀ (i:Nat) o,os[i]? = some o→(gL M os ts).mu i=M.mu o:=fun i o h=>congrArg Prod.fst (loc i o h)
 have be : ∀ (i:Nat) t,ts[i]? = some t→(gL M os ts).be i=M.be t:=fun i t h=>by simp only[gL,ve h]
 have Yi : ∀ t,s0.live t→∃ t',ts[t]? = some t'∧s.live t':=fun t ⟨n,hn⟩=>by
  have hC:=(List.getElem?_eq_some_iff.1 hn).1
  have e:ts[t]? = some ts[t]:=List.getElem?_eq_getElem (by omega)
  exact⟨_,e,n,by rw[← tZ t _ e];exact hn⟩
 refine⟨r.comm,fun i ds e=>?_,fun i hi off=>?_,fun i i' hi ic e=>?_,fun t n e=>?_,fun t b c z i hl e hi=>?_,fun t t' b c z c' z' h h' e e'=>?_⟩
 ·obtain⟨o,h1,_⟩:=nth i (List.getElem?_eq_some_iff.1 e).1
  obtain⟨h2,h3⟩:=xl i o ds h1 e
  obtain⟨vs,T,g1,g2,g3,g4⟩:=r.obj o _ h2
  refine⟨vs,T,by rw[loc i o h1];exact g1,by rw[fM]at g2;simpa using g2,⟨g3.1,by rw[show(gL M os ts).ty i=M.ty o from congrArg (fun x=>x.2.ty?) (loc i o h1)];exact g3.2⟩,fun j d v e1 e2=>?_⟩
  exact RD.Cq (M:=M) (M0:=gL M os ts) (s:=s) rfl loc ho be tZ ht (g4 j (d.db os ts) v (by rw[fM,List.getElem?_map,e1];rfl) e2) d rfl (vv h3 e1)
 ·obtain⟨o,h1,h2⟩:=nth i hi
  rw[mu i o h1];exact r.jV o h2 off
 ·obtain⟨o,h1,h2⟩:=nth i hi
  obtain⟨o',sk,uF⟩:=nth i' ic
  rw[mu i o h1,mu i' o' sk]at e
  have:=r.inj o o' h2 uF e
  subst this
  have a:=l6 uE h1
  have b:=l6 uE sk
  rw[a]at b;cases b;rfl
 ·obtain⟨t',h1,h2⟩:=Yi t ⟨n,e⟩
  rw[be t t' h1]
  exact r.tok t' n (by rw[← tZ t t' h1];exact e)
 ·obtain⟨t',h1,h2⟩:=Yi t hl
  obtain⟨o,h3,h4⟩:=nth i hi
  rw[be t t' h1]at e
  rw[mu i o h3]
  exact r.fc t' b c z o h2 e h4
 ·obtain⟨q,h1,h2⟩:=Yi t h
  obtain⟨q',sk,uF⟩:=Yi t' h'
  rw[be t q h1]at e
  rw[be t' q' sk]at e'
  have:=r.fU q q' b c z c' z' h2 uF e e'
  subst this
  have a:=l6 vw h1
  have b:=l6 vw sk
  rw[a]at b;cases b;rfl
end
def St.back (s:St) (os ts:List Nat) (s':St):St:=
 ⟨kB os (s'.ah.map (D.eT (kj os s.ah.length (s'.ah.length - os.length)) (kj ts s.aw.length (s'.aw.length - ts.length)))) s.ah,kB ts s'.aw s.aw⟩
def D.back (s:St) (os ts:List Nat) (s':St) (d:D):D:=
 d.db (kj os s.ah.length (s'.ah.length - os.length)) (kj ts s.aw.length (s'.aw.length - ts.length))
theorem bP.frame {P:Program} {f:FuncId} {OM args:List D} {s s0:St} {Q0 Q:D→St→Prop} (os ts:List Nat) (h:bP P f OM s0 Q0) (uE:os.Nodup) (vw:ts.Nodup) (jT : ∀ o∈os,o<s.ah.length) (x9 : ∀ t∈ts,t<s.aw.length)
 (ho:s0.ah.length=os.length) (xl : ∀ (i o:Nat) (ds:List D),os[i]? = some o→s0.ah[i]? = some ds→s.ah[o]? = some (D.eT os ts ds)∧D.bH os.length ts.length ds=true)
 (ht:s0.aw.length=ts.length) (tZ : ∀ (i t:Nat),ts[i]? = some t→s0.aw[i]? = s.aw[t]?)
 (zr:args=D.eT os ts OM) (pQ:D.bH os.length ts.length OM=true) (k : ∀ d s',Q0 d s'→Q (d.back s os ts s') (s.back os ts s')):bP P f args s Q:=by
 intro M w fI r kM eg ha
 have r0:=r.sub uE vw jT ho xl ht tZ
 have loc : ∀ (i:Nat) o,os[i]? = some o→(gL M os ts).loc i=M.loc o:=fun i o h=>by simp only[gL,ve h]
 have mu : ∀ (i:Nat) o,os[i]? = some o→(gL M os ts).mu i=M.mu o:=fun i o h=>congrArg Prod.fst (loc i o h)
 have be : ∀ (i:Nat) t,ts[i]? = some t→(gL M os ts).be i=M.be t:=fun i t h=>by simp only[gL,ve h]
 subst zr
 have acO:Laid (gL M os ts) s0 w:=by
  intro g cs hg
  obtain⟨h1,h2,h3⟩:=kM g cs hg
  refine⟨h1,fun o hC=>?_,fun t c z hl hb=>?_⟩
  ·obtain⟨o',nE⟩ : ∃ o',os[o]? = some o':=⟨_,List.getElem?_eq_getElem (by omega)⟩
   rw[mu o o' nE]
   exact h2 o' (jT o' (List.mem_of_getElem? nE))
  ·obtain⟨n,hn⟩:=hl
   have hC:=(List.getElem?_eq_some_iff.1 hn).1
   obtain⟨t',Sp⟩ : ∃ t',ts[t]? = some t':=⟨_,List.getElem?_eq_getElem (by omega)⟩
   rw[be t t' Sp]at hb
   exact h3 t' c z ⟨n,by rw[← tZ t t' Sp];exact hn⟩ hb
 have hc:=h (gL M os ts) w fI r0 acO (by rw[eg,fM,List.length_map]) (fun i d v e1 e2=>
  RD.Cq (M:=M) (M0:=gL M os ts) (s:=s) rfl loc ho be tZ ht (ha i (d.db os ts) v (by rw[fM,List.getElem?_map,e1];rfl) e2) d rfl (vv pQ e1))
 refine hc.mono ?_
 rintro en w' ⟨yo,d,v,s',rfl,hq,e,r',hv⟩
 have JV:=e.le.n
 have Ez:=e.le.t
 generalize ON:kj os s.ah.length (s'.ah.length - os.length)=lM
 generalize OO:kj ts s.aw.length (s'.aw.length - ts.length)=o6
 have nd:lM.Nodup:=by rw[← ON];exact Ap uE jT
 have ndt:o6.Nodup:=by rw[← OO];exact Ap vw x9
 have OP : ∀ i,lM[i]? = if i<os.length then os[i]? else if i<s'.ah.length then some (s.ah.length+(i - os.length))else none:=fun i=>by
  rw[← ON,Dl];split
  ·rfl
  ·rw[show os.length+(s'.ah.length - os.length)=s'.ah.length by omega]
 have OQ : ∀ i,o6[i]? = if i<ts.length then ts[i]? else if i<s'.aw.length then some (s.aw.length+(i - ts.length))else none:=fun i=>by
  rw[← OO,Dl];split
  ·rfl
  ·rw[show ts.length+(s'.aw.length - ts.length)=s'.aw.length by omega]
 have hsb:s.back os ts s' = ⟨kB os (s'.ah.map (D.eT lM o6)) s.ah,kB ts s'.aw s.aw⟩:=by simp only[St.back,ON,OO]
 have hdb:d.back s os ts s'=d.db lM o6:=by simp only[D.back,ON,OO]
 have mC:=k d s' hq
 rw[hsb,hdb]at mC
 obtain⟨p1,p2,p3⟩:=DN os (s'.ah.map (D.eT lM o6)) s.ah (by simp;omega) uE jT
 obtain⟨q1,q2,q3⟩:=DN ts s'.aw s.aw (by omega) vw x9
 have J1:=xk os (s'.ah.map (D.eT lM o6)) s.ah (by simp;omega)
 have J2:=xk ts s'.aw s.aw (by omega)
 simp only[List.length_map]at J1
 generalize Al:(⟨kB os (s'.ah.map (D.eT lM o6)) s.ah,kB ts s'.aw s.aw⟩:St)=s2 at mC
 have so:s2.ah=kB os (s'.ah.map (D.eT lM o6)) s.ah:=by rw[← Al]
 have st:s2.aw=kB ts s'.aw s.aw:=by rw[← Al]
 -- the framed objects
 have fo : ∀ (i o:Nat),lM[i]? = some o→o<s2.ah.length∧s2.ah[o]? = (s'.ah[i]?).map (D.eT lM o6)∧i<s'.ah.length∧(i<os.length→o<s.ah.length∧os[i]? = some o)∧(os.length≤i→s.ah.length≤o):=by
  intro i o hi
  rw[OP]at hi
  split at hi
  ·rename_i h1
   have hC:=jT o (List.mem_of_getElem? hi)
   refine⟨by rw[so,J1];omega,by rw[so,p1 i o hi,List.getElem?_map],by omega,fun _=>⟨hC,hi⟩,fun h=>by omega⟩
  ·split at hi
   ·rename_i h1 h2
    cases hi
    refine⟨by rw[so,J1];omega, ?_,h2,fun h=>by omega,fun _=>by omega⟩
    rw[so,p3,List.getElem?_map,show os.length+(i - os.length)=i by omega]
   ·cases hi
 have ft : ∀ (i t:Nat),o6[i]? = some t→t<s2.aw.length∧s2.aw[t]? = s'.aw[i]? ∧i<s'.aw.length∧(i<ts.length→t<s.aw.length∧ts[i]? = some t)∧(ts.length≤i→s.aw.length≤t):=by
  intro i t hi
  rw[OQ]at hi
  split at hi
  ·rename_i h1
   have hC:=x9 t (List.mem_of_getElem? hi)
   refine⟨by rw[st,J2];omega,by rw[st,q1 i t hi],by omega,fun _=>⟨hC,hi⟩,fun h=>by omega⟩
  ·split at hi
   ·rename_i h1 h2
    cases hi
    refine⟨by rw[st,J2];omega, ?_,h2,fun h=>by omega,fun _=>by omega⟩
    rw[st,q3,show ts.length+(i - ts.length)=i by omega]
   ·cases hi
 -- all others
 have uo : ∀ o,o<s2.ah.length→posOf lM o=none→o<s.ah.length∧o∉os∧s2.ah[o]? = s.ah[o]? :=by
  intro o hC hp
  have nR : ∀ i,lM[i]? ≠some o:=fun i hi=>by rw[l6 nd hi]at hp;cases hp
  have h1:o<s.ah.length:=by
   rcases Nat.lt_or_ge o s.ah.length with h|h
   ·exact h
   ·exfalso
    rw[so,J1]at hC
    refine nR (os.length+(o - s.ah.length)) ?_
    rw[OP,if_neg (by omega),if_pos (by omega)]
    congr 1;omega
  have h2:o∉os:=fun hm=>by
   obtain⟨i,hi⟩:=List.mem_iff_getElem?.1 hm
   have qX:=(List.getElem?_eq_some_iff.1 hi).1
   exact nR i (by rw[OP,if_pos qX];exact hi)
  exact⟨h1,h2,by rw[so,p2 o h1 h2]⟩
 have ut : ∀ t,t<s2.aw.length→posOf o6 t=none→t<s.aw.length∧t∉ts∧s2.aw[t]? = s.aw[t]? :=by
  intro t hC hp
  have nR : ∀ i,o6[i]? ≠some t:=fun i hi=>by rw[l6 ndt hi]at hp;cases hp
  have h1:t<s.aw.length:=by
   rcases Nat.lt_or_ge t s.aw.length with h|h
   ·exact h
   ·exfalso
    rw[st,J2]at hC
    refine nR (ts.length+(t - s.aw.length)) ?_
    rw[OQ,if_neg (by omega),if_pos (by omega)]
    congr 1;omega
  have h2:t∉ts:=fun hm=>by
   obtain⟨i,hi⟩:=List.mem_iff_getElem?.1 hm
   have qX:=(List.getElem?_eq_some_iff.1 hi).1
   exact nR i (by rw[OQ,if_pos qX];exact hi)
  exact⟨h1,h2,by rw[st,q2 t h1 h2]⟩
 generalize Sr:yn M yo lM o6=M2
 have mG:yo.G=M2.G:=by rw[← Sr];rfl
 have lo : ∀ (i o:Nat),lM[i]? = some o→M2.loc o=yo.loc i:=fun i o hi=>by rw[← Sr];simp only[yn,l6 nd hi]
 have Yj : ∀ o,posOf lM o=none→M2.loc o=M.loc o:=fun o hp=>by rw[← Sr];simp only[yn,hp]
 have mo : ∀ (i o:Nat),lM[i]? = some o→M2.mu o=yo.mu i:=fun i o hi=>congrArg Prod.fst (lo i o hi)
 have J3 : ∀ o,posOf lM o=none→M2.mu o=M.mu o:=fun o hp=>congrArg Prod.fst (Yj o hp)
 have mt : ∀ (i t:Nat),o6[i]? = some t→M2.be t=yo.be i:=fun i t hi=>by rw[← Sr];simp only[yn,l6 ndt hi]
 have J4 : ∀ t,posOf o6 t=none→M2.be t=M.be t:=fun t hp=>by rw[← Sr];simp only[yn,hp]
 have le:Le M s M2 s2:=by
  refine⟨fun b o v hg=>by rw[← mG];exact e.le.G b o v hg,by rw[so,J1];omega,fun o hC=>?_,by rw[st,J2];omega,fun t n' hC mU=>?_⟩
  ·cases hp:posOf lM o with
   |none=>rw[Yj o hp];exact .refl _
   | some i=>
    have hi:=iQ hp
    rw[lo i o hi]
    obtain⟨_,_,_,h1,h2⟩:=fo i o hi
    have qX:i<os.length:=by
     rcases Nat.lt_or_ge i os.length with h|h
     ·exact h
     ·have:=h2 h;omega
    have h3:=e.le.loc i (by omega)
    rw[loc i o (h1 qX).2]at h3
    exact h3
  ·cases hp:posOf o6 t with
   |none=>
    obtain⟨_,_,h3⟩:=ut t (by rw[st,J2];omega) hp
    rw[h3]at mU
    exact⟨n',mU,Nat.le_refl _,fun _=>J4 t hp⟩
   | some i=>
    have hi:=iQ hp
    obtain⟨_,g1,_,h1,h2⟩:=ft i t hi
    have qX:i<ts.length:=by
     rcases Nat.lt_or_ge i ts.length with h|h
     ·exact h
     ·have:=h2 h;omega
    rw[g1]at mU
    obtain⟨n,h3,h4,h5⟩:=e.le.tk i n' (by omega) mU
    refine⟨n,by rw[← tZ i t (h1 qX).2];exact h3,h4,fun eq=>?_⟩
    rw[mt i t hi,h5 eq,be i t (h1 qX).2]
 have acP : ∀ {d:D} {v:Value},RD yo s' d v→RD M2 s2 (d.db lM o6) v:=fun hd=>RD.db mG
  (fun i hi=>by
   obtain⟨o,ho⟩ : ∃ o,lM[i]? = some o:=by
    rw[OP];split
    ·rename_i h1;exact⟨_,List.getElem?_eq_getElem h1⟩
    ·exact⟨_,rfl⟩
   exact⟨o,ho,(fo i o ho).1,lo i o ho⟩)
  (fun i hi=>by
   obtain⟨t,ht⟩ : ∃ t,o6[i]? = some t:=by
    rw[OQ];split
    ·rename_i h1;exact⟨_,List.getElem?_eq_getElem h1⟩
    ·exact⟨_,rfl⟩
   exact⟨t,ht,(ft i t ht).1,(ft i t ht).2.1,mt i t ht⟩) hd
 -- blocks that the callee did not know
 have IE : ∀ i,s0.live i→∃ t,ts[i]? = some t∧s.live t:=fun i ⟨n,hn⟩=>by
  have hC:=(List.getElem?_eq_some_iff.1 hn).1
  have e1:ts[i]? = some ts[i]:=List.getElem?_eq_getElem (by omega)
  exact⟨_,e1,n,by rw[← tZ i _ e1];exact hn⟩
 have OR : ∀ b,b<w.heap.size→(∀ (i o:Nat),os[i]? = some o→M.mu o≠b)→(∀ (i t:Nat) c z,ts[i]? = some t→s.live t→M.be t≠some (b,c,z))→
  w'.heap[b]? = w.heap[b]? ∧∀ off,yo.G b off=M.G b off:=by
  intro b hb h1 h2
  refine⟨e.kept b hb (fun i hi=>?_) (fun i c z hl=>?_),fun off=>?_⟩
  ·have e1:os[i]? = some os[i]:=List.getElem?_eq_getElem (by omega)
   rw[mu i _ e1];exact h1 i _ e1
  ·obtain⟨t,e1,hC⟩:=IE i hl
   rw[be i t e1];exact h2 i t c z e1 hC
  ·apply Classical.byContradiction
   intro fi
   rcases e.sm b off fi with h3|⟨i,c,z,hl,h3⟩
   ·omega
   ·obtain⟨t,e1,hC⟩:=IE i hl
    rw[be i t e1]at h3
    exact h2 i t c z e1 hC h3
 have Yk : ∀ o,o<s.ah.length→o∉os→w'.heap[M.mu o]? = w.heap[M.mu o]? ∧∀ off,yo.G (M.mu o) off=M.G (M.mu o) off:=fun o hC nR=>
  OR _ (r.qu hC) (fun i o' h1 h2=>nR (by rw[← r.inj o' o (jT o' (List.mem_of_getElem? h1)) hC h2];exact List.mem_of_getElem? h1))
   (fun i t c z _ hl h2=>r.fc t _ c z o hl h2 hC rfl)
 have agR : ∀ t b c z,s.live t→t∉ts→M.be t=some (b,c,z)→w'.heap[b]? = w.heap[b]? ∧∀ off,yo.G b off=M.G b off:=fun t b c z hl nR hb=>
  OR b (r.sO hl hb) (fun i o h1=>r.fc t b c z o hl hb (jT o (List.mem_of_getElem? h1)))
   (fun i t' c' z' h1 mD h2=>nR (by rw[r.fU t t' b c z c' z' hl mD hb h2];exact List.mem_of_getElem? h1))
 have lv : ∀ t,s2.live t→(∃ i,o6[i]? = some t∧s'.live i)∨(posOf o6 t=none∧s.live t∧t∉ts):=by
  rintro t ⟨n,hn⟩
  cases hp:posOf o6 t with
  |none=>
   obtain⟨h1,h2,h3⟩:=ut t (List.getElem?_eq_some_iff.1 hn).1 hp
   exact .inr ⟨rfl,⟨n,by rw[← h3];exact hn⟩,h2⟩
  |some i=>
   have hi:=iQ hp
   exact .inl ⟨i,hi,n,by rw[← (ft i t hi).2.1];exact hn⟩
 -- where a framed object lies
 have Yl : ∀ (i o:Nat),lM[i]? = some o→(o<s.ah.length∧o∈os∧yo.mu i=M.mu o)∨w.heap.size≤yo.mu i:=by
  intro i o hi
  obtain⟨_,_,h1,h2,h3⟩:=fo i o hi
  rcases e.mo h1 with ⟨h4,h5⟩|h4
  ·have h:i<os.length:=by omega
   exact .inl ⟨(h2 h).1,List.mem_of_getElem? (h2 h).2,by rw[h5,mu i o (h2 h).2]⟩
  ·exact .inr h4
 have Ym : ∀ (i t b c z:Nat),o6[i]? = some t→s'.live i→yo.be i=some (b,c,z)→(s.live t∧t∈ts∧∃ c' z',M.be t=some (b,c',z'))∨w.heap.size≤b:=by
  intro i t b c z hi hl hb
  rcases e.qF i b c z hl hb with ⟨h1,c',z',h2⟩|h1
  ·obtain⟨t',e1,hC⟩:=IE i h1
   have qX:=(List.getElem?_eq_some_iff.1 e1).1
   obtain⟨_,_,_,h3,_⟩:=ft i t hi
   have:=(h3 qX).2
   rw[e1]at this;cases this
   rw[be i _ e1]at h2
   exact .inl ⟨hC,List.mem_of_getElem? e1,c',z',h2⟩
  ·exact .inr h1
 refine⟨M2,d.db lM o6,v,s2,rfl,mC, ?_, ?_,acP hv⟩
 ·-- Ext
  refine⟨le,fun b hb h1 h2=>?_,fun o h1 h2=>?_,fun t b c z hl hb=>?_,fun b off fi=>?_,e.size,e.os,e.tape,e.output⟩
  ·exact(OR b hb (fun i o h3=>h1 o (jT o (List.mem_of_getElem? h3))) (fun i t c z _ hl=>h2 t c z hl)).1
  ·cases hp:posOf lM o with
   |none=>
    have:=(uo o h2 hp).1
    rcases h1 with h1|h1
    ·omega
    ·exact(h1 (J3 o hp)).elim
   | some i=>
    have hi:=iQ hp
    rw[mo i o hi]at h1 ⊢
    rcases Yl i o hi with ⟨h3,_,h5⟩|h3
    ·rcases h1 with h1 | h1
     ·omega
     ·exact(h1 h5).elim
    ·exact h3
  ·rcases lv t hl with ⟨i,hi,mD⟩ | ⟨hp,mD,_⟩
   ·rw [mt i t hi]at hb
    rcases Ym i t b c z hi mD hb with ⟨h1,_,h2⟩|h1
    ·exact .inl ⟨h1,h2⟩
    ·exact .inr h1
   ·rw [J4 t hp]at hb
    exact .inl ⟨mD,c,z,hb⟩
  ·rw [← mG]at fi
   rcases e.sm b off fi with h1|⟨i,c,z,hl,hb⟩
   ·exact .inl h1
   ·obtain⟨t,e1,hC⟩:=IE i hl
    rw[be i t e1]at hb
    exact .inr ⟨t,c,z,hC,hb⟩
 ·-- Rel
  refine⟨fun b o v hg=>r'.comm b o v (by rw[mG];exact hg),fun o ds Bl=>?_,fun o hC off=>?_,fun o o' hC Ao heq=>?_,fun t n hn=>?_,fun t b c z o hl hb hC=>?_,fun t t' b c z c' z' hl mD hb si=>?_⟩
  ·cases hp:posOf lM o with
   |some i=>
    have hi:=iQ hp
    obtain⟨_,g1,_⟩:=fo i o hi
    rw[g1]at Bl
    obtain⟨qS,h1,rfl⟩:=Option.map_eq_some_iff.1 Bl
    obtain⟨vs,T,h2,h3,h4,h5⟩:=r'.obj i qS h1
    refine⟨vs,T,by rw[lo i o hi];exact h2,by rw[fM];simpa using h3,⟨h4.1,by rw[show M2.ty o=yo.ty i from congrArg (fun x=>x.2.ty?) (lo i o hi)];exact h4.2⟩,fun j d v e1 e2=>?_⟩
    rw[fM]at e1
    simp only[List.getElem?_map,Option.map_eq_some_iff]at e1
    obtain⟨d',e1,rfl⟩:=e1
    exact acP (h5 j d' v e1 e2)
   |none=>
    obtain⟨h1,h2,h3⟩:=uo o (List.getElem?_eq_some_iff.1 Bl).1 hp
    rw[h3]at Bl
    obtain⟨vs,T,g1,g2,g3,g4⟩:=r.obj o ds Bl
    exact⟨vs,T,by rw[Yj o hp];exact g1.keep (Yk o h1 h2).1,g2,⟨g3.1,by rw[show M2.ty o=M.ty o from congrArg (fun x=>x.2.ty?) (Yj o hp)];exact g3.2⟩,fun j d v e1 e2=>(g4 j d v e1 e2).mono le⟩
  ·cases hp:posOf lM o with
   |some i=>
    have hi:=iQ hp
    rw[mo i o hi, ← mG];exact r'.jV i (fo i o hi).2.2.1 off
   |none=>
    obtain⟨h1,h2,h3⟩:=uo o hC hp
    rw[J3 o hp, ← mG,(Yk o h1 h2).2 off];exact r.jV o h1 off
  ·cases hp:posOf lM o with
   | some i=>
    have hi:=iQ hp
    rw[mo i o hi]at heq
    cases mO:posOf lM o' with
    |some i'=>
     have ic:=iQ mO
     rw[mo i' o' ic]at heq
     have:=r'.inj i i' (fo i o hi).2.2.1 (fo i' o' ic).2.2.1 heq
     subst this
     rw[hi]at ic;cases ic;rfl
    | none=>
     obtain⟨h1,h2,_⟩:=uo o' Ao mO
     rw[J3 o' mO]at heq
     rcases Yl i o hi with ⟨h3,h4,h5⟩|h3
     ·rw [h5]at heq
      have:=r.inj o o' h3 h1 heq
      subst this;exact(h2 h4).elim
     ·have:=r.qu h1;omega
   | none=>
    obtain⟨h1,h2,_⟩:=uo o hC hp
    rw[J3 o hp]at heq
    cases mO:posOf lM o' with
    | some i'=>
     have ic:=iQ mO
     rw[mo i' o' ic]at heq
     rcases Yl i' o' ic with ⟨h3,h4,h5⟩|h3
     ·rw [h5]at heq
      have:=r.inj o o' h1 h3 heq
      subst this;exact(h2 h4).elim
     ·have:=r.qu h1;omega
    |none=>
     obtain⟨sk,_,_⟩:=uo o' Ao mO
     rw[J3 o' mO]at heq
     exact r.inj o o' h1 sk heq
  ·rcases lv t ⟨n,hn⟩with ⟨i,hi,hl⟩ | ⟨hp,hl,nR⟩
   ·rw [mt i t hi, ← mG]
    exact r'.tok i n (by rw[← (ft i t hi).2.1];exact hn)
   ·obtain⟨_,_,h3⟩:=ut t (List.getElem?_eq_some_iff.1 hn).1 hp
    rw[h3]at hn
    rw[J4 t hp]
    rcases r.tok t n hn with h4|⟨b,cap,size,vs,T,g1,g2,g3,g4,g5⟩
    ·exact .inl h4
    ·obtain⟨k1,k2⟩:=agR t b cap size hl nR g1
     exact .inr ⟨b,cap,size,vs,T,g1,by rw[k1];exact g2,g3,g4,fun off ho=>by rw[← mG,k2 off];exact g5.1 off ho,g5.2⟩
  ·rcases lv t hl with ⟨i,hi,mD⟩ | ⟨hp,mD,nR⟩
   ·rw [mt i t hi]at hb
    cases J5:posOf lM o with
    |some j=>
     have hj:=iQ J5
     rw[mo j o hj]
     exact r'.fc i b c z j mD hb (fo j o hj).2.2.1
    |none=>
     obtain⟨h1,h2,_⟩:=uo o hC J5
     rw[J3 o J5]
     rcases Ym i t b c z hi mD hb with ⟨h3,_,c',z',h4⟩|h3
     ·exact r.fc t b c' z' o h3 h4 h1
     ·have:=r.qu h1;omega
   ·rw [J4 t hp]at hb
    cases J5:posOf lM o with
    |some j=>
     have hj:=iQ J5
     rw[mo j o hj]
     rcases Yl j o hj with ⟨h3,_,h5⟩|h3
     ·rw[h5];exact r.fc t b c z o mD hb h3
     ·have:=r.sO mD hb;omega
    |none=>
     obtain⟨h1,_,_⟩:=uo o hC J5
     rw[J3 o J5];exact r.fc t b c z o mD hb h1
  ·rcases lv t hl with ⟨i,hi,Aq⟩ | ⟨hp,hC,nR⟩
   ·rw [mt i t hi]at hb
    rcases lv t' mD with ⟨i',ic,Vj⟩|⟨mO,Ao,Yn⟩
    ·rw [mt i' t' ic]at si
     have:=r'.fU i i' b c z c' z' Aq Vj hb si
     subst this
     rw[hi]at ic;cases ic;rfl
    ·rw [J4 t' mO]at si
     rcases Ym i t b c z hi Aq hb with ⟨h3,h4,c2,z2,h5⟩|h3
     ·have:=r.fU t t' b c2 z2 c' z' h3 Ao h5 si
      subst this;exact(Yn h4).elim
     ·have:=r.sO Ao si;omega
   ·rw [J4 t hp]at hb
    rcases lv t' mD with ⟨i',ic,Vj⟩|⟨mO,Ao,Yn⟩
    ·rw [mt i' t' ic]at si
     rcases Ym i' t' b c' z' ic Vj si with ⟨h3,h4,c2,z2,h5⟩|h3
     ·have:=r.fU t t' b c z c2 z2 hC h3 hb h5
      subst this;exact(nR h4).elim
     ·have:=r.sO hC hb;omega
    ·rw [J4 t' mO]at si
     exact r.fU t t' b c z c' z' hC Ao hb si
end Go.Abs
namespace Go.Abs
def Wk (d d':D):Prop:=∀ (M:Map) (s:St) (v:Value),RD M s d v→RD M s d' v
inductive ju:List D→List D→Prop where
 |nil:ju [] []
 |cons {d d':D} {l l':List D} (h:Wk d d') (t:ju l l'):ju (d::l) (d'::l')
inductive gx:List (List D)→List (List D)→Prop where
 |nil:gx [] []
 |cons {r r':List D} {l l':List (List D)} (h:ju r r') (t:gx l l'):gx (r::l) (r'::l')
theorem Wk.refl (d:D):Wk d d:=fun _ _ _ h=>h
theorem Wk.trans {a b c:D} (h:Wk a b) (k:Wk b c):Wk a c:=fun M s v r=>k M s v (h M s v r)
theorem Wk.junk (d:D):Wk d .junk:=fun _ _ v _=> .junk v
theorem ju.refl : ∀ l,ju l l
 | []=> .nil
 |d::l=> .cons (Wk.refl d) (ju.refl l)
theorem gx.refl : ∀ l,gx l l
 | []=> .nil
 |d::l=> .cons (ju.refl d) (gx.refl l)
theorem ju.len {l l':List D} (h:ju l l'):l.length=l'.length:=by
 induction h with
 |nil=>rfl
 |cons _ _ ih=>simp[ih]
theorem gx.len {l l':List (List D)} (h:gx l l'):l.length=l'.length:=by
 induction h with
 |nil=>rfl
 |cons _ _ ih=>simp[ih]
theorem ju.get {l l':List D} (h:ju l l') : ∀ {i:Nat} {d':D},l'[i]? = some d'→∃ d,l[i]? = some d∧Wk d d':=by
 induction h with
 |nil=>intro i d' e;simp at e
 |cons hd _ ih=>
  intro i d' e
  cases i with
  |zero=>simp at e;subst e;exact⟨_,rfl,hd⟩
  |succ i=>simp at e;simpa using ih e
theorem gx.get {l l':List (List D)} (h:gx l l') : ∀ {i:Nat} {d':List D},l'[i]? = some d'→∃ d,l[i]? = some d∧ju d d':=by
 induction h with
 |nil=>intro i d' e;simp at e
 |cons hd _ ih=>
  intro i d' e
  cases i with
  |zero=>simp at e;subst e;exact⟨_,rfl,hd⟩
  |succ i=>simp at e;simpa using ih e
theorem ju.append {a a' b b':List D} (h:ju a a') (k:ju b b'):ju (a++b) (a'++b'):=by
 induction h with
 |nil=>exact k
 |cons hd _ ih=>exact .cons hd ih
theorem gx.append {a a' b b':List (List D)} (h:gx a a') (k:gx b b'):gx (a++b) (a'++b'):=by
 induction h with
 |nil=>exact k
 |cons hd _ ih=>exact .cons hd ih
theorem Wk.agg {l l':List D} (h:ju l l'):Wk (.agg l) (.agg l'):=by
 intro M s v r
 cases r with
 |agg _ vs hl h1 hr=>
  refine .agg _ vs (by rw[← hl,h.len]) h1 fun i d' u e e2=>?_
  obtain⟨d,e1,hw⟩:=h.get e
  exact hw M s u (hr i d u e1 e2)
theorem Wk.tuple {l l':List D} (h:ju l l'):Wk (.tuple l) (.tuple l'):=by
 intro M s v r
 cases r with
 |tuple _ vs hl hr=>
  refine .tuple _ vs (by rw[← hl,h.len]) fun i d' u e e2=>?_
  obtain⟨d,e1,hw⟩:=h.get e
  exact hw M s u (hr i d u e1 e2)
theorem Wk.rows {g:Tag} {z:Nat} {l l':List (List D)} (h:gx l l'):Wk (.slice g z l) (.slice g z l'):=by
 intro M s v r
 cases r with
 |jo _ _ cap hc ht=>cases h;exact .jo _ _ _ hc ht
 |mg _ a cap=>cases h;exact .mg _ a cap
 | slice _ _ _ b k cap hl hs h1 h2 ht=>
  rw[h.len]
  refine .slice g z l' b k cap (by rw[← h.len];exact hl) (fun row hm=>?_) (fun i row j d e e2=>?_) (fun i row j d u e e2 eu=>?_) (by rw[← h.len];exact ht)
  ·obtain⟨i,hi,he⟩:=List.mem_iff_getElem.1 hm
   obtain⟨r0,g1,g2⟩:=h.get (i:=i) (by rw[List.getElem?_eq_getElem hi,he])
   rw[← g2.len];exact hs r0 (List.mem_of_getElem? g1)
  ·obtain⟨r0,g1,g2⟩:=h.get e
   obtain⟨d0,g3,_⟩:=g2.get e2
   exact h1 i r0 j d0 g1 g3
  ·obtain⟨r0,g1,g2⟩:=h.get e
   obtain⟨d0,g3,g4⟩:=g2.get e2
   exact g4 M s u (h2 i r0 j d0 u g1 g3 eu)
theorem Wk.shared (g:Tag) (z:Nat) (l:List (List D)):Wk (.slice g z l) (.slice .shared z l):=by
 intro M s v r
 cases r with
 |jo _ _ cap hc ht=>exact .jo _ _ _ hc trivial
 |mg _ a cap=>exact .mg _ a cap
 |slice _ _ _ b k cap hl hs h1 h2 ht=>exact .slice _ _ _ b k cap hl hs h1 h2 trivial
theorem Wk.slice {g:Tag} {z:Nat} {l l':List (List D)} (h:gx l l'):Wk (.slice g z l) (.slice .shared z l'):=(Wk.shared g z l).trans (Wk.rows h)
theorem Wk.nil (g:Tag) (z z':Nat):Wk (.slice g z []) (.slice .shared z' []):=by
 intro M s v r
 cases r with
 |jo _ _ cap hc ht=>exact .jo _ _ _ hc trivial
 |mg _ a cap=>exact .mg _ a cap
 |slice _ _ _ b k cap hl hs h1 h2 ht=>exact .slice _ _ [] b k cap hl (by simp) (by simp) (by simp) trivial
theorem Wk.aks (z z':Nat):Wk (.slice .full z []) (.slice .full z' []):=by
 intro M s v r
 cases r with
 |jo _ _ cap hc ht=>exact .jo _ _ _ hc ht
 |slice _ _ _ b k cap hl hs h1 h2 ht=>exact .slice _ _ [] b k cap hl (by simp) (by simp) (by simp) ht
theorem Rel.ou {M:Map} {s:St} {w:World} {ah:List (List D)} (r:Rel M s w) (h:gx s.ah ah):Rel M ⟨ah,s.aw⟩ w∧Le M s M ⟨ah,s.aw⟩:=by
 have le:Le M s M ⟨ah,s.aw⟩:=⟨fun _ _ _ h=>h,Nat.le_of_eq h.len,fun _ _=> .refl _,Nat.le_refl _,fun t n' _ e=>⟨n',e,Nat.le_refl _,fun _=>rfl⟩⟩
 have hl:=h.len
 refine⟨⟨r.comm,fun o ds e=>?_,fun o ho=>r.jV o (by rw[hl];exact ho),fun o o' ho nE=>r.inj o o' (by rw[hl];exact ho) (by rw[hl];exact nE),r.tok,
  fun t b c z o hv e ho=>r.fc t b c z o hv e (by rw[hl];exact ho),r.fU⟩,le⟩
 obtain⟨ds0,g1,g2⟩:=h.get e
 obtain⟨vs,T,h1,h2,h3,h4⟩:=r.obj o ds0 g1
 refine⟨vs,T,h1,by rw[h2,g2.len],h3,fun i d v e1 e2=>?_⟩
 obtain⟨d0,k1,k2⟩:=g2.get e1
 exact(k2 _ _ _ (h4 i d0 v k1 e2)).mono le
theorem Rel.blank {M:Map} {s:St} {w:World} (r:Rel M s w) :
 Rel (M.eW s.aw.length none) {s with aw:=s.aw++ [some 0]} w∧Le M s (M.eW s.aw.length none) {s with aw:=s.aw++ [some 0]}:=by
 have iI : ∀ t,St.live {s with aw:=s.aw++ [some 0]} t→s.live t∨t=s.aw.length:=by
  rintro t ⟨k,hk⟩
  rcases Nat.lt_or_ge t s.aw.length with h|h
  ·rw[List.getElem?_append_left h]at hk;exact .inl ⟨k,hk⟩
  ·have:=(List.getElem?_eq_some_iff.1 hk).1
   simp at this;exact .inr (by omega)
 have hC : ∀ t,s.live t→t<s.aw.length:=fun t ⟨k,hk⟩=>(List.getElem?_eq_some_iff.1 hk).1
 have hold : ∀ t,t<s.aw.length→(M.eW s.aw.length none).be t=M.be t:=fun t h=>by simp[Map.eW];omega
 have dr:(M.eW s.aw.length none).be s.aw.length=none:=by simp[Map.eW]
 have le:Le M s (M.eW s.aw.length none) {s with aw:=s.aw++ [some 0]}:=
  ⟨fun _ _ _ h=>h,Nat.le_refl _,fun _ _=> .refl _,by simp,fun t k h e=>by
   rw[List.getElem?_append_left h]at e
   exact⟨k,e,Nat.le_refl _,fun _=>hold t h⟩⟩
 refine⟨⟨r.comm,fun o ds e=>?_,r.jV,r.inj,fun t k e=>?_,fun t b' c z o hl e nE=>?_,fun t t' b' c z c' z' h h' e e'=>?_⟩,le⟩
 ·obtain⟨fB,T',h3,h4,h5,h6⟩:=r.obj o ds e
  exact⟨fB,T',h3,h4,h5,fun i d v e1 e2=>(h6 i d v e1 e2).mono le⟩
 ·rcases Nat.lt_or_ge t s.aw.length with h | h
  ·rw [List.getElem?_append_left h]at e
   rw[hold t h];exact r.tok t k e
  ·have:=(List.getElem?_eq_some_iff.1 e).1
   simp at this
   have:t=s.aw.length:=by omega
   subst this
   simp at e;subst e
   exact .inl ⟨dr,rfl⟩
 ·rcases iI t hl with h | h
  ·rw[hold t (hC t h)]at e;exact r.fc t b' c z o h e nE
  ·subst h;rw[dr]at e;cases e
 ·rcases iI t h with h | h <;> rcases iI t' h' with h' | h'
  ·rw[hold t (hC t h)]at e;rw[hold t' (hC t' h')]at e';exact r.fU t t' b' c z c' z' h h' e e'
  ·subst h';rw[dr]at e';cases e'
  ·subst h;rw[dr]at e;cases e
  ·omega
theorem RD.own {M:Map} {s:St} {z z':Nat} {v:Value} (h:RD M s (.slice .full z []) v):RD (M.eW s.aw.length none) {s with aw:=s.aw++ [some 0]} (.slice (.tok s.aw.length) z' []) v:=by
 have key : ∀ base:Option (Nat×Nat),iP (M.eW s.aw.length none) {s with aw:=s.aw++ [some 0]} (.tok s.aw.length) z' 0 base 0:=by
  intro base
  refine⟨by simp,fun n e=>?_⟩
  simp at e
  subst e
  exact⟨Nat.le_refl _,fun _=> .inl ⟨by simp[Map.eW],rfl,fun h=>by cases h⟩⟩
 cases h with
 |jo _ _ cap hc ht=>subst hc;exact .jo _ _ _ rfl (key none)
 |slice _ _ _ b k cap hl hs h1 h2 ht=>
  have:cap=0:=ht
  subst this
  exact .slice _ _ [] b k 0 (Nat.le_refl _) (by simp) (by simp) (by simp) (key _)
section
variable {P:Program} {B:e7} {nt:Nat} {Q:Exit→Tm→St→Prop} {tm:Tm} {s:St}
theorem Sem.wkO {ac:AC} (ah:List (List D)) (hw:gx s.ah ah) (h:Sem P B nt ac Q tm ⟨ah,s.aw⟩):Sem P B nt ac Q tm s:=by
 intro c hc act w ⟨M,e,r,ht,h1,h2⟩
 obtain⟨r',le⟩:=r.ou hw
 refine h c hc act w ⟨M,e.trans ⟨le,fun _ _ _ _=>rfl,fun o h1 h2=>?_,fun t b c z hl e=> .inl ⟨hl,c,z,e⟩,fun _ _ h=>(h rfl).elim,Nat.le_refl _,rfl,rfl,rfl⟩,r',fun k=>(ht k).mono le,h1,h2⟩
 simp only[← hw.len]at h2
 exact h1.elim (fun h1=>absurd h2 (Nat.not_lt.2 h1)) fun h1=>(h1 rfl).elim
theorem Bs {M0 M:Map} {s0 s:St} {w0 w:World} (e:Ext M0 s0 w0 M s w) (le:Le M s (M.eW s.aw.length none) {s with aw:=s.aw++ [some 0]}) :
 Ext M0 s0 w0 (M.eW s.aw.length none) {s with aw:=s.aw++ [some 0]} w:=by
 refine e.trans ⟨le,fun _ _ _ _=>rfl,fun o h1 h2=>h1.elim (fun h1=>absurd h2 (Nat.not_lt.2 h1)) (fun h1=>(h1 rfl).elim),fun t b c z hl eq=>?_,fun _ _ h=>(h rfl).elim,Nat.le_refl _,rfl,rfl,rfl⟩
 obtain⟨k,hk⟩:=hl
 rcases Nat.lt_or_ge t s.aw.length with h|h
 ·refine .inl ⟨⟨k,by rw [List.getElem?_append_left h]at hk;exact hk⟩,c,z, ?_⟩
  have:(M.eW s.aw.length none).be t=M.be t:=by simp[Map.eW];omega
  rw[← this];exact eq
 ·have:=(List.getElem?_eq_some_iff.1 hk).1
  simp at this
  have:t=s.aw.length:=by omega
  subst this
  simp[Map.eW]at eq
theorem Sem.pY {ac:AC} (t z':Nat) {z:Nat} (hw:tm.get t = .slice .full z []) (h:Sem P B nt ac Q (tm.set t (.slice (.tok s.aw.length) z' [])) {s with aw:=s.aw++ [some 0]}):Sem P B nt ac Q tm s:=by
 intro c hc act w ⟨M,e,r,ht,h1,h2⟩
 obtain⟨r',le⟩:=r.blank
 refine h c hc act w ⟨_,Bs e le,r',fun k=>?_,h1,h2⟩
 rw[Tm.Cl]
 split
 ·rename_i hk;subst hk;have:=ht k;rw[hw]at this;exact this.own
 ·exact(ht k).mono le
end
def az (P:Program) (f:Nat) (args:List D) (s:St) (d:D) (s':St):Prop:=bP P f args s fun x y=>x=d∧y=s'
def iz (n m:Nat) (res:List (Nat×Option (Bool×Nat))) (d:D) (s':St):Exit→Tm→St→Prop
 | .normal,tm,s| .ret,tm,s=>∃ l,aQ res tm s=some l∧Wk ((aR l).fg n m) d∧gx (s.cut n m).ah s'.ah∧(s.cut n m).aw=s'.aw
 |_,_,_=>False
theorem bP.ou {P:Program} {f:FuncId} {args EJ:List D} {s:St} {Q:D→St→Prop} (ha:ju args EJ) (h:bP P f EJ s Q):bP P f args s Q:=
 fun M w fI r kM hl hr=>h M w fI r kM (by rw[hl,ha.len]) fun i d v e1 e2=>by
  obtain⟨d0,g1,g2⟩:=ha.get e1
  exact g2 _ _ _ (hr i d0 v g1 e2)
theorem bP.IF {P:Program} {f:FuncId} {args:List D} {s:St} {Q Q':D→St→Prop} (h:bP P f args s Q) (hq : ∀ d s1,Q d s1→∃ d' s',Wk d d'∧gx s1.ah s'.ah∧s1.aw=s'.aw∧Q' d' s'):bP P f args s Q':=
 fun M w fI r kM hl ha=>(h M w fI r kM hl ha).mono fun _ _ ⟨M',d,v,s1,h1,h2,h3,h4,h5⟩=>by
  obtain⟨d',s',g1,g2,g3,g4⟩:=hq d s1 h2
  obtain⟨r',le⟩:=h4.ou g2
  have hs:(⟨s'.ah,s1.aw⟩:St)=s':=by rw[g3]
  rw[hs]at r' le
  refine⟨M',d',v,s',h1,g4,h3.trans ⟨le,fun _ _ _ _=>rfl,fun o h1 h2=>?_,fun t b c z hl e=> .inl ⟨by obtain⟨n,hn⟩:=hl;exact⟨n,by rw[g3];exact hn⟩,c,z,e⟩,fun _ _ h=>(h rfl).elim,Nat.le_refl _,rfl,rfl,rfl⟩,r',(g1 _ _ _ h5).mono le⟩
  rw[← g2.len]at h2
  exact h1.elim (fun h1=>absurd h2 (Nat.not_lt.2 h1)) fun h1=>(h1 rfl).elim
theorem az.intro {P:Program} {f:FuncId} {af:AF} {args:List D} {s:St} {d:D} {s':St} (h0 : ∃ fn,P.funcs[f]? = some fn∧cF P fn=some af) (hl:args.length≤af.ntmps)
 (h : ∀ B:e7,B.s=s→Sem P B af.ntmps af.body (iz s.ah.length s.aw.length af.results d s') (mM 0 args) s):az P f args s d s':=by
 obtain⟨fn,hf,hc⟩:=h0
 refine bP.IF (bP.intro (Q:=fun d1 s1=>Wk d1 d∧gx s1.ah s'.ah∧s1.aw=s'.aw) hf hc hl fun B hB=>(h B hB).mono fun e tm s1 hr=>?_) fun d1 s1 ⟨h1,h2,h3⟩=>⟨d,s',h1,h2,h3,rfl,rfl⟩
 subst hB
 cases e with
 |normal=>obtain⟨l,h1,h2,h3,h4⟩:=hr;exact⟨l,h1,_,_,Nat.le_refl _,Nat.le_refl _,h2,h3,h4⟩
 |ret=>obtain⟨l,h1,h2,h3,h4⟩:=hr;exact⟨l,h1,_,_,Nat.le_refl _,Nat.le_refl _,h2,h3,h4⟩
 |exit id=>exact hr.elim
 |goto l=>exact hr.elim
 |panic ch=>exact hr.elim
 |outgrown=>exact hr.elim
theorem az.use {P:Program} {f:FuncId} {args:List D} {s:St} {d:D} {s':St} {Q:D→St→Prop} (h:az P f args s d s') (hq:Q d s'):bP P f args s Q:=
 bP.mono h fun x y ⟨h1,h2⟩=>by subst h1;subst h2;exact hq
mutual
theorem qK (os ts:List Nat) : ∀ d,D.ok 0 0 d=true→D.db os ts d=d
 | .junk,_=>by simp[D.db]
 | .int k n,_=>by simp[D.db]
 | .bool b,_=>by simp[D.db]
 | .str l,_=>by simp[D.db]
 | .ek,_=>by simp[D.db]
 | .val v,_=>by simp[D.db]
 | .fm T o,h=>by simp[D.ok]at h
 | .fS o,h=>by simp[D.ok]at h
 | .eF z o g len,h=>by simp[D.ok]at h
 | .fp o g off,h=>by simp[D.ok]at h
 | .eD z,_=>by simp[D.db]
 | .gi f cs,h=>by
  simp only[D.ok]at h
  simp only[D.db,e8 os ts cs h]
 | .ptr o f,h=>by simp[D.ok]at h
 | .dL r f,h=>by
  simp only[D.ok]at h
  simp only[D.db,e8 os ts r h]
 | .slice g z rows,h=>by
  simp only[D.ok,Bool.and_eq_true]at h
  simp only[D.db,ig os ts rows h.2]
  cases g with
  |tok t y=>simp[Tag.ok]at h
  |full=>rfl
  |shared=>rfl
 | .agg cs,h=>by
  simp only[D.ok]at h
  simp only[D.db,e8 os ts cs h]
 | .tuple cs,h=>by
  simp only[D.ok]at h
  simp only[D.db,e8 os ts cs h]
theorem e8 (os ts:List Nat) : ∀ l,D.bH 0 0 l=true→D.eT os ts l=l
 | [],_=>by simp[D.eT]
 |d::r,h=>by
  simp only[D.bH,Bool.and_eq_true]at h
  simp only[D.eT,qK os ts d h.1,e8 os ts r h.2]
theorem ig (os ts:List Nat) : ∀ l,D.gW 0 0 l=true→D.nQ os ts l=l
 | [],_=>by simp[D.nQ]
 |d::r,h=>by
  simp only[D.gW,Bool.and_eq_true]at h
  simp only[D.nQ,e8 os ts d h.1,ig os ts r h.2]
end
mutual
theorem F9 {n m n' m':Nat} (hn:n≤n') (hm:m≤m') : ∀ d,D.ok n m d=true→D.ok n' m' d=true
 | .junk,_=>rfl
 | .int k n,_=>rfl
 | .bool b,_=>rfl
 | .str l,_=>rfl
 | .ek,_=>rfl
 | .val v,_=>rfl
 | .fm T o,h=>by simp[D.ok]at h ⊢;omega
 | .fS o,h=>by simp[D.ok]at h ⊢;omega
 | .eF z o g len,h=>by simp[D.ok]at h ⊢;omega
 | .fp o g off,h=>by simp[D.ok]at h ⊢;omega
 | .eD z,_=>rfl
 | .gi f cs,h=>by
  simp only[D.ok]at h ⊢
  exact gF hn hm cs h
 | .ptr o f,h=>by simp only[D.ok,decide_eq_true_eq]at h ⊢;omega
 | .dL r f,h=>by
  simp only[D.ok]at h ⊢
  exact gF hn hm r h
 | .slice g z rows,h=>by
  simp only[D.ok,Bool.and_eq_true]at h ⊢
  refine⟨?_,lD hn hm rows h.2⟩
  cases g with
  |tok t y=>simp only[Tag.ok,decide_eq_true_eq]at h ⊢;omega
  |full=>rfl
  |shared=>rfl
 | .agg cs,h=>by
  simp only[D.ok]at h ⊢
  exact gF hn hm cs h
 | .tuple cs,h=>by
  simp only[D.ok]at h ⊢
  exact gF hn hm cs h
theorem gF {n m n' m':Nat} (hn:n≤n') (hm:m≤m') : ∀ l,D.bH n m l=true→D.bH n' m' l=true
 | [],_=>rfl
 |d::r,h=>by
  simp only[D.bH,Bool.and_eq_true]at h ⊢
  exact⟨F9 hn hm d h.1,gF hn hm r h.2⟩
theorem lD {n m n' m':Nat} (hn:n≤n') (hm:m≤m') : ∀ l,D.gW n m l=true→D.gW n' m' l=true
 | [],_=>rfl
 |d::r,h=>by
  simp only[D.gW,Bool.and_eq_true]at h ⊢
  exact⟨gF hn hm d h.1,lD hn hm r h.2⟩
end
def S0:St:=⟨[],[]⟩
section
variable {P:Program} {f:Nat}
theorem az.pure {args:List D} {d:D} (h:az P f args S0 d S0) (ha:D.bH 0 0 args=true) (hd:D.ok 0 0 d=true) (s:St):az P f args s d s:=by
 refine bP.frame [] [] h List.nodup_nil List.nodup_nil (by simp) (by simp) rfl (by simp) rfl (by simp) (by rw[e8 _ _ _ ha]) ha ?_
 rintro _ _ ⟨rfl,rfl⟩
 refine⟨qK _ _ _ hd, ?_⟩
 simp[St.back,kB,S0]
theorem az.kN {args row jt:List D} {d:D} (h:az P f (.ptr 0 0::args) ⟨[row],[]⟩ d ⟨[jt],[]⟩) (ha:D.bH 0 0 args=true) (hr:D.bH 0 0 row=true) (JF:D.bH 0 0 jt=true) (hd:D.ok 0 0 d=true)
 {s:St} {o:Nat} (ho:s.ah[o]? = some row):az P f (.ptr o 0::args) s d ⟨s.ah.set o jt,s.aw⟩:=by
 refine bP.frame [o] [] h (by simp) List.nodup_nil (by simpa using (List.getElem?_eq_some_iff.1 ho).1) (by simp) rfl (fun i o' ds e1 e2=>?_) rfl (by simp) (by simp[D.eT,D.db,e8 _ _ _ ha])
  (by simp[D.bH,D.ok,gF (Nat.zero_le 1) (Nat.le_refl 0) _ ha]) ?_
 ·cases i with
  |zero=>simp at e1 e2;subst e1;subst e2;exact⟨by rw[e8 _ _ _ hr];exact ho,gF (Nat.zero_le 1) (Nat.le_refl 0) _ hr⟩
  |succ i=>simp at e1
 ·rintro _ _ ⟨rfl,rfl⟩
  refine⟨qK _ _ _ hd, ?_⟩
  simp[St.back,kB,e8 _ _ _ JF]
end
end Go.Abs
namespace Go.Abs
theorem X.cf {x:X} {tm bE:Tm} (h : ∀ t∈x.reads,tm.get t=bE.get t):x.ev tm=x.ev bE:=by
 cases x with
 |s t=>exact h t (by simp[X.reads])
 |k d=>rfl
theorem rC {t:Nat} {x:X} : ∀ {l:List X},x∈l→t∈x.reads→t∈n6 l
 | [],h,_=>by cases h
 |y::r,h,ht=>by
  simp only[n6,List.mem_append]
  rcases List.mem_cons.1 h with rfl|h
  ·exact .inl ht
  ·exact .inr (rC h ht)
theorem wG {x:Option X} {tm bE:Tm} (h : ∀ t∈A3 x,tm.get t=bE.get t):x.map (·.ev tm)=x.map (·.ev bE):=by
 cases x with
 |none=>rfl
 |some y=>simp only[Option.map_some];rw[X.cf h]
theorem Dm {o:AO} {tm bE:Tm} {s:St} (h : ∀ t∈o.reads,tm.get t=bE.get t):aO o tm s=aO o bE s:=by
 cases o with
 |mv x=>
  have hx:x.ev tm=x.ev bE:=X.cf fun t ht=>h t (by simp[AO.reads,ht])
  simp only[aO,hx]
 |pick c a b=>
  have hc:c.ev tm=c.ev bE:=X.cf fun t ht=>h t (by simp[AO.reads,ht])
  have ha:a.ev tm=a.ev bE:=X.cf fun t ht=>h t (by simp[AO.reads,ht])
  have hb:b.ev tm=b.ev bE:=X.cf fun t ht=>h t (by simp[AO.reads,ht])
  simp only[aO,hc,ha,hb]
 |alloc z=>
  rfl
 |ti z T=>rfl
 |A0 x T=>
  have hx:x.ev tm=x.ev bE:=X.cf fun t ht=>h t (by simp[AO.reads,ht])
  simp only[aO,hx]
 |A1 x y=>
  have hx:x.ev tm=x.ev bE:=X.cf fun t ht=>h t (by simp[AO.reads,ht])
  have hy:y.ev tm=y.ev bE:=X.cf fun t ht=>h t (by simp[AO.reads,ht])
  simp only[aO,hx,hy]
 |apps x y=>
  have hx:x.ev tm=x.ev bE:=X.cf fun t ht=>h t (by simp[AO.reads,ht])
  have hy:y.ev tm=y.ev bE:=X.cf fun t ht=>h t (by simp[AO.reads,ht])
  simp only[aO,hx,hy]
 |box x=>
  have hx:x.ev tm=x.ev bE:=X.cf fun t ht=>h t (by simp[AO.reads,ht])
  simp only[aO,hx]
 |AZ x=>
  have hx:x.ev tm=x.ev bE:=X.cf fun t ht=>h t (by simp[AO.reads,ht])
  simp only[aO,hx]
 |load x g n=>
  have hx:x.ev tm=x.ev bE:=X.cf fun t ht=>h t (by simp[AO.reads,ht])
  simp only[aO,hx]
 |store p x n=>
  have hp:p.ev tm=p.ev bE:=X.cf fun t ht=>h t (by simp[AO.reads,ht])
  have hx:x.ev tm=x.ev bE:=X.cf fun t ht=>h t (by simp[AO.reads,ht])
  simp only[aO,hp,hx]
 |bq x=>
  have hx:x.ev tm=x.ev bE:=X.cf fun t ht=>h t (by simp[AO.reads,ht])
  simp only[aO,hx]
 |bin op x y=>
  have hx:x.ev tm=x.ev bE:=X.cf fun t ht=>h t (by simp[AO.reads,ht])
  have hy:y.ev tm=y.ev bE:=X.cf fun t ht=>h t (by simp[AO.reads,ht])
  simp only[aO,hx,hy]
 |Dd n x y=>
  have hx:x.ev tm=x.ev bE:=X.cf fun t ht=>h t (by simp[AO.reads,ht])
  have hy:y.ev tm=y.ev bE:=X.cf fun t ht=>h t (by simp[AO.reads,ht])
  simp only[aO,hx,hy]
 |eqs n ks x y=>
  have hx:x.ev tm=x.ev bE:=X.cf fun t ht=>h t (by simp[AO.reads,ht])
  have hy:y.ev tm=y.ev bE:=X.cf fun t ht=>h t (by simp[AO.reads,ht])
  simp only[aO,hx,hy]
 |G5 n x y=>
  have hx:x.ev tm=x.ev bE:=X.cf fun t ht=>h t (by simp[AO.reads,ht])
  have hy:y.ev tm=y.ev bE:=X.cf fun t ht=>h t (by simp[AO.reads,ht])
  simp only[aO,hx,hy]
 |un op x=>
  have hx:x.ev tm=x.ev bE:=X.cf fun t ht=>h t (by simp[AO.reads,ht])
  simp only[aO,hx]
 |conv k x=>
  have hx:x.ev tm=x.ev bE:=X.cf fun t ht=>h t (by simp[AO.reads,ht])
  simp only[aO,hx]
 |Es x=>
  have hx:x.ev tm=x.ev bE:=X.cf fun t ht=>h t (by simp[AO.reads,ht])
  simp only[aO,hx]
 |xX x=>
  have hx:x.ev tm=x.ev bE:=X.cf fun t ht=>h t (by simp[AO.reads,ht])
  simp only[aO,hx]
 |aj x n=>
  have hx:x.ev tm=x.ev bE:=X.cf fun t ht=>h t (by simp[AO.reads,ht])
  simp only[aO,hx]
 |uC x n g m=>
  have hx:x.ev tm=x.ev bE:=X.cf fun t ht=>h t (by simp[AO.reads,ht])
  simp only[aO,hx]
 |cr x i n=>
  have hx:x.ev tm=x.ev bE:=X.cf fun t ht=>h t (by simp[AO.reads,ht])
  have hi:i.ev tm=i.ev bE:=X.cf fun t ht=>h t (by simp[AO.reads,ht])
  simp only[aO,hx,hi]
 |oU x i=>
  have hx:x.ev tm=x.ev bE:=X.cf fun t ht=>h t (by simp[AO.reads,ht])
  have hi:i.ev tm=i.ev bE:=X.cf fun t ht=>h t (by simp[AO.reads,ht])
  simp only[aO,hx,hi]
 |ext x i=>
  have hx:x.ev tm=x.ev bE:=X.cf fun t ht=>h t (by simp[AO.reads,ht])
  simp only[aO,hx]
 |len x=>
  have hx:x.ev tm=x.ev bE:=X.cf fun t ht=>h t (by simp[AO.reads,ht])
  simp only[aO,hx]
 |nK x=>
  have hx:x.ev tm=x.ev bE:=X.cf fun t ht=>h t (by simp[AO.reads,ht])
  simp only[aO,hx]
 |app a b x y=>
  have hx:x.ev tm=x.ev bE:=X.cf fun t ht=>h t (by simp[AO.reads,ht])
  have hy:y.ev tm=y.ev bE:=X.cf fun t ht=>h t (by simp[AO.reads,ht])
  simp only[aO,hx,hy]
 |mm b x y=>
  have hx:x.ev tm=x.ev bE:=X.cf fun t ht=>h t (by simp[AO.reads,ht])
  have hy:y.ev tm=y.ev bE:=X.cf fun t ht=>h t (by simp[AO.reads,ht])
  simp only[aO,hx,hy]
 | build z ps=>
  have hp:(ps.map fun p=>(p.1,p.2.1,p.2.2.ev tm))=ps.map fun p=>(p.1,p.2.1,p.2.2.ev bE):=List.map_congr_left fun p hp=>by
   have:p.2.2.ev tm=p.2.2.ev bE:=X.cf fun t ht=>h t (by simp only[AO.reads];exact rC (List.mem_map_of_mem hp) ht)
   rw[this]
  simp only[aO,hp]
 | cD z m n ps=>
  have hp:(ps.map fun p=>(p.1,p.2.ev tm))=ps.map fun p=>(p.1,p.2.ev bE):=List.map_congr_left fun p hp=>by
   have:p.2.ev tm=p.2.ev bE:=X.cf fun t ht=>h t (by simp only[AO.reads];exact rC (List.mem_map_of_mem hp) ht)
   rw[this]
  simp only[aO,hp]
 | vh z m n ps=>
  have hp:(ps.map fun p=>(p.1,p.2.ev tm))=ps.map fun p=>(p.1,p.2.ev bE):=List.map_congr_left fun p hp=>by
   have:p.2.ev tm=p.2.ev bE:=X.cf fun t ht=>h t (by simp only[AO.reads];exact rC (List.mem_map_of_mem hp) ht)
   rw[this]
  simp only[aO,hp]
 |Et n x lo hi=>
  have hx:x.ev tm=x.ev bE:=X.cf fun t ht=>h t (by simp[AO.reads,ht])
  have hl:lo.map (·.ev tm)=lo.map (·.ev bE):=wG fun t ht=>h t (by simp[AO.reads,ht])
  have hh:hi.map (·.ev tm)=hi.map (·.ev bE):=wG fun t ht=>h t (by simp[AO.reads,ht])
  simp only[aO,hx,hl,hh]
 |za x lo hi=>
  have hx:x.ev tm=x.ev bE:=X.cf fun t ht=>h t (by simp[AO.reads,ht])
  have hl:lo.map (·.ev tm)=lo.map (·.ev bE):=wG fun t ht=>h t (by simp[AO.reads,ht])
  have hh:hi.map (·.ev tm)=hi.map (·.ev bE):=wG fun t ht=>h t (by simp[AO.reads,ht])
  simp only[aO,hx,hl,hh]
 |uQ f xs=>
  have hp:(xs.map fun x=>x.ev tm)=xs.map fun x=>x.ev bE:=List.map_congr_left fun x hx=>X.cf fun t ht=>h t (by simp only[AO.reads];exact rC hx ht)
  simp only[aO,hp]
 |uR=>rfl
 |zb m k v=>
  have hm:m.ev tm=m.ev bE:=X.cf fun t ht=>h t (by simp[AO.reads,ht])
  have hk:k.ev tm=k.ev bE:=X.cf fun t ht=>h t (by simp[AO.reads,ht])
  have hv:v.ev tm=v.ev bE:=X.cf fun t ht=>h t (by simp[AO.reads,ht])
  simp only[aO,hm,hk,hv]
 |A2 a b z l c=>
  have hl:l.ev tm=l.ev bE:=X.cf fun t ht=>h t (by simp[AO.reads,ht])
  have hk:c.ev tm=c.ev bE:=X.cf fun t ht=>h t (by simp[AO.reads,ht])
  simp only[aO,hl,hk]
 |rf o x y=>
  have hx:x.ev tm=x.ev bE:=X.cf fun t ht=>h t (by simp[AO.reads,ht])
  have hy:y.ev tm=y.ev bE:=X.cf fun t ht=>h t (by simp[AO.reads,ht])
  simp only[aO,hx,hy]
 |wx m k z=>
  have hm:m.ev tm=m.ev bE:=X.cf fun t ht=>h t (by simp[AO.reads,ht])
  have hk:k.ev tm=k.ev bE:=X.cf fun t ht=>h t (by simp[AO.reads,ht])
  simp only[aO,hm,hk]
theorem Me {x d:D} {agg:Bool} {size:Nat} {s s':St} (h:ze x agg size s=some (d,s')):s'=s:=by
 unfold ze at h
 (repeat' (split at h))<;>first|(cases h;rfl)|cases h
theorem Mf {o:AO} (ho:gK o.kind=false) {tm:Tm} {s s':St} {d:D} (h:aO o tm s=some (d,s')):s'=s:=by
 cases o<;>simp only[AO.kind,gK]at ho<;>first|cases ho|skip
 all_goals
  simp only[aO]at h
  first
   |(cases h;rfl)
   |(repeat' (split at h))<;>first|exact Me h|(cases h;rfl)|cases h
theorem OS {o:AO} (ho:o.kind = .pure) {tm:Tm} {s s':St} : (aO o tm s).map (·.1)=(aO o tm s').map (·.1):=by
 cases o<;>simp only[AO.kind]at ho<;>first|cases ho|skip
 all_goals
  simp only[aO]
  first
   |rfl
   |(repeat' split)<;>rfl
def j9 (ai:AI) (tm:Tm) (s:St):Option D:=
 match ai with
 | .op _ none o=>(aO o tm s).map (·.1)
 | .op _ (some (t,want)) o=>
  match tm.get t with
  | .bool b=>if b=want then(aO o tm s).map (·.1)else some (.tuple [])
  | .tuple _=>some (.tuple [])
  |_=>none
 |_=>none
def sT (P:Program) (ai:AI) (tm:Tm) (s:St) (d:D) (s':St):Prop:=
 match ai with
 | .op _ g o=>guarded g tm (aO o tm s=some (d,s')) (d = .tuple []∧s'=s)
 | .call _ g f xs=>guarded g tm (bP P f (xs.map (·.ev tm)) s fun x y=>x=d∧y=s') (d = .tuple []∧s'=s)
 | .nil .. =>False
 | .jw .. =>False
def kX (P:Program) (is:List AI) (K:Tm→St→Prop):List (Nat×Nat)→List St→Tm→St→Prop
 | [],_,tm,s=>K tm s
 | (q,b)::r,bN,tm,s=>
  match is[q]? with
  |none=>False
  |some ai=>
   match gK ai.kind with
   |true=>∃ d s',sT P ai tm s d s'∧kX P is K r (s::bN) (tm.put ai.dst d) s'
   |false=>∃ d,j9 ai tm s=some d∧(ai.kind = .load→∀ s'∈bN.take b,j9 ai tm s'=some d)∧kX P is K r bN (tm.put ai.dst d) s
def Tm.eqv (a b:Tm):Prop:=∀ t,a.get t=b.get t
theorem Tm.lu (tm:Tm) (dst:Option Nat) (d:D) (t:Nat):(tm.put dst d).get t=if dst=some t then d else tm.get t:=by
 cases dst with
 |none=>simp[Tm.put]
 |some u=>
  simp only[Tm.put,Tm.Cl,Option.some.injEq]
  by_cases h:t=u
  ·subst h;simp
  ·rw[if_neg h,if_neg (fun e=>h e.symm)]
theorem Tm.eqv.put {a b:Tm} (h:a.eqv b) (dst:Option Nat) (d:D):(a.put dst d).eqv (b.put dst d):=fun t=>by
 rw[Tm.lu,Tm.lu,h t]
theorem Tm.J6 (tm:Tm) {x y:Option Nat} (h : ∀ t,x=some t→y≠some t) (d e:D):((tm.put x d).put y e).eqv ((tm.put y e).put x d):=fun t=>by
 simp only[Tm.lu]
 by_cases h1:x=some t
 ·simp only[h1,h t h1,if_true,if_false]
 ·simp only[h1,if_false]
theorem As {g:Option (Nat×Bool)} {tm bE:Tm} {A A' C:Prop} (h : ∀ t∈vi g,tm.get t=bE.get t) (ha:A→A') (hh:guarded g tm A C):guarded g bE A' C:=by
 cases g with
 |none=>exact ha hh
 | some p=>
  obtain⟨t,want⟩:=p
  unfold guarded at *
  simp only at *
  rw[← h t (by simp[vi])]
  split
  ·rename_i b hb
   rw[hb]at hh
   exact⟨fun e=>ha (hh.1 e),hh.2⟩
  ·rename_i hb
   rw[hb]at hh
   exact hh
  ·rename_i x h1 h2
   split at hh
   ·exact h1 _ ‹_›
   ·exact h2 _ ‹_›
   ·exact hh
theorem Hi {tm bE:Tm} : ∀ {l:List X},(∀ t∈n6 l,tm.get t=bE.get t)→l.map (·.ev tm)=l.map (·.ev bE)
 | [],_=>rfl
 |x::r,h=>by
  simp only[List.map_cons]
  rw[X.cf fun t ht=>h t (by simp[n6,ht]),Hi (l:=r) fun t ht=>h t (by simp[n6,ht])]
theorem xm {P:Program} {ai:AI} {tm bE:Tm} {s s':St} {d:D} (h : ∀ t∈ai.reads,tm.get t=bE.get t) (hh:sT P ai tm s d s'):sT P ai bE s d s':=by
 cases ai with
 |op dst g o=>
  simp only[AI.reads,List.mem_append]at h
  exact As (fun t ht=>h t (.inl ht)) (fun e=>by rw[← Dm fun t ht=>h t (.inr ht)];exact e) hh
 |call dst g f xs=>
  simp only[AI.reads,List.mem_append]at h
  exact As (fun t ht=>h t (.inl ht)) (fun e=>by rw[← Hi fun t ht=>h t (.inr ht)];exact e) hh
 |nil dst g n x=>exact hh
 |jw dst g t xs=>exact hh
theorem qY {ai:AI} {tm bE:Tm} {s:St} (h : ∀ t∈ai.reads,tm.get t=bE.get t):j9 ai tm s=j9 ai bE s:=by
 cases ai with
 | op dst g o=>
  simp only[AI.reads,List.mem_append]at h
  have he:=Dm (s:=s) fun t ht=>h t (.inr ht)
  cases g with
  |none=>simp only[j9,he]
  |some p=>
   obtain⟨t,want⟩:=p
   simp only[j9,he,h t (.inl (by simp[vi]))]
 |call dst g f xs=>rfl
 |nil dst g n x=>rfl
 |jw dst g t xs=>rfl
theorem M6 {dst:Option Nat} {g:Option (Nat×Bool)} {o:AO} (h:gK (AI.op dst g o).kind=false):(AI.op dst g o).kind=o.kind:=by
 unfold AI.kind at *
 split at h
 ·cases h
 ·rename_i heq;cases heq;rfl
 ·cases h
theorem Vk {ai:AI} (hk:ai.kind = .pure) {tm:Tm} {s s':St} : j9 ai tm s=j9 ai tm s':=by
 cases ai with
 |op dst g o=>
  have ho:o.kind = .pure:=by rw[← hk];exact(M6 (by rw[hk];rfl)).symm
  have he:=OS ho (tm:=tm) (s:=s) (s':=s')
  cases g with
  |none=>simp only[j9,he]
  |some p=>simp only[j9,he]
 |call dst g f xs=>rfl
 |nil dst g n x=>rfl
 |jw dst g t xs=>rfl
theorem apart_spec {a q:AI} (h:a.apart q=true):(∀ t,a.dst=some t→t∉q.reads)∧(∀ t,q.dst=some t→t∉a.reads)∧(∀ t,a.dst=some t→q.dst≠some t):=by
 unfold AI.apart at h
 simp only[Bool.and_eq_true]at h
 obtain⟨⟨h1,h2⟩,h3⟩:=h
 refine⟨fun t e=>?_,fun t e=>?_,fun t e e'=>?_⟩
 ·rw[e]at h1;simpa[Ev]using h1
 ·rw[e]at h2;simpa[Ev]using h2
 ·rw[e,e']at h3;simp at h3
theorem sU {tm:Tm} {dst:Option Nat} {d:D} {l:List Nat} (h : ∀ t,dst=some t→t∉l) : ∀ t∈l,tm.get t=(tm.put dst d).get t:=fun t ht=>by
 rw[Tm.lu,if_neg fun e=>h t e ht]
section
variable {P:Program} {is:List AI} {K:Tm→St→Prop}
theorem sV (hK : ∀ tm bE s,Tm.eqv tm bE→K tm s→K bE s) : ∀ (R:List (Nat×Nat)) (bN:List St) (tm bE:Tm) (s:St),tm.eqv bE→kX P is K R bN tm s→kX P is K R bN bE s
 | [],_,tm,bE,s,e,h=>hK tm bE s e h
 | (q,b)::R,bN,tm,bE,s,e,h=>by
  unfold kX at *
  split at h
  ·exact h.elim
  ·rename_i ai wF
   split at h
   ·rename_i hc
    obtain⟨d,s',h1,h2⟩:=h
    exact⟨d,s',xm (fun t _=>e t) h1,sV hK R _ _ _ _ (e.put _ d) h2⟩
   ·rename_i hc
    obtain⟨d,h1,h2,h3⟩:=h
    refine⟨d, ?_,fun hl s' oY=>?_,sV hK R _ _ _ _ (e.put _ d) h3⟩
    ·rw[← qY fun t _=>e t];exact h1
    ·rw[← qY fun t _=>e t];exact h2 hl s' oY
theorem J7 (i:Nat) (l:List Nat):jQ is (i::l)=(if gK (jx is i)then 1 else 0)+jQ is l:=by
 unfold jQ
 rw[List.filter_cons]
 split<;>simp<;>omega
theorem xn (hK : ∀ tm bE s,Tm.eqv tm bE→K tm s→K bE s) {q b:Nat} {ai:AI} (hq:is[q]? = some ai) (hm:gK ai.kind=false) (Y:List (Nat×Nat)) :
 ∀ (X:List (Nat×Nat)) (bN:List St) (tm:Tm) (s:St),(∀ a∈X,lk is a.1 q=true)→(ai.kind = .load→jQ is (X.map (·.1))≤b)→
  kX P is K (X++(q,b)::Y) bN tm s→
  ∃ d,j9 ai tm s=some d∧(ai.kind = .load→∀ s'∈bN.take (b - jQ is (X.map (·.1))),j9 ai tm s'=some d)∧kX P is K (X++Y) bN (tm.put ai.dst d) s
 | [],bN,tm,s,_,_,h=>by
  simp only[List.nil_append,kX,hq,hm]at h
  obtain⟨d,h1,h2,h3⟩:=h
  exact⟨d,h1,fun hl s' oY=>h2 hl s' (by simpa[jQ]using oY),h3⟩
 | (a,c)::X,bN,tm,s,eS,hb,h=>by
  have OT:=eS (a,c) (by simp)
  unfold lk at OT
  split at OT
  ·rename_i ia iq hia uG
   rw[hq]at uG
   cases uG
   obtain⟨p1,p2,p3⟩:=apart_spec OT
   have Hf:jx is a=ia.kind:=by simp[jx,hia]
   have ID : ∀ x∈X,lk is x.1 q=true:=fun x hx=>eS x (List.mem_cons_of_mem _ hx)
   rw[List.map_cons,J7,Hf]at hb ⊢
   simp only[List.cons_append,kX,hia]at h ⊢
   cases hc:gK ia.kind
   ·simp only [hc,Bool.false_eq_true,if_false,Nat.zero_add]at h hb ⊢
    obtain⟨d,h1,h2,h3⟩:=h
    obtain⟨e,g1,g2,g3⟩:=xn hK hq hm Y X bN _ s ID hb h3
    have cg : ∀ s,j9 ai tm s=j9 ai (tm.put ia.dst d) s:=fun s=>qY (sU p1)
    have cg' : ∀ s,j9 ia tm s=j9 ia (tm.put ai.dst e) s:=fun s=>qY (sU p2)
    refine⟨e,by rw[cg];exact g1,fun hl s' oY=>by rw[cg];exact g2 hl s' oY,d,by rw[← cg'];exact h1,fun hl s' oY=>by rw[← cg'];exact h2 hl s' oY, ?_⟩
    exact sV hK _ _ _ _ _ (Tm.J6 tm p3 d e) g3
   ·simp only [hc,if_true]at h hb ⊢
    obtain⟨d,s1,h1,h3⟩:=h
    obtain⟨e,g1,g2,g3⟩:=xn hK hq hm Y X (s::bN) _ s1 ID (fun hl=>by have:=hb hl;omega) h3
    have cg : ∀ s,j9 ai tm s=j9 ai (tm.put ia.dst d) s:=fun s=>qY (sU p1)
    have qx:j9 ai tm s=some e:=by
     cases hk:ai.kind with
     |pure=>rw[cg,Vk hk (s':=s1)];exact g1
     |load=>
      have:=hb hk
      rw[cg]
      refine g2 hk s ?_
      rw[show b - jQ is (X.map (·.1))=(b - (1+jQ is (X.map (·.1))))+1 by omega,List.take_succ_cons]
      exact List.mem_cons_self
     |alloc=>rw[hk]at hm;cases hm
     |core=>rw[hk]at hm;cases hm
    refine⟨e,qx,fun hl s' oY=>?_,d,s1,xm (sU p2) h1,sV hK _ _ _ _ _ (Tm.J6 tm p3 d e) g3⟩
    have:=hb hl
    rw[cg]
    refine g2 hl s' ?_
    rw[show b - jQ is (X.map (·.1))=(b - (1+jQ is (X.map (·.1))))+1 by omega,List.take_succ_cons]
    exact List.mem_cons_of_mem _ oY
  ·cases OT
end
end Go.Abs
namespace Go.Abs
section
variable {P:Program}
theorem Sv {o:Oper} {z:List D} (h:Ey P o=some (.alloc z)) : ∃ t,o.op = .alloc t∧zeroOf P t=some z:=by
 obtain⟨dst,op,type,pos,after,guard⟩:=o
 unfold Ey at h
 simp only at h
 split at h
 case h_4 t=>
  split at h
  ·obtain⟨z',h1,h2⟩:=map_some h;cases h2
  ·obtain⟨z',h1,h2⟩:=map_some h;cases h2;exact⟨t,rfl,h1⟩
 all_goals
  first
   |(rw[Option.map_eq_some_iff]at h;obtain⟨_,_,h⟩:=h;cases h)
   |skip
 all_goals
  (repeat' (split at h))<;>first|(cases h;done)|(rw[Option.map_eq_some_iff]at h;obtain⟨_,_,h⟩:=h;cases h)
theorem Bt {nt:Nat} {ops:Array Oper} {o:Oper} {ai:AI} (h:cI P nt ops o=some ai) :
 ∃ g,vj ops o.guard=some g∧(∀ t,o.dst=some t→t<nt)∧sN P ops o g=some ai:=by
 have h2:=yl h
 unfold cI at h
 split at h
 ·cases h
 ·rename_i g hg
  split at h
  ·exact⟨g,hg,h2,h⟩
  ·cases h
theorem tB {ops:Array Oper} {o:Oper} {g:Option (Nat×Bool)} {ai:AI} (h:sN P ops o g=some ai):ai.dst=o.dst:=by
 unfold sN at h
 split at h
 ·split at h
  ·obtain⟨xs,_,rfl⟩:=map_some h;rfl
  ·cases h
 ·obtain⟨xs,_,rfl⟩:=map_some h;rfl
 ·split at h
  ·cases h;rfl
  ·split at h
   ·cases h;rfl
   ·cases h;rfl
   ·cases h
theorem tC {nt:Nat} {ops:Array Oper} {o:Oper} {ai:AI} (h:cI P nt ops o=some ai):ai.dst=o.dst:=by
 obtain⟨g,_,_,h⟩:=Bt h
 exact tB h
theorem xo {nt:Nat} {ops:Array Oper} {i:Nat} {o:Oper} {ai:AI} (hi:ops[i]? = some o) (hc:cI P nt ops o=some ai)
 {M:Map} {s:St} {w:World} {tm:Tm} {act:Act} (r:Rel M s w) (kM:Laid M s w) (ht:lW M s tm act.tmps) {K':Tm→St→Prop} (h:iW P [ai] K' tm s)
 {K:Act→World→Prop} {Q:Exit→Act→World→Prop}
 (hK : ∀ d v s1 w1 M1,K' (tm.put ai.dst d) s1→Ext M s w M1 s1 w1→Rel M1 s1 w1→RD M1 s1 d v→K (act.put o.dst v) w1):wpOp P ops Q i K act w:=by
 obtain⟨g,hg,_,hb⟩:=Bt hc
 rw[tB hb]at hK
 simp only[wpOp,hi]
 have skip:K' (tm.put o.dst (.tuple [])) s→K (act.put o.dst Go.undef) w:=fun hk=>hK _ _ _ _ _ hk (Ext.refl M s w) r .undef
 unfold sN at hb
 split at hb
 ·rename_i f args mF mE
  split at hb
  ·rename_i zo
   obtain⟨xs,oI,rfl⟩:=map_some hb
   simp only[iW]at h
   rcases kr hg ht h with ⟨hw,hA⟩|⟨hw,hB⟩
   ·simp only [hw,if_true]
    left
    have hex:(execOp act.eval o).run P w = .ok (.enter f (args.map act.eval)) w:=by
     obtain⟨dst,op,type,pos,after,guard⟩:=o
     simp only at mE
     subst mE
     exact xj act.eval dst f args mF type pos after guard rfl zo w
    obtain⟨c1,c2⟩:=wE ht oI
    unfold Oper.wp
    rw[hex,Oper.upon_enter]
    refine(hA M w (args.map act.eval) r kM (by simp[c1]) (fun i d v e1 e2=>c2 i d v e1 (by simpa using e2))).mono ?_
    rintro en w' ⟨M',d,v,s',rfl,hk,e',r',hv⟩
    exact hK _ _ _ _ _ hk e' r' hv
   ·simp only [hw]
    exact skip hB
  ·cases hb
 ·rename_i t args mF mE
  obtain⟨xs,oI,rfl⟩:=map_some hb
  simp only[iW]at h
  rcases kr hg ht h with ⟨hw,hA⟩|⟨hw,hB⟩
  ·simp only [hw,if_true]
   left
   split at hA
   ·rename_i f nJ nF
    obtain⟨zo,hA⟩:=hA
    have Se:=ht t
    rw[nF]at Se
    obtain⟨vs,tw,hlen,EH⟩:=Se.MY
    have hex:(execOp act.eval o).run P w = .ok (.enter f (args.map act.eval++vs)) w:=by
     obtain⟨dst,op,type,pos,after,guard⟩:=o
     simp only at mE
     subst mE
     exact Bn act.eval dst (.tmp t) f vs args mF type pos after guard tw zo w
    have cc:=Hg oI ht hlen EH
    unfold Oper.wp
    rw[hex,Oper.upon_enter]
    refine(hA M w (args.map act.eval++vs) r kM cc.1 cc.2).mono ?_
    rintro en w' ⟨M',d,v,s',rfl,hk,e',r',hv⟩
    exact hK _ _ _ _ _ hk e' r' hv
   ·exact hA.elim
  ·simp only [hw]
   exact skip hB
 ·split at hb
  ·rename_i neg x DL
   cases hb
   simp only[iW]at h
   rcases kr hg ht h with ⟨hw,hA⟩|⟨hw,hB⟩
   ·simp only [hw,if_true]
    left
    split at hA
    ·rename_i g' z rows hx
     obtain⟨b,hb,hex⟩:=An (w:=w) DL ht hx
     unfold Oper.wp
     rw[hex,Oper.upon_value]
     exact hK _ _ _ _ _ (hA b hb) (Ext.refl M s w) r (.bool _)
    ·exact hA.elim
   ·simp only [hw]
    exact skip hB
  ·have fin : ∀ ao,ai = .op o.dst g ao→(∀ d s',aO ao tm s=some (d,s')→dc P M s w (execOp act.eval o) d s')→
    (if Region.wanted o (yielded ops act.tmps)=true then o.wp P act w K Q∨(o.asks P act w∧LetsOut Q)else K (act.put o.dst Go.undef) w):=by
    intro ao wF hdo
    subst wF
    simp only[iW]at h
    rcases kr hg ht h with ⟨hw,hA⟩|⟨hw,hB⟩
    ·simp only [hw,if_true]
     left
     split at hA
     ·rename_i d s' qW
      obtain⟨v,w',M',dG,r',hv,e'⟩:=hdo d s' qW
      unfold Oper.wp
      rcases dG with dG|⟨dG,rfl⟩
      ·rw [dG,Oper.upon_value]
       exact hK _ _ _ _ _ hA e' r' hv
      ·rw [dG,Oper.upon_skip]
       exact hK _ _ _ _ _ hA e' r' hv
     ·exact hA.elim
    ·simp only [hw]
     exact skip hB
   split at hb
   ·rename_i z k n ps n8
    cases hb
    refine fin _ rfl (fun d s' qW=>?_)
    split at qW
    ·exact zn n8 r ht qW
    ·exact sR n8 r ht qW
   ·rename_i ao n8
    cases hb
    exact fin _ rfl (fun d s' qW=>sR n8 r ht qW)
   ·cases hb
structure M7 (M:Map) (s:St) (b:Nat):Prop where
 o : ∀ o,o<s.ah.length→M.mu o≠b
 t : ∀ t c z,s.live t→M.be t≠some (b,c,z)
 g : ∀ off,M.G b off=none
theorem M7.mono {M M':Map} {s s':St} {w w':World} {b:Nat} (h:M7 M s b) (e:Ext M s w M' s' w') (hb:b<w.heap.size):M7 M' s' b:=by
 refine⟨fun o ho=>?_,fun t c z hl he=>?_,fun off=>?_⟩
 ·rcases e.mo ho with ⟨h1,h2⟩ | h1
  ·rw[h2];exact h.o o h1
  ·omega
 ·rcases e.qF t b c z hl he with ⟨h1,c',z',h2⟩ | h1
  ·exact h.t t c' z' h1 h2
  ·omega
 ·by_cases hg:M'.G b off=M.G b off
  ·rw[hg];exact h.g off
  ·rcases e.sm b off hg with h1 | ⟨t,c,z,h1,h2⟩
   ·omega
   ·exact(h.t t c z h1 h2).elim
theorem Rel.idle {M:Map} {s:St} {w:World} (r:Rel M s w) (x:Obj):Rel M s (w.alloc x)∧Ext M s w M s (w.alloc x)∧M7 M s w.heap.size:=by
 refine⟨⟨fun b o v e=>?_,fun o ds e=>?_,r.jV,r.inj,fun t n e=>?_,r.fc,r.fU⟩, ?_,⟨fun o ho=>?_,fun t c z hl e=>?_,fun off=>r.N7 (Nat.le_refl _) off⟩⟩
 ·obtain⟨h3,h4⟩:=r.comm b o v e
  refine⟨?_,h4⟩
  rw[World.cell?_alloc_lt]
  ·exact h3
  ·exact r.A8 e
 ·obtain⟨vs,T,h3,h4,h5,h6⟩:=r.obj o ds e
  exact⟨vs,T,h3.keep (heap_alloc_old w _ _ h3.lt),h4,h5,h6⟩
 ·rcases r.tok t n e with h3 | ⟨b,cap,size,fB,T',h3,h4,h5⟩
  ·exact .inl h3
  ·exact .inr ⟨b,cap,size,fB,T',h3,by rw[heap_alloc_old w _ _ (ko h4)];exact h4,h5⟩
 ·exact⟨Le.refl M s,fun b hb _ _=>heap_alloc_old w _ b hb,fun o h3 h4=>by rcases h3 with h3|h3;omega;exact(h3 rfl).elim,fun t b c z h e=> .inl ⟨h,c,z,e⟩,fun _ _ h=>(h rfl).elim,by simp,rfl,rfl,rfl⟩
 ·have:=r.qu ho;omega
 ·have:=r.sO hl e;omega
theorem Rel.agS {M:Map} {s:St} {w:World} (r:Rel M s w) {B:e7} (e:Ext B.M B.s B.w M s w) {b:Nat} (u:M7 M s b) (hb:B.w.heap.size≤b)
 (ds:List D) (vs:Array Value) (T:TypeId) (hh:w.heap[b]? = some (.cells vs T (0,0))) (hl:vs.size=ds.length) (h1 : ∀ v∈vs,v.oneCell'=true)
 (h2 : ∀ (i:Nat) (d:D) (v:Value),ds[i]? = some d→vs[i]? = some v→RD M s d v) :
 Rel (M.dZ s.ah.length b) {s with ah:=s.ah++ [ds]} w∧Ext B.M B.s B.w (M.dZ s.ah.length b) {s with ah:=s.ah++ [ds]} w∧
 Le M s (M.dZ s.ah.length b) {s with ah:=s.ah++ [ds]}:=by
 have le:=sq (M:=M) s b ds
 have mR : ∀ o,o<s.ah.length→(M.dZ s.ah.length b).mu o=M.mu o:=fun o ho=>congrArg Prod.fst (tq M b .any ho)
 have dr:(M.dZ s.ah.length b).mu s.ah.length=b:=by simp[Map.dZ,Map.mu]
 refine⟨⟨r.comm,fun o qS e'=>?_,fun o ho off=>?_,fun o o' ho nE e'=>?_,r.tok,fun t b' c z o hl e' ho=>?_,r.fU⟩, ?_,le⟩
 ·rcases Nat.lt_or_ge o s.ah.length with ho | ho
  ·rw [List.getElem?_append_left ho]at e'
   obtain⟨fB,T',h3,h4,h5,h6⟩:=r.obj o qS e'
   refine⟨fB,T', ?_,h4,⟨h5.1,by rw[le.ty o ho];exact h5.2⟩,fun i d v e1 e2=>(h6 i d v e1 e2).mono le⟩
   rw[tq M b .any ho];exact h3
  ·rw [List.getElem?_append_right ho]at e'
   have:o=s.ah.length:=by
    have:=(List.getElem?_eq_some_iff.1 e').1
    simp at this;omega
   subst this
   simp at e';subst e'
   refine⟨vs,T, ?_,hl,⟨h1,fun T' h=>by simp[Map.dZ,Map.ty,Ob.ty?]at h⟩,fun i d v e1 e2=>(h2 i d v e1 e2).mono le⟩
   have hl:(M.dZ s.ah.length b).loc s.ah.length=(b, .any):=by simp[Map.dZ]
   rw[hl];exact iH.of hh trivial
 ·simp at ho
  rcases Nat.lt_or_ge o s.ah.length with h3|h3
  ·rw[mR o h3];exact r.jV o h3 off
  ·have:o=s.ah.length:=by omega
   subst this
   rw[dr];exact u.g off
 ·simp at ho nE
  rcases Nat.lt_or_ge o s.ah.length with h3|h3<;>rcases Nat.lt_or_ge o' s.ah.length with h4|h4
  ·rw[mR o h3,mR o' h4]at e';exact r.inj o o' h3 h4 e'
  ·have:o'=s.ah.length:=by omega
   subst this
   rw[mR o h3,dr]at e'
   exact(u.o o h3 e').elim
  ·have:o=s.ah.length:=by omega
   subst this
   rw[mR o' h4,dr]at e'
   exact(u.o o' h4 e'.symm).elim
  ·omega
 ·simp at ho
  rcases Nat.lt_or_ge o s.ah.length with h3|h3
  ·rw[mR o h3];exact r.fc t b' c z o hl e' h3
  ·have:o=s.ah.length:=by omega
   subst this
   rw[dr]
   intro he
   subst he
   exact u.t t c z hl e'
 ·refine⟨e.le.trans le,e.kept,fun o h3 h4=> ?_,e.qF,e.sm,e.size,e.os,e.tape,e.output⟩
  simp at h4
  rcases Nat.lt_or_ge o s.ah.length with h5|h5
  ·rw[mR o h5]at h3 ⊢;exact e.tX o h3 h5
  ·have:o=s.ah.length:=by omega
   subst this
   rw[dr];exact hb
theorem Mg {nt:Nat} {ops:Array Oper} {i:Nat} {o:Oper} {t:Nat} {z:List D} (hi:ops[i]? = some o) (hc:cI P nt ops o=some (.op (some t) none (.alloc z)))
 {w:World} {act:Act} {K:Act→World→Prop} {Q:Exit→Act→World→Prop}
 (hK : ∀ vs T,vs.size=z.length→(∀ v∈vs,v.oneCell'=true)→(∀ (M:Map) (s:St) (i:Nat) (d:D) (v:Value),z[i]? = some d→vs[i]? = some v→RD M s d v)→
  K (act.put (some t) (.pointer (some ⟨w.heap.size,0,none⟩))) (w.alloc (.cells vs T))):wpOp P ops Q i K act w:=by
 obtain⟨g,hg,_,hb⟩:=Bt hc
 have qJ:=tB hb
 simp only[AI.dst]at qJ
 simp only[wpOp,hi]
 have mE:g=none∧Ey P o=some (.alloc z):=by
  unfold sN at hb
  split at hb
  ·split at hb
   ·obtain⟨xs,_,h⟩:=map_some hb;cases h
   ·cases hb
  ·obtain⟨xs,_,h⟩:=map_some hb;cases h
  ·split at hb
   ·cases hb
   ·split at hb
    ·rename_i n8
     simp only[Option.some.injEq,AI.op.injEq]at hb
     obtain⟨_,_,h⟩:=hb
     split at h<;>cases h
    ·rename_i ao n8
     simp only[Option.some.injEq,AI.op.injEq]at hb
     obtain⟨_,h1,h2⟩:=hb
     subst h2
     exact⟨h1,n8⟩
    ·cases hb
 obtain⟨rfl,n8⟩:=mE
 obtain⟨T,hT,hz⟩:=Sv n8
 have hw:Region.wanted o (yielded ops act.tmps)=true:=by
  have:o.guard=none:=by
   cases G8:o.guard with
   |none=>rfl
   |some p=>
    obtain⟨j,b⟩:=p
    rw[G8]at hg
    unfold vj at hg
    simp only at hg
    split at hg<;>cases hg
  simp[Region.wanted,this]
 simp only[hw,if_true]
 left
 unfold zeroOf at hz
 split at hz
 ·rename_i inf OH
  split at hz
  ·rename_i v hv
   split at hz
   ·have dG:(execOp act.eval o).run P w = .ok (.value (.pointer (some ⟨w.heap.size,0,none⟩))) (w.alloc (.cells v.cells T)):=by
     obtain⟨dst,op,type,pos,after,guard⟩:=o
     simp only at hT
     subst hT
     simp[execOp,Instr.alloc,zeroValue,fW P OH,hv,newVar,newRow]
    have h3:=fun M s=>lq (M:=M) (s:=s) hz
    obtain⟨h1,h2,_⟩:=h3 ⟨fun _ _=>none,fun _=>(0, .any),fun _=>none⟩ ⟨[],[]⟩
    unfold Oper.wp
    rw[dG,Oper.upon_value, ← qJ]
    exact hK _ _ (by rw[h1];simp) (fun u hu=>h2 u (by simpa using hu)) (fun M s i d u e1 e2=>(h3 M s).2.2 i d u e1 (by simpa using e2))
   ·cases hz
  ·cases hz
 ·cases hz
end
end Go.Abs
namespace Go.Abs
section
variable {is:List AI} {af pt:List (List Nat)}
theorem Au {pq:List Nat} {l l':List Nat} (h:l'.Sublist l) (hb:la is pq l=true):la is pq l'=true:=by
 induction h with
 |slnil=>rfl
 |cons a h ih=>
  simp only[la,Bool.and_eq_true]at hb
  exact ih hb.2
 |cons_cons a h ih=>
  simp only[la,Bool.and_eq_true,Bool.or_eq_true]at hb ⊢
  refine⟨hb.1.imp id fun h1=>?_,ih hb.2⟩
  rw[List.all_eq_true]at h1 ⊢
  exact fun x hx=>h1 x (h.subset hx)
theorem Cr {f:Nat→Bool} {l l':List Nat} (h:l'.Sublist l) (ha:l.all f=true):l'.all f=true:=by
 rw[List.all_eq_true]at ha ⊢
 exact fun x hx=>ha x (h.subset hx)
theorem Mh {l l':List Nat} (h:l'.Sublist l):jQ is l'≤jQ is l:=(h.filter _).length_le
theorem OU {pre Ga:List Nat} {q b:Nat} (h:Ga.Sublist pre) (hs:oV is pt pre q b=true):oV is pt Ga q b=true:=by
 unfold oV at *
 split at hs
 ·exact Cr h hs
 ·exact Cr h hs
 ·simp only [Bool.and_eq_true]at hs ⊢
  exact⟨Cr h hs.1,Au h hs.2⟩
 ·simp only [Bool.and_eq_true,decide_eq_true_eq]at hs ⊢
  exact⟨⟨Cr h hs.1.1,Au h hs.1.2⟩,Nat.le_trans (Mh (h.filter _)) hs.2⟩
theorem J8 : ∀ {R:List (Nat×Nat)} {pre Ga:List Nat},Ga.Sublist pre→uD is af pt pre R=true→uD is af pt Ga R=true
 | [],_,_,_,_=>rfl
 |(q,b)::R,pre,Ga,h,ho=>by
  simp only[uD,Bool.and_eq_true,Bool.not_eq_true']at ho ⊢
  obtain⟨⟨⟨h1,h2⟩,h3⟩,h4⟩:=ho
  refine⟨⟨⟨OU h h1, ?_⟩,h3⟩,J8 (h.cons_cons q) h4⟩
  rw[← Bool.not_eq_true,List.contains_iff_mem]at h2 ⊢
  exact fun hm=>h2 (h.subset hm)
theorem Gb : ∀ {X:List (Nat×Nat)} {e:Nat×Nat} {Y:List (Nat×Nat)} {pre:List Nat},uD is af pt pre (X++e::Y)=true→uD is af pt pre (X++Y)=true
 | [],(q,b),Y,pre,h=>by
  simp only[List.nil_append,uD,Bool.and_eq_true]at h
  exact J8 (List.sublist_cons_self q pre) h.2
 |(a,c)::X,e,Y,pre,h=>by
  simp only[List.cons_append,uD,Bool.and_eq_true]at h ⊢
  obtain⟨⟨⟨h1,h2⟩,h3⟩,h4⟩:=h
  refine⟨⟨⟨h1,h2⟩, ?_⟩,Gb h4⟩
  rw[List.all_eq_true]at h3 ⊢
  intro j hj
  have:=h3 j hj
  simp only[Bool.and_eq_true,Bool.not_eq_true']at this ⊢
  refine⟨this.1, ?_⟩
  have h5:=this.2
  rw[← Bool.not_eq_true,List.contains_iff_mem]at h5 ⊢
  refine fun hm=>h5 ?_
  simp only[List.map_append,List.map_cons,List.mem_append,List.mem_cons]at hm ⊢
  exact hm.imp id .inr
theorem tD : ∀ {X:List (Nat×Nat)} {q b:Nat} {Y:List (Nat×Nat)} {pre:List Nat},uD is af pt pre (X++(q,b)::Y)=true→
 oV is pt ((X.map (·.1)).reverse++pre) q b=true∧q∉X.map (·.1)∧q∉pre∧(∀ j∈gZ af q,j≠q∧j∉Y.map (·.1))∧uD is af pt (q::((X.map (·.1)).reverse++pre)) Y=true
 | [],q,b,Y,pre,h=>by
  simp only[List.nil_append,uD,Bool.and_eq_true,Bool.not_eq_true']at h
  obtain⟨⟨⟨h1,h2⟩,h3⟩,h4⟩:=h
  rw[← Bool.not_eq_true,List.contains_iff_mem]at h2
  refine⟨h1,by simp,h2,fun j hj=>?_,h4⟩
  rw[List.all_eq_true]at h3
  have:=h3 j hj
  simp only[Bool.and_eq_true,bne_iff_ne,Bool.not_eq_true', ← Bool.not_eq_true,List.contains_iff_mem]at this
  exact this
 |(a,c)::X,q,b,Y,pre,h=>by
  simp only[List.cons_append,uD,Bool.and_eq_true]at h
  obtain⟨_,h4⟩:=h
  obtain⟨g1,g2,g3,g4,g5⟩:=tD h4
  simp only[List.map_cons,List.reverse_cons,List.append_assoc,List.singleton_append]
  refine⟨g1, ?_,fun h=>g3 (List.mem_cons_of_mem _ h),g4,g5⟩
  intro hm
  rcases List.mem_cons.1 hm with rfl|hm
  ·exact g3 (by simp)
  ·exact g2 hm
theorem Cs : ∀ {Y:List (Nat×Nat)} {pre:List Nat},uD is af pt pre Y=true→∀ x∈Y,x.1∉pre∧(jx is x.1 = .alloc→∀ a∈pre,lk is a x.1=true)
 | [],_,_,x,hx=>by cases hx
 | (q,b)::Y,pre,h,x,hx=>by
  simp only[uD,Bool.and_eq_true,Bool.not_eq_true']at h
  obtain⟨⟨⟨h1,h2⟩,_⟩,h4⟩:=h
  rw[← Bool.not_eq_true,List.contains_iff_mem]at h2
  rcases List.mem_cons.1 hx with rfl|hx
  ·refine⟨h2,fun hk a ha=> ?_⟩
   unfold oV at h1
   simp only[hk]at h1
   rw[List.all_eq_true]at h1
   exact h1 a ha
  ·obtain⟨g1,g2⟩:=Cs h4 x hx
   exact⟨fun h=>g1 (List.mem_cons_of_mem _ h),fun hk a ha=>g2 hk a (List.mem_cons_of_mem _ ha)⟩
theorem Dn : ∀ {n:Nat},xY af pt n=true→∀ i,i<n→∀ j∈gZ pt i,j∈gZ af i∨∃ k∈gZ af i,j∈gZ pt k
 | 0,_,i,hi=>by omega
 | n+1,h,i,hi=>by
  simp only[xY,Bool.and_eq_true]at h
  rcases Nat.lt_or_ge i n with h1|h1
  ·exact Dn h.2 i h1
  ·have:i=n:=by omega
   subst this
   intro j hj
   have:=h.1
   rw[List.all_eq_true]at this
   have:=this j hj
   simp only[Bool.or_eq_true,List.contains_iff_mem,List.any_eq_true]at this
   exact this
theorem yp {pq:List Nat} : ∀ {l:List Nat},la is pq l=true→∀ (x:Nat) (l1 l2:List Nat),l=l1++x::l2→jx is x = .alloc→x∈pq→∀ y∈l2,y∈pq
 | [],_,x,l1,l2,h=>by simp at h
 | a::l,hb,x,l1,l2,h=>by
  simp only[la,Bool.and_eq_true,Bool.or_eq_true,Bool.not_eq_true',Bool.and_eq_false_iff]at hb
  intro hk hx y hy
  cases l1 with
  | nil=>
   simp only[List.nil_append,List.cons.injEq]at h
   obtain⟨rfl,rfl⟩:=h
   rcases hb.1 with h1|h1
   ·rcases h1 with h1 | h1
    ·simp[hk]at h1
    ·rw [← Bool.not_eq_true,List.contains_iff_mem]at h1
     exact(h1 hx).elim
   ·rw [List.all_eq_true]at h1
    have:=h1 y hy
    rwa [List.contains_iff_mem]at this
  |cons b l1=>
   simp only[List.cons_append,List.cons.injEq]at h
   exact yp hb.2 x l1 l2 h.2 hk hx y hy
end
structure Pd where
 q:Nat
 t:Nat
 z:List D
 b:Nat
structure acQ (is:List AI) (R:List (Nat×Nat)) (B:e7) (M:Map) (s:St) (act:Act) (w:World) (p:Pd):Prop where
 mem:p.q∈R.map (·.1)
 ai:is[p.q]? = some (.op (some p.t) none (.alloc p.z))
 cells : ∃ (vs:Array Value) (T:TypeId),w.heap[p.b]? = some (.cells vs T (0,0))∧vs.size=p.z.length∧(∀ v∈vs,v.oneCell'=true)∧
  ∀ (M:Map) (s:St) (i:Nat) (d:D) (v:Value),p.z[i]? = some d→vs[i]? = some v→RD M s d v
 unk:M7 M s p.b
 base:B.w.heap.size≤p.b
 slot:act.tmps.getD p.t Go.undef = .pointer (some ⟨p.b,0,none⟩)
def zt (P:Program) (is:List AI) (K:Tm→St→Prop) (B:e7) (nt:Nat) (R:List (Nat×Nat)) (eA:List Pd) (act:Act) (w:World):Prop:=
 ∃ (M:Map) (s:St) (tm tE:Tm) (bN:List St),Ext B.M B.s B.w M s w∧Rel M s w∧lW M s tE act.tmps∧(∀ t,(∀ p∈eA,p.t≠t)→tE.get t=tm.get t)∧
  act.tmps.size=nt∧act.defers = []∧kX P is K R bN tm s∧(∀ p∈eA,acQ is R B M s act w p)∧
  (∀ p∈eA,∀ p'∈eA,p.q=p'.q∨p.t=p'.t∨p.b=p'.b→p=p')
structure rD (is:List AI) (af pt:List (List Nat)) (dH:Array Bool) (R:List (Nat×Nat)) (eA:List Pd):Prop where
 ok:uD is af pt [] R=true
 Hj : ∀ i,i<is.length→(dH.getD i false=true↔(i∉R.map (·.1)∨∃ p∈eA,p.q=i))
 cl : ∀ i,i<is.length→dH.getD i false=true→∀ j∈gZ pt i,dH.getD j false=true
 size:dH.size=is.length
 lt : ∀ x∈R,x.1<is.length
section
variable {P:Program} {is:List AI} {af pt:List (List Nat)} {K:Tm→St→Prop} {B:e7} {nt:Nat}
theorem acR {dH:Array Bool} {q b:Nat} {R:List (Nat×Nat)} {eA:List Pd} {act:Act} {w:World} (hs:rD is af pt dH ((q,b)::R) eA) (h:zt P is K B nt ((q,b)::R) eA act w)
 {p:Pd} (hp:p∈eA) (uH:p.q=q) :
 rD is af pt dH R (eA.filter fun p'=>decide (p'.q≠q))∧zt P is K B nt R (eA.filter fun p'=>decide (p'.q≠q)) act w:=by
 have iM : ∀ p',p'∈(eA.filter fun p'=>decide (p'.q≠q))↔p'∈eA∧p'.q≠q:=fun p'=>by simp
 constructor
 ·have pQ:=hs.ok
  have DO:=tD (X:= []) pQ
  refine⟨Gb (X:= []) pQ,fun i hi=>?_,hs.cl,hs.size,fun x hx=>hs.lt x (List.mem_cons_of_mem _ hx)⟩
  rw[hs.Hj i hi]
  simp only[List.map_cons,List.mem_cons,not_or]
  have hqR:q∉R.map (·.1):=fun hm=>by
   obtain⟨x,hx,rfl⟩:=List.mem_map.1 hm
   exact(Cs DO.2.2.2.2 x hx).1 (by simp)
  constructor
  ·rintro(⟨h1,h2⟩ | ⟨p',h1,h2⟩)
   ·exact .inl h2
   ·by_cases hq:i=q
    ·subst hq;exact .inl hqR
    ·exact .inr ⟨p',(iM p').2 ⟨h1,by rw[h2];exact hq⟩,h2⟩
  ·rintro(h1 | ⟨p',h1,h2⟩)
   ·by_cases hq:i=q
    ·subst hq;exact .inr ⟨p,hp,uH⟩
    ·exact .inl ⟨hq,h1⟩
   ·exact .inr ⟨p',((iM p').1 h1).1,h2⟩
 ·obtain⟨M,s,tm,tE,bN,e,r,ht,qx,hn,hd,hg,wH,sW⟩:=h
  have hk:=wH p hp
  obtain⟨vs,T,hh,hl,h1,h2⟩:=hk.cells
  have wF:=hk.ai
  rw[uH]at wF
  simp only[kX,wF,AI.kind,gK]at hg
  obtain⟨d,s',jR,hg⟩:=hg
  have qW:aO (.alloc p.z) tm s=some (d,s'):=jR
  simp only[aO,Option.some.injEq,Prod.mk.injEq]at qW
  obtain⟨rfl,rfl⟩:=qW
  obtain⟨r',e',le⟩:=r.agS e hk.unk hk.base p.z vs T hh hl h1 (h2 M s)
  refine⟨_,_,_,tE.put (some p.t) (.ptr s.ah.length 0),_,e',r',fun u=>?_,fun t M8=>?_,hn,hd,hg,fun p' mO=>?_,fun p1 h1 p2 h2=>sW p1 ((iM p1).1 h1).1 p2 ((iM p2).1 h2).1⟩
  ·rw [Tm.lu]
   split
   ·rename_i heq
    cases heq
    rw[hk.slot]
    have:(M.dZ s.ah.length p.b).mu s.ah.length=p.b:=by simp[Map.dZ,Map.mu]
    have h5:=RD.ptr (M:=M.dZ s.ah.length p.b) (s:= {s with ah:=s.ah++ [p.z]}) s.ah.length 0 (by simp) (by simp[Map.dZ,Map.ob,Ob.plain])
    rw[this]at h5
    exact h5
   ·exact(ht u).mono le
  ·simp only [AI.dst]
   rw[Tm.lu,Tm.lu]
   split
   ·rfl
   ·rename_i fi
    refine qx t fun p' mO=>?_
    by_cases hq:p'.q=q
    ·have:=sW p' mO p hp (.inl (hq.trans uH.symm))
     subst this
     exact fun h=>fi (by rw[h])
    ·exact M8 p' ((iM p').2 ⟨mO,hq⟩)
  ·obtain⟨hp1,hp2⟩:=(iM p').1 mO
   have uB:=wH p' hp1
   refine⟨?_,uB.ai,uB.cells,⟨fun o ho=>?_,uB.unk.t,uB.unk.g⟩,uB.base,uB.slot⟩
   ·have:=uB.mem
    simp only[List.map_cons,List.mem_cons]at this
    exact this.resolve_left hp2
   ·simp at ho
    rcases Nat.lt_or_ge o s.ah.length with h5|h5
    ·rw[show(M.dZ s.ah.length p.b).mu o=M.mu o from congrArg Prod.fst (tq M p.b .any h5)];exact uB.unk.o o h5
    ·have:o=s.ah.length:=by omega
     subst this
     have:(M.dZ s.ah.length p.b).mu s.ah.length=p.b:=by simp[Map.dZ,Map.mu]
     rw[this]
     intro hb
     have:=sW p hp p' hp1 (.inr (.inr hb))
     subst this
     exact hp2 uH
theorem norm {dH:Array Bool} {act:Act} {w:World} : ∀ (R:List (Nat×Nat)) (eA:List Pd),rD is af pt dH R eA→zt P is K B nt R eA act w→
 ∃ R' wI,rD is af pt dH R' wI∧zt P is K B nt R' wI act w∧∀ x l,R'=x::l→∀ p∈wI,p.q≠x.1
 | [],eA,hs,h=>⟨[],eA,hs,h,fun _ _ he=>by cases he⟩
 | (q,b)::R,eA,hs,h=>by
  by_cases hp : ∃ p∈eA,p.q=q
  ·obtain⟨p,hp,uH⟩:=hp
   obtain⟨h1,h2⟩:=acR hs h hp uH
   exact norm R _ h1 h2
  ·refine⟨(q,b)::R,eA,hs,h,fun x l he p hpm uH=>hp ⟨p,hpm, ?_⟩⟩
   cases he
   exact uH
theorem Yo {ops:Array Oper} {q:Nat} {o:Oper} {ai:AI} (hi:ops[q]? = some o) (hc:cI P nt ops o=some ai) {R R':List (Nat×Nat)} {eA:List Pd} {act:Act} {w:World} {M:Map} {s s1:St} {tm tE:Tm} {d:D} {Yp:List St}
 (e:Ext B.M B.s B.w M s w) (r:Rel M s w) (ht:lW M s tE act.tmps) (qx : ∀ t,(∀ p∈eA,p.t≠t)→tE.get t=tm.get t) (hn:act.tmps.size=nt) (hd:act.defers = [])
 (wH : ∀ p∈eA,acQ is R B M s act w p) (sW : ∀ p∈eA,∀ p'∈eA,p.q=p'.q∨p.t=p'.t∨p.b=p'.b→p=p')
 (hv:iW P [ai] (fun a b=>a=tE.put ai.dst d∧b=s1) tE s) (hg:kX P is K R' Yp (tm.put ai.dst d) s1)
 (iM : ∀ p∈eA,p.q∈R'.map (·.1)) (qJ : ∀ p∈eA,ai.dst≠some p.t) {Q:Exit→Act→World→Prop} :
 wpOp P ops Q q (zt P is K B nt R' eA) act w:=by
 refine xo hi hc r (B.laid.ext e) ht hv fun d' v s2 w1 M1 hk e1 r1 jy=>?_
 obtain⟨rn,rfl⟩:=hk
 have hde:=tC hc
 have hC : ∀ t,o.dst=some t→t<act.tmps.size:=fun t h=>by rw[hn];exact yl hc t h
 refine⟨M1,s2,tm.put ai.dst d,tE.put ai.dst d,Yp,e.trans e1,r1, ?_,fun t M8=>?_, ?_, ?_,hg,fun p hp=>?_,sW⟩
 ·rw [← rn,hde]
  exact(ht.mono e1.le).put hC jy
 ·rw[Tm.lu,Tm.lu,qx t M8]
 ·cases ho:o.dst<;>simp[Act.put,hn]
 ·cases ho:o.dst<;>simp[Act.put,hd]
 ·have hk:=wH p hp
  obtain⟨vs,T,hh,hl,h1,h2⟩:=hk.cells
  have hb:=ko hh
  refine⟨iM p hp,hk.ai,⟨vs,T,by rw[e1.kept p.b hb hk.unk.o hk.unk.t];exact hh,hl,h1,h2⟩,hk.unk.mono e1 hb,hk.base, ?_⟩
  rw[← hk.slot]
  have:=qJ p hp
  rw[hde]at this
  cases ho:o.dst with
  |none=>rfl
  |some t=>
   rw[ho]at this
   have fi:t≠p.t:=fun h=>this (by rw[h])
   simp[Act.put,Array.getElem?_setIfInBounds_ne fi]
theorem OV {ai:AI} (hm:gK ai.kind=false) {tm:Tm} {s:St} {d:D} (h:j9 ai tm s=some d):iW P [ai] (fun a b=>a=tm.put ai.dst d∧b=s) tm s:=by
 cases ai with
 | op dst g o=>
  have hko:=M6 hm
  have key : ∀ {d},(aO o tm s).map (·.1)=some d→aO o tm s=some (d,s):=by
   intro d h
   cases he:aO o tm s with
   |none=>rw[he]at h;cases h
   |some p=>
    obtain⟨d',s'⟩:=p
    rw[he]at h
    simp only[Option.map_some,Option.some.injEq]at h
    subst h
    rw[Mf (by rw[← hko];exact hm) he]
  simp only[iW,AI.dst]
  cases g with
  |none=>
   simp only[j9]at h
   simp only[guarded,key h,and_self]
  | some p=>
   obtain⟨t,want⟩:=p
   simp only[j9]at h
   simp only[guarded]
   split at h
   ·rename_i b hb
    simp only[hb]
    split at h
    ·rename_i heq
     refine⟨fun _=>by simp only[key h,and_self],fun fi=>?_⟩
     subst heq
     cases b<;>cases fi
    ·rename_i fi
     cases h
     exact⟨fun heq=>(fi heq).elim,fun _=>by simp⟩
   ·rename_i ds hb
    cases h
    simp only[hb,and_self]
   ·cases h
 |call dst g f xs=>cases hm
 |nil dst g n x=>cases hm
 |jw dst g t xs=>cases hm
theorem Bu {g:Option (Nat×Bool)} {tm:Tm} {A A' C C':Prop} (ha:A→A') (hc:C→C') (hh:guarded g tm A C):guarded g tm A' C':=by
 cases g with
 |none=>exact ha hh
 | some p=>
  obtain⟨t,want⟩:=p
  unfold guarded at *
  simp only at *
  split
  ·rename_i b hb;rw[hb]at hh;exact⟨fun e=>ha (hh.1 e),fun e=>hc (hh.2 e)⟩
  ·rename_i hb;rw[hb]at hh;exact hc hh
  ·rename_i x h1 h2
   split at hh
   ·exact h1 _ ‹_›
   ·exact h2 _ ‹_›
   ·exact hh
theorem J9 {ai:AI} {tm:Tm} {s s1:St} {d:D} (h:sT P ai tm s d s1):iW P [ai] (fun a b=>a=tm.put ai.dst d∧b=s1) tm s:=by
 cases ai with
 |op dst g o=>
  refine Bu (fun e=>?_) (fun e=>?_) h
  ·rw[e];exact⟨rfl,rfl⟩
  ·obtain⟨rfl,rfl⟩:=e;exact⟨rfl,rfl⟩
 |call dst g f xs=>
  refine Bu (fun e=>?_) (fun e=>?_) h
  ·exact e.mono fun x y hxy=>by obtain⟨rfl,rfl⟩:=hxy;exact⟨rfl,rfl⟩
  ·obtain⟨rfl,rfl⟩:=e;exact⟨rfl,rfl⟩
 |nil dst g n x=>exact h.elim
 |jw dst g t xs=>exact h.elim
end
end Go.Abs
namespace Go.Abs
section
variable {P:Program} {is:List AI} {af pt:List (List Nat)} {K:Tm→St→Prop} {B:e7} {nt:Nat}
theorem Ct {ops:Array Oper} : ∀ {ol:List Oper} {is:List AI},rj P nt ops ol=some is→is.length=ol.length∧∀ (i:Nat) (o:Oper),ol[i]? = some o→∃ ai,is[i]? = some ai∧cI P nt ops o=some ai
 | [],is,h=>by cases h;exact⟨rfl,by simp⟩
 | o::ol,is,h=>by
  unfold rj at h
  split at h
  ·rename_i ai Sd h1 h2
   cases h
   obtain⟨g1,g2⟩:=Ct h2
   refine⟨by simp[g1],fun i o' ho=>?_⟩
   cases i with
   |zero=>simp at ho;subst ho;exact⟨ai,rfl,h1⟩
   |succ i=>exact g2 i o' (by simpa using ho)
  ·cases h
theorem sX {dH:Array Bool} {i:Nat} (h:i<dH.size):dH.getD i true=dH.getD i false:=by
 simp[h]
theorem rD.done {dH:Array Bool} {X Y:List (Nat×Nat)} {q b:Nat} {eA:List Pd} (hs:rD is af pt dH (X++(q,b)::Y) eA) (hq:q<is.length)
 (Hk : ∀ j∈gZ pt q,dH.getD j false=true):rD is af pt (dH.setIfInBounds q true) (X++Y) eA:=by
 obtain⟨g1,g2,g3,g4,g5⟩:=tD hs.ok
 have hqY:q∉Y.map (·.1):=fun hm=>by
  obtain⟨x,hx,rfl⟩:=List.mem_map.1 hm
  exact(Cs g5 x hx).1 (by simp)
 refine⟨Gb hs.ok,fun i hi=>?_,fun i hi hl j hj=>?_,by simp[hs.size],fun x hx=>hs.lt x (by simp at hx ⊢;exact hx.imp id .inr)⟩
 ·by_cases uG:i=q
  ·subst uG
   have:i<dH.size:=by rw[hs.size];exact hq
   simp only[List.map_append,List.mem_append,g2,hqY,or_self,not_false_eq_true,true_or,iff_true]
   simp[this]
  ·rw [getD_set_ne false (Ne.symm uG),hs.Hj i hi]
   simp[uG]
 ·by_cases uG:i=q
  ·subst uG;exact getD_set_true (Hk j hj)
  ·rw [getD_set_ne false (Ne.symm uG)]at hl
   exact getD_set_true (hs.cl i hi hl j hj)
theorem rD.flag {dH:Array Bool} {R:List (Nat×Nat)} {eA:List Pd} (hs:rD is af pt dH R eA) {p:Pd} (hq:p.q<is.length)
 (Hk : ∀ j∈gZ pt p.q,dH.getD j false=true):rD is af pt (dH.setIfInBounds p.q true) R (p::eA):=by
 refine⟨hs.ok,fun i hi=>?_,fun i hi hl j hj=>?_,by simp[hs.size],hs.lt⟩
 ·by_cases uG:i=p.q
  ·subst uG
   have:p.q<dH.size:=by rw[hs.size];exact hq
   simp[this]
  ·rw [getD_set_ne false (Ne.symm uG),hs.Hj i hi]
   have fi:p.q≠i:=fun h=>uG h.symm
   simp[fi]
 ·by_cases uG:i=p.q
  ·subst uG;exact getD_set_true (Hk j hj)
  ·rw [getD_set_ne false (Ne.symm uG)]at hl
   exact getD_set_true (hs.cl i hi hl j hj)
theorem OW {ai:AI} (h:ai.kind = .alloc) : ∃ t z,ai = .op (some t) none (.alloc z):=by
 cases ai with
 | op dst g o=>
  unfold AI.kind at h
  split at h
  ·rename_i heq;cases heq;exact⟨_,_,rfl⟩
  ·rename_i heq
   cases heq
   exfalso
   revert h
   cases o<;>simp[AO.kind]
  ·cases h
 |call dst g f xs=>cases h
 |nil dst g n x=>cases h
 |jw dst g t xs=>cases h
theorem OX {ops:Array Oper} (xp:rj P nt ops ops.toList=some is) (OY:xY af pt is.length=true)
 (hK : ∀ tm bE s,Tm.eqv tm bE→K tm s→K bE s) {dH:Array Bool} {R:List (Nat×Nat)} {eA:List Pd} {act:Act} {w:World} (hs:rD is af pt dH R eA) (h:zt P is K B nt R eA act w)
 (agT : ∀ x l,R=x::l→∀ p∈eA,p.q≠x.1) {q:Nat} (hq:q<is.length) (EL:dH.getD q false=false) (jy : ∀ j∈gZ af q,j<is.length∧dH.getD j false=true)
 {Q:Exit→Act→World→Prop} {K2:Act→World→Prop} (hK2 : ∀ R' wI a' w',rD is af pt (dH.setIfInBounds q true) R' wI→zt P is K B nt R' wI a' w'→K2 a' w'):wpOp P ops Q q K2 act w:=by
 obtain⟨hlen,hE⟩:=Ct xp
 have vr:q<ops.size:=by rw[hlen]at hq;simpa using hq
 obtain⟨ai,wF,Sx⟩:=hE q ops[q] (by simp[vr])
 have hi:ops[q]? = some ops[q]:=by simp[vr]
 have Hk : ∀ j∈gZ pt q,dH.getD j false=true:=fun j hj=>by
  rcases Dn OY q hq j hj with h1|⟨k,h1,h2⟩
  ·exact(jy j h1).2
  ·exact hs.cl k (jy k h1).1 (jy k h1).2 j h2
 have Sy : ∀ p∈eA,p.q≠q:=fun p hp uH=>by
  have:=(hs.Hj q hq).2 (.inr ⟨p,hp,uH⟩)
  rw[EL]at this;cases this
 have hqR:q∈R.map (·.1):=by
  by_cases hm:q∈R.map (·.1)
  ·exact hm
  ·have:=(hs.Hj q hq).2 (.inl hm)
   rw[EL]at this;cases this
 obtain⟨⟨q',b⟩,hx,hqq⟩:=List.mem_map.1 hqR
 simp only at hqq
 subst hqq
 obtain⟨X,Y,rfl⟩:=List.append_of_mem hx
 obtain⟨g1,g2,g3,g4,g5⟩:=tD hs.ok
 rw[List.append_nil]at g1 g5
 obtain⟨M,s,tm,tE,bN,e,r,ht,qx,hn,hd,hg,wH,sW⟩:=h
 have Sz:jx is q'=ai.kind:=by simp[jx,wF]
 -- what must have come up ahead of it, is not here any more, but for what was allocated early
 have Yq : ∀ a∈X.map (·.1),a∈gZ pt q'→∃ p∈eA,p.q=a:=fun a ha eS=>by
  have h1:=Hk a eS
  obtain⟨x,hxX,rfl⟩:=List.mem_map.1 ha
  rcases(hs.Hj x.1 (hs.lt x (by simp[hxX]))).1 h1 with h2|h2
  ·exact(h2 (by simp;exact .inl ⟨x.2,hxX⟩)).elim
  ·exact h2
 have Yr : ∀ x l,X=x::l→x.1∉gZ pt q':=fun x l hX hxp=>by
  obtain⟨p,hp,uH⟩:=Yq x.1 (by simp[hX]) hxp
  exact agT x (l++(q',b)::Y) (by simp[hX]) p hp uH
 have hpk : ∀ p∈eA,jx is p.q = .alloc:=fun p hp=>by simp[jx,(wH p hp).ai,AI.kind]
 have DO : ∀ p∈eA,(p.q∈X.map (·.1)→lk is p.q q'=true)→(∀ t,ai.dst=some t→t≠p.t)∧p.t∉ai.reads:=fun p hp hX=>by
  have hk:=wH p hp
  have hm:=hk.mem
  simp only[List.map_append,List.map_cons,List.mem_append,List.mem_cons]at hm
  rcases hm with hm|hm|hm
  ·have:=hX hm
   simp only[lk,hk.ai,wF]at this
   obtain⟨p1,p2,p3⟩:=apart_spec this
   exact⟨fun t ht he=>p3 p.t rfl (by rw[ht,he]),p1 p.t rfl⟩
  ·exact(Sy p hp hm).elim
  ·obtain⟨x,hxY,Ys⟩:=List.mem_map.1 hm
   have:=(Cs g5 x hxY).2 (by rw[Ys];exact hpk p hp) q' (by simp)
   rw[Ys]at this
   simp only[lk,hk.ai,wF]at this
   obtain⟨p1,p2,p3⟩:=apart_spec this
   exact⟨fun t ht he=>p3 t ht (by rw[he];rfl),p2 p.t rfl⟩
 have SA:(∀ p∈eA,p.t∉ai.reads)→∀ t∈ai.reads,tm.get t=tE.get t:=fun hp t ht=>(qx t fun p hpm he=>hp p hpm (by rw[he];exact ht)).symm
 have Yt : ∀ p∈eA,p.q∈(X++Y).map (·.1):=fun p hp=>by
  have hm:=(wH p hp).mem
  have:=Sy p hp
  simp only[List.map_append,List.map_cons,List.mem_append,List.mem_cons]at hm ⊢
  rcases hm with hm|hm|hm
  ·exact .inl hm
  ·exact(this hm).elim
  ·exact .inr hm
 by_cases Av:ai.kind = .alloc
 ·-- an allocation
  obtain⟨t,z,rfl⟩:=OW Av
  have eS : ∀ a∈X.map (·.1),lk is a q'=true:=fun a ha=>by
   unfold oV at g1
   rw[Sz,Av]at g1
   simp only[List.all_reverse,List.all_eq_true]at g1
   exact g1 a ha
  have Aw:=fun p hp=>DO p hp (eS p.q)
  refine Mg hi Sx fun vs T hl h1 h2=>?_
  obtain⟨r1,e1,u1⟩:=r.idle (.cells vs T)
  have acW:t<act.tmps.size:=by
   rw[hn]
   exact yl Sx t (by rw[← tC Sx];rfl)
  have:=hs.flag (p:=⟨q',t,z,w.heap.size⟩) hq Hk
  refine hK2 _ _ _ _ this ⟨M,s,tm,tE.put (some t) .junk,bN,e.trans e1,r1,lW.put ht (dst:=some t) (fun u hu=>by cases hu;exact acW) (.junk _),fun u hu=>?_,by simp[Act.put,hn],by simp[Act.put,hd],hg,fun p hp=>?_,fun p hp p' mO he=>?_⟩
  ·have h3:=hu ⟨q',t,z,w.heap.size⟩ (by simp)
   rw[Tm.lu,if_neg (by simpa using h3)]
   exact qx u fun p hp=>hu p (List.mem_cons_of_mem _ hp)
  ·rcases List.mem_cons.1 hp with rfl | hp
   ·refine⟨by simp,wF,⟨vs,T,heap_alloc_new w _,hl,h1,h2⟩,u1,e.size, ?_⟩
    simp[Act.put,acW]
   ·have hk:=wH p hp
    obtain⟨fB,T',kn,mD,sk,uF⟩:=hk.cells
    refine⟨hk.mem,hk.ai,⟨fB,T',by rw[heap_alloc_old w _ _ (ko kn)];exact kn,mD,sk,uF⟩,hk.unk,hk.base, ?_⟩
    rw[← hk.slot]
    have fi:t≠p.t:=(Aw p hp).1 t rfl
    simp[Act.put,Array.getElem?_setIfInBounds_ne fi]
  ·have dr : ∀ p∈eA,¬ (q'=p.q∨t=p.t∨w.heap.size=p.b):=fun p hp h=>by
    rcases h with h|h|h
    ·exact Sy p hp h.symm
    ·exact(Aw p hp).1 t rfl h
    ·obtain⟨fB,T',kn,_⟩:=(wH p hp).cells
     have:=ko kn
     omega
   rcases List.mem_cons.1 hp with rfl|hp<;>rcases List.mem_cons.1 mO with rfl|mO
   ·rfl
   ·exact(dr p' mO he).elim
   ·exact(dr p hp (he.imp Eq.symm (Or.imp Eq.symm Eq.symm))).elim
   ·exact sW p hp p' mO he
 ·by_cases n8:gK ai.kind=true
  ·-- a step that changes something: it stands first
   have hkc:ai.kind = .core:=by
    cases hk:ai.kind<;>simp_all [gK]
   have hX:X = []:=by
    cases X with
    |nil=>rfl
    |cons x l=>
     refine(Yr x l rfl ?_).elim
     unfold oV at g1
     rw[Sz,hkc]at g1
     simp only[List.all_reverse,List.all_eq_true]at g1
     have:=g1 x.1 (by simp)
     rwa [List.contains_iff_mem]at this
   subst hX
   have Aw:=fun p hp=>DO p hp (fun h=>by simp at h)
   simp only[List.nil_append,kX,wF,n8]at hg
   obtain⟨d,s1,jR,hg⟩:=hg
   have akt:=xm (SA fun p hp=>(Aw p hp).2) jR
   refine wpOp_mono (fun a' w' hr=>hK2 _ _ _ _ (hs.done hq Hk) hr) ?_
   exact Yo hi Sx e r ht qx hn hd wH sW (J9 akt) hg Yt (fun p hp he=>(Aw p hp).1 _ he rfl)
  ·-- a step that changes nothing
   have hm:gK ai.kind=false:=by simpa using n8
   have nR : ∀ a∈X.map (·.1),a∉gZ pt q':=fun a ha eS=>by
    obtain⟨p,hp,uH⟩:=Yq a ha eS
    have Hf:jx is a = .alloc:=by rw[← uH];exact hpk p hp
    have kT:la is (gZ pt q') (X.map (·.1)).reverse=true:=by
     unfold oV at g1
     rw[Sz]at g1
     cases hk:ai.kind with
     |pure=>simp only[hk,Bool.and_eq_true]at g1;exact g1.2
     |load=>simp only[hk,Bool.and_eq_true]at g1;exact g1.1.2
     |alloc=>exact(Av hk).elim
     |core=>rw[hk]at hm;cases hm
    cases X with
    |nil=>simp at ha
    | cons x l=>
     have ha2:a∈((x::l).map (·.1)).reverse:=List.mem_reverse.2 ha
     obtain⟨l1,l2,Dp⟩:=List.append_of_mem ha2
     have DQ:=yp kT a l1 l2 Dp Hf eS
     refine Yr x l rfl ?_
     cases lb:l2.reverse with
     |nil=>
      have h3:l2 = []:=by simpa using lb
      subst h3
      have:=congrArg List.reverse Dp
      simp at this
      rw[this.1];exact eS
     |cons y l3=>
      have:=congrArg List.reverse Dp
      simp only[List.reverse_reverse,List.map_cons,List.reverse_append,List.reverse_cons,List.reverse_nil,List.append_assoc,lb,List.cons_append,List.nil_append,List.cons.injEq]at this
      rw[this.1]
      exact DQ y (by rw[← List.mem_reverse,lb];simp)
   have eS : ∀ a∈X,lk is a.1 q'=true:=fun a ha=>by
    have h3 : ∀ x∈(X.map (·.1)).reverse,((gZ pt q').contains x ||lk is x q')=true:=by
     unfold oV at g1
     rw[Sz]at g1
     cases hk:ai.kind with
     |pure=>simp only[hk,Bool.and_eq_true]at g1;exact List.all_eq_true.1 g1.1
     |load=>simp only[hk,Bool.and_eq_true]at g1;exact List.all_eq_true.1 g1.1.1
     |alloc=>exact(Av hk).elim
     |core=>rw[hk]at hm;cases hm
    have:=h3 a.1 (List.mem_reverse.2 (List.mem_map_of_mem ha))
    simp only[Bool.or_eq_true,List.contains_iff_mem]at this
    exact this.resolve_left (nR a.1 (List.mem_map_of_mem ha))
   have acX:ai.kind = .load→jQ is (X.map (·.1))≤b:=fun hk=>by
    unfold oV at g1
    rw[Sz,hk]at g1
    simp only[Bool.and_eq_true,decide_eq_true_eq]at g1
    have h3:=g1.2
    have h4:(X.map (·.1)).reverse.filter (fun a=> !(gZ pt q').contains a)=(X.map (·.1)).reverse:=by
     rw[List.filter_eq_self]
     intro a ha
     have:=nR a (List.mem_reverse.1 ha)
     simpa using this
    rw[h4]at h3
    unfold jQ at h3 ⊢
    rw[List.filter_reverse,List.length_reverse]at h3
    exact h3
   have Aw:=fun p hp=>DO p hp (fun h=>by
    obtain⟨x,hx,Ys⟩:=List.mem_map.1 h
    rw[← Ys];exact eS x hx)
   obtain⟨d,h1,_,JR⟩:=xn hK wF hm Y X bN tm s eS acX hg
   have sk:j9 ai tE s=some d:=by rw[← qY (SA fun p hp=>(Aw p hp).2)];exact h1
   refine wpOp_mono (fun a' w' hr=>hK2 _ _ _ _ (hs.done hq Hk) hr) ?_
   exact Yo hi Sx e r ht qx hn hd wH sW (OV hm sk) JR Yt (fun p hp he=>(Aw p hp).1 _ he rfl)
theorem Dq {o:Oper} {j:Nat} : j∈mP o↔∃ e∈o.after,Region.binds .any e=true∧e.on=j:=by
 simp only[mP,List.mem_map,List.mem_filter,Array.mem_toList_iff]
 constructor
 ·rintro⟨e,⟨h1,h2⟩,h3⟩;exact⟨e,h1,h2,h3⟩
 ·rintro⟨e,h1,h2,h3⟩;exact⟨e,⟨h1,h2⟩,h3⟩
theorem OZ {ops:Array Oper} (xp:rj P nt ops ops.toList=some is) (OY:xY (ops.toList.map mP) pt is.length=true)
 (acY : ∀ i,i<is.length→∀ j∈gZ (ops.toList.map mP) i,j<is.length) {Q:Exit→Tm→St→Prop} (hK : ∀ tm bE s,Tm.eqv tm bE→K tm s→K bE s)
 (hKQ : ∀ tm s act w,K tm s→Holds B nt tm s act w→pX B nt Q .normal act w) :
 ∀ (fuel:Nat) (dH:Array Bool) (R:List (Nat×Nat)) (eA:List Pd) (act:Act) (w:World) (U:List Nat),U.length≤fuel→(∀ j,j<is.length→dH.getD j false=false→j∈U)→
  rD is (ops.toList.map mP) pt dH R eA→zt P is K B nt R eA act w→wpAny P .any ops (pX B nt Q) fuel dH act w:=by
 obtain⟨hlen,_⟩:=Ct xp
 have sQ:is.length=ops.size:=by rw[hlen];simp
 have acZ : ∀ (j:Nat) (o:Oper),ops[j]? = some o→gZ (ops.toList.map mP) j=mP o:=fun j o h=>by
  simp[gZ,List.getD,h]
 have fin : ∀ {dH:Array Bool} {eA:List Pd} {act:Act} {w:World},zt P is K B nt [] eA act w→pX B nt Q .normal act w:=by
  intro dH eA act w h
  obtain⟨M,s,tm,tE,bN,e,r,ht,qx,hn,hd,hg,wH,sW⟩:=h
  have DL : ∀ p∈eA,False:=fun p hp=>by have:=(wH p hp).mem;simp at this
  exact hKQ tE s act w (hK tm tE s (fun t=>(qx t fun p hp=>(DL p hp).elim).symm) hg) ⟨M,e,r,ht,hn,hd⟩
 have SB : ∀ {dH:Array Bool} {R:List (Nat×Nat)} {eA:List Pd} {x:Nat×Nat} {l:List (Nat×Nat)},rD is (ops.toList.map mP) pt dH R eA→R=x::l→(∀ p∈eA,p.q≠x.1)→
  x.1∈Region.ready .any ops dH:=by
  intro dH R eA x l hs hR Sy
  subst hR
  have hx:=hs.lt x (by simp)
  rw[mem_ready]
  have EL:dH.getD x.1 false=false:=by
   cases hl:dH.getD x.1 false with
   |false=>rfl
   |true=>
    rcases(hs.Hj x.1 hx).1 hl with h1|⟨p,hp,uH⟩
    ·exact(h1 (by simp)).elim
    ·exact(Sy p hp uH).elim
  have hxo:x.1<ops.size:=by rw[← sQ];exact hx
  refine⟨by rw[sX (by rw[hs.size];exact hx)];exact EL,ops[x.1],by simp[hxo],fun e he hb=>?_⟩
  have hm:e.on∈gZ (ops.toList.map mP) x.1:=by rw[acZ x.1 ops[x.1] (by simp[hxo])];exact Dq.2 ⟨e,he,hb,rfl⟩
  obtain⟨_,_,_,g4,_⟩:=tD (X:= []) (q:=x.1) (b:=x.2) hs.ok
  obtain⟨h1,h2⟩:=g4 _ hm
  refine(hs.Hj e.on (acY x.1 hx _ hm)).2 (.inl ?_)
  simp only[List.map_cons,List.mem_cons,not_or]
  exact⟨h1,h2⟩
 intro fuel
 induction fuel with
 | zero=>
  intro dH R eA act w U hU EL hs h
  obtain⟨R',wI,oY,h',hn⟩:=norm R eA hs h
  have hUn:U = []:=List.length_eq_zero_iff.1 (by omega)
  have DQ : ∀ j,j<is.length→dH.getD j false=true:=fun j hj=>by
   cases hl:dH.getD j false with
   |true=>rfl
   |false=>have:=EL j hj hl;rw[hUn]at this;cases this
  have hR:R' = []:=by
   cases hR:R' with
   |nil=>rfl
   |cons x l=>
    have hx:=oY.lt x (by simp[hR])
    have:=SB oY hR (hn x l hR)
    rw[mem_ready,sX (by rw[oY.size];exact hx),DQ x.1 hx]at this
    cases this.1
  subst hR
  refine⟨?_,fin (dH:=dH) h'⟩
  cases hr:Region.ready .any ops dH with
  |nil=>rfl
  |cons j js=>
   have hj:j∈Region.ready .any ops dH:=by rw[hr];simp
   rw[mem_ready]at hj
   obtain⟨h1,o,ho,_⟩:=hj
   have Yu:j<is.length:=by rw[sQ];exact(Array.getElem?_eq_some_iff.1 ho).1
   rw[sX (by rw[hs.size];exact Yu),DQ j Yu]at h1
   cases h1
 | succ fuel ih=>
  intro dH R eA act w U hU EL hs h
  obtain⟨R',wI,oY,h',hn⟩:=norm R eA hs h
  refine⟨fun hr=>?_,fun i hi=>?_⟩
  ·cases hR:R' with
   |nil=>subst hR;exact fin (dH:=dH) h'
   |cons x l=>
    have:=SB oY hR (hn x l hR)
    rw[hr]at this
    cases this
  ·rw [mem_ready]at hi
   obtain⟨h1,o,ho,O0⟩:=hi
   have qX:i<is.length:=by rw[sQ];exact(Array.getElem?_eq_some_iff.1 ho).1
   rw[sX (by rw[hs.size];exact qX)]at h1
   refine OX xp OY hK oY h' hn qX h1 (fun j hj=>⟨acY i qX j hj, ?_⟩) fun R2 agU a2 w2 Al h2=>?_
   ·rw [acZ i o ho]at hj
    obtain⟨e,he,hb,rfl⟩:=Dq.1 hj
    exact O0 e he hb
   ·refine ih _ R2 agU a2 w2 (U.erase i) ?_ (fun j hj hl=> ?_) Al h2
    ·have:=List.length_erase_of_mem (EL i qX h1)
     omega
    ·have hji:j≠i:=fun e=>by
      subst e
      have:j<dH.size:=by rw[hs.size];exact qX
      simp[this]at hl
     rw[getD_set_ne false (Ne.symm hji)]at hl
     exact(List.mem_erase_of_ne hji).2 (EL j hj hl)
theorem Sem.par {is:List AI} {lN:List (Nat×Nat)} {Q:Exit→Tm→St→Prop} {tm:Tm} {s:St} (h:kX P is (Q .normal) lN [] tm s):Sem P B nt (.par is lN) Q tm s:=by
 intro c hc act w hh
 obtain⟨id,ops,rfl,hi,hm,pt,hp⟩:=lC hc
 simp only[Jv,Bool.and_eq_true,List.all_eq_true,List.mem_range,List.contains_iff_mem,decide_eq_true_eq]at hp
 obtain⟨⟨⟨⟨h1,h2⟩,h3⟩,h4⟩,h5⟩:=hp
 obtain⟨hlen,_⟩:=Ct hi
 have sQ:is.length=ops.size:=by rw[hlen];simp
 refine wp_region_any hm ?_
 obtain⟨M,e,r,ht,hn,hd⟩:=hh
 have key : ∀ (R:List (Nat×Nat)) (bN:List St) (tm:Tm) (s:St),kX P is (Q .normal) R bN tm s→kX P is (fun tm s=>∃ bE,tm.eqv bE∧Q .normal bE s) R bN tm s:=by
  intro R
  induction R with
  |nil=>intro bN tm s h;exact⟨tm,fun _=>rfl,h⟩
  | cons x R ih=>
   obtain⟨q,b⟩:=x
   intro bN tm s h
   unfold kX at h ⊢
   split at h
   ·exact h.elim
   ·split at h
    ·obtain⟨d,s',h1,h2⟩:=h;exact⟨d,s',h1,ih _ _ _ h2⟩
    ·obtain⟨d,h1,h2,h3⟩:=h;exact⟨d,h1,h2,ih _ _ _ h3⟩
 have hg:=key _ _ _ _ h
 refine OZ (K:=fun tm s=>∃ bE,tm.eqv bE∧Q .normal bE s) hi h1 h5 (fun tm bE s he ⟨t2,h3,h4⟩=>⟨t2,fun t=>(he t).symm.trans (h3 t),h4⟩)
  (fun tm s act w ⟨t2,h3,h4⟩ ⟨M,e,r,ht,hn,hd⟩=>⟨t2,s,h4,M,e,r,fun t=>by rw[← h3 t];exact ht t,hn,hd⟩) ops.size _ lN [] act _ (List.range is.length) (by simp[sQ]) (fun j hj _=>by simpa using hj)
  ⟨h2,fun i hi=>?_,fun i hi hl=>?_,by simp[sQ],h4⟩ ⟨M,s,tm,tm,[],⟨e.le,e.kept,e.tX,e.qF,e.sm,e.size,e.os,e.tape,e.output⟩,r.of_heap rfl,ht,fun _ _=>rfl,hn,hd,hg,by simp,by simp⟩
 ·have:i<ops.size:=by rw [← sQ];exact hi
  have h6:=h3 i hi
  simp only[List.not_mem_nil,false_and,exists_false,or_false]
  rw[show(Array.replicate ops.size false).getD i false=false by simp[this]]
  simp[h6]
 ·have:i<ops.size:=by rw [← sQ];exact hi
  rw[show(Array.replicate ops.size false).getD i false=false by simp[this]]at hl
  cases hl
end
end Go.Abs
namespace Go.Abs
theorem ZX (k:IntKind) (n:Int):D.row (.int k n)=some [.int k n]:=rfl
theorem Vl (b:Bool):D.row (.bool b)=some [.bool b]:=rfl
theorem ZY (l:List UInt8):D.row (.str l)=some [.str l]:=rfl
theorem Vm:D.row .ek=some [.ek]:=rfl
theorem ZZ (o f:Nat):D.row (.ptr o f)=some [.ptr o f]:=rfl
theorem Vn (r:List D) (f:Nat):D.row (.dL r f)=some [.dL r f]:=rfl
theorem SC (g:Tag) (z:Nat) (r:List (List D)):D.row (.slice g z r)=some [.slice g z r]:=rfl
theorem Z0 (cs:List D):D.row (.agg cs)=some cs:=rfl
theorem Z1 (v:Value):D.row (.val v)=some [.val v]:=rfl
theorem SD (T:TypeId) (o:Nat):D.row (.fm T o)=some [.fm T o]:=rfl
theorem Z2 (f:Nat) (cs:List D):D.row (.gi f cs)=some [.gi f cs]:=rfl
theorem Vo (o:Nat):D.row (.fS o)=some [.fS o]:=rfl
theorem Vp (w:Bool):Tag.cut .full w=if w then .full else .shared:=rfl
theorem O1 (w:Bool):Tag.cut .shared w = .shared:=rfl
theorem Vq (t:Nat) (y:Bool) (w:Bool):Tag.cut (.tok t y) w = .tok t y:=rfl
section
variable {P:Program}
def KC (P:Program) (r:List AI) (K:Tm→St→Prop) (tm:Tm) (dst:Option Nat) (d:D) (s:St):Prop:=iW P r K (tm.put dst d) s
def GI (P:Program) (g:D) (want:Bool) (i:AI) (r:List AI) (K:Tm→St→Prop) (tm:Tm) (s:St):Prop:=
 match g with
 | .bool b=>(b=want→iW P (i::r) K tm s)∧(b=(!want)→iW P r K (tm.put i.dst (.tuple [])) s)
 | .tuple _=>iW P r K (tm.put i.dst (.tuple [])) s
 |_=>False
def NI (P:Program) (dst:Option Nat) (neg:Bool) (x:D) (r:List AI) (K:Tm→St→Prop) (tm:Tm) (s:St):Prop:=
 match x with
 | .slice _ _ rows=>∀ b:Bool,(rows≠ []→b=false)→iW P r K (tm.put dst (.bool (if neg then !b else b))) s
 |_=>False
def uU (d:D) (A C:Prop):Prop:=
 match d with
 | .bool b=>(b=true→A)∧(b=false→C)
 |_=>False
theorem Sem.agV {B:e7} {nt:Nat} {Q:Exit→Tm→St→Prop} {tm:Tm} {s:St} {x:X} {a b:AC} (h:uU (x.ev tm) (Sem P B nt a Q tm s) (Sem P B nt b Q tm s)):Sem P B nt (.cond x a b) Q tm s:=by
 unfold uU at h
 split at h
 ·rename_i t ht
  exact Sem.cond ht h.1 h.2
 ·exact h.elim
def gM (P:Program) (K:Tm→St→Prop):List (AI×Nat)→List St→Tm→St→Prop
 | [],_,tm,s=>K tm s
 |(ai,b)::r,bN,tm,s=>
  match gK ai.kind with
  |true=>∃ d s',sT P ai tm s d s'∧gM P K r (s::bN) (tm.put ai.dst d) s'
  |false=>∃ d,j9 ai tm s=some d∧(ai.kind = .load→∀ s'∈bN.take b,j9 ai tm s'=some d)∧gM P K r bN (tm.put ai.dst d) s
def mW (is:List AI):List (Nat×Nat)→Option (List (AI×Nat))
 | []=>some []
 |(q,b)::r=>match is[q]?,mW is r with
  |some ai,some l=>some ((ai,b)::l)
  |_,_=>none
theorem Gc {is:List AI} {K:Tm→St→Prop} : ∀ {lN:List (Nat×Nat)} {items:List (AI×Nat)} {bN:List St} {tm:Tm} {s:St},mW is lN=some items→gM P K items bN tm s→kX P is K lN bN tm s
 | [],items,bN,tm,s,h,g=>by cases h;exact g
 | (q,b)::r,items,bN,tm,s,h,g=>by
  simp only[mW]at h
  split at h
  ·rename_i ai l h1 h2
   cases h
   simp only[gM]at g
   simp only[kX,h1]
   split at g
   ·rename_i hk
    obtain⟨d,s',g1,g2⟩:=g
    try simp only[hk]
    exact⟨d,s',g1,Gc h2 g2⟩
   ·rename_i hk
    obtain⟨d,g1,g2,g3⟩:=g
    try simp only[hk]
    exact⟨d,g1,g2,Gc h2 g3⟩
  ·cases h
theorem Sem.akv {B:e7} {nt:Nat} {Q:Exit→Tm→St→Prop} {tm:Tm} {s:St} {is:List AI} {lN:List (Nat×Nat)} {items:List (AI×Nat)} (hi:mW is lN=some items) (h:gM P (Q .normal) items [] tm s):Sem P B nt (.par is lN) Q tm s:=
 Sem.par (Gc hi h)
def AI.free:AI→AI
 | .op d _ o=> .op d none o
 | .call d _ f xs=> .call d none f xs
 | .nil d _ n x=> .nil d none n x
 | .jw d _ t xs=> .jw d none t xs
def GL (P:Program) (g:D) (want:Bool) (i:AI) (b:Nat) (r:List (AI×Nat)) (K:Tm→St→Prop) (bN:List St) (tm:Tm) (s:St):Prop:=
 match g with
 | .bool v=>(v=want→gM P K ((i,b)::r) bN tm s)∧(v=(!want)→gM P K r (if gK i.kind then s::bN else bN) (tm.put i.dst (.tuple [])) s)
 | .tuple _=>gM P K r (if gK i.kind then s::bN else bN) (tm.put i.dst (.tuple [])) s
 |_=>False
def CL (one:Bool) (P:Program) (f:Nat) (args:List D) (s:St) (K:D→St→Prop):Prop:=
 match one with
 |true=>∃ d s',az P f args s d s'∧K d s'
 |false=>bP P f args s K
def KL (P:Program) (K:Tm→St→Prop) (r:List (AI×Nat)) (bN:List St) (tm:Tm) (dst:Option Nat) (d:D) (s:St):Prop:=gM P K r bN (tm.put dst d) s
def n9 (i:AI) (tm:Tm) (d:D):List St→Prop
 | []=>True
 |s::r=>j9 i tm s=some d∧n9 i tm d r
theorem EM {i:AI} {tm:Tm} {d:D} : ∀ {l:List St},n9 i tm d l→∀ s∈l,j9 i tm s=some d
 | [],_,s,h=>by cases h
 |a::l,h,s,hs=>by
  rcases List.mem_cons.1 hs with rfl|hs
  ·exact h.1
  ·exact EM h.2 s hs
def PL (P:Program) (o:AO) (dst:Option Nat) (b:Nat) (r:List (AI×Nat)) (K:Tm→St→Prop) (bN:List St) (tm:Tm) (s:St):Prop:=
 match aO o tm s with
 |some (d,_)=>n9 (.op dst none o) tm d (bN.take b)∧gM P K r bN (tm.put dst d) s
 |none=>False
def ML (P:Program) (o:AO) (dst:Option Nat) (r:List (AI×Nat)) (K:Tm→St→Prop) (bN:List St) (tm:Tm) (s:St):Prop:=
 match aO o tm s with
 |some (d,s')=>gM P K r (s::bN) (tm.put dst d) s'
 |none=>False
def AO.core:AO→Bool
 | .alloc _=>true
 | .box _=>true
 | .vh .. =>true
 | .AZ _=>true
 | .store .. =>true
 | .app .. =>true
 | .ti .. =>true
 | .A0 .. =>true
 | .A1 .. =>true
 | .apps .. =>true
 | .uR=>true
 | .zb .. =>true
 | .A2 .. =>true
 |_=>false
theorem tF (dst:Option Nat) (g:Option (Nat×Bool)) (o:AO):gK (AI.op dst g o).kind=o.core:=by
 cases dst<;>cases g<;>cases o<;>rfl
def OL (P:Program) (o:AO) (dst:Option Nat) (b:Nat) (r:List (AI×Nat)) (K:Tm→St→Prop) (bN:List St) (tm:Tm) (s:St):Prop:=
 match o.core with
 |true=>ML P o dst r K bN tm s
 |false=>PL P o dst b r K bN tm s
theorem Ka {K:Tm→St→Prop} {dst:Option Nat} {o:AO} {b:Nat} {r:List (AI×Nat)} {bN:List St} {tm:Tm} {s:St} (h:OL P o dst b r K bN tm s) :
 gM P K ((.op dst none o,b)::r) bN tm s:=by
 unfold OL at h
 simp only[gM,tF]
 cases hc:o.core with
 | true=>
  simp only[hc,ML]at h
  simp only[]
  split at h
  ·rename_i d s' he
   exact⟨d,s',by simpa[sT,guarded]using he,h⟩
  ·exact h.elim
 | false=>
  simp only[hc,PL]at h
  simp only[]
  split at h
  ·rename_i d s' he
   exact⟨d,by simp[j9,he],fun _=>EM h.1,h.2⟩
  ·exact h.elim
theorem O2 {K:Tm→St→Prop} {dst:Option Nat} {f:Nat} {xs:List X} {b:Nat} {r:List (AI×Nat)} {bN:List St} {tm:Tm} {s:St} (h:CL true P f (xs.map (·.ev tm)) s (KL P K r (s::bN) tm dst)) :
 gM P K ((.call dst none f xs,b)::r) bN tm s:=by
 obtain⟨d,s',h1,h2⟩:=h
 exact⟨d,s',h1,h2⟩
theorem ac0 {K:Tm→St→Prop} {i:AI} {t:Nat} {w:Bool} {b:Nat} {r:List (AI×Nat)} {bN:List St} {tm:Tm} {s:St} {j:AI} (hf:(∃ d o,i = .op d none o∧j = .op d (some (t,w)) o)∨(∃ d f xs,i = .call d none f xs∧j = .call d (some (t,w)) f xs))
 (hg:tm.get t = .bool w) (h:gM P K ((i,b)::r) bN tm s):gM P K ((j,b)::r) bN tm s:=by
 rcases hf with ⟨d,o,rfl,rfl⟩|⟨d,f,xs,rfl,rfl⟩
 ·simp only [gM,tF]at h ⊢
  cases hc:o.core<;>simp only[hc]at h ⊢
  ·obtain⟨x,h1,h2,h3⟩:=h
   refine⟨x,by simpa[j9,hg]using h1,fun hk s' oY=>?_,h3⟩
   have uB:(AI.op d none o).kind = .load:=by
    cases d<;>cases o<;>first|exact hk|(cases hc;done)|(cases hk;done)
   simpa[j9,hg]using h2 uB s' oY
  ·obtain⟨x,s',h1,h2⟩:=h
   exact⟨x,s',by simpa[sT,guarded,hg]using h1,h2⟩
 ·obtain⟨x,s',h1,h2⟩:=h
  exact⟨x,s',by simpa[sT,guarded,hg]using h1,h2⟩
theorem SE {K:Tm→St→Prop} {i:AI} {t:Nat} {w:Bool} {b:Nat} {r:List (AI×Nat)} {bN:List St} {tm:Tm} {s:St} {j:AI} (hf:(∃ d o,i = .op d none o∧j = .op d (some (t,w)) o)∨(∃ d f xs,i = .call d none f xs∧j = .call d (some (t,w)) f xs))
 (hg:tm.get t = .bool (!w)∨∃ l,tm.get t = .tuple l) (h:gM P K r (if gK i.kind then s::bN else bN) (tm.put i.dst (.tuple [])) s):gM P K ((j,b)::r) bN tm s:=by
 rcases hf with ⟨d,o,rfl,rfl⟩|⟨d,f,xs,rfl,rfl⟩
 ·simp only [gM,tF]at h ⊢
  cases hc:o.core<;>simp only[hc]at h ⊢
  ·refine⟨.tuple [], ?_,fun hk s' oY=> ?_,h⟩
   ·rcases hg with hg|⟨l,hg⟩<;>simp[j9,hg]
   ·rcases hg with hg|⟨l,hg⟩<;>simp[j9,hg]
  ·refine⟨.tuple [],s, ?_,h⟩
   rcases hg with hg|⟨l,hg⟩<;>simp[sT,guarded,hg]
 ·refine⟨.tuple [],s, ?_,h⟩
  rcases hg with hg|⟨l,hg⟩<;>simp[sT,guarded,hg]
theorem M9 {K:Tm→St→Prop} {i j:AI} {t:Nat} {w:Bool} {b:Nat} {r:List (AI×Nat)} {bN:List St} {tm:Tm} {s:St} (hf:(∃ d o,i = .op d none o∧j = .op d (some (t,w)) o)∨(∃ d f xs,i = .call d none f xs∧j = .call d (some (t,w)) f xs))
 (h:GL P (tm.get t) w i b r K bN tm s):gM P K ((j,b)::r) bN tm s:=by
 unfold GL at h
 split at h
 ·rename_i v hv
  by_cases e:v=w
  ·exact ac0 hf (by rw[hv,e]) (h.1 e)
  ·exact SE hf (.inl (by rw[hv];cases v<;>cases w<;>simp_all)) (h.2 (by cases v<;>cases w<;>simp_all))
 ·rename_i l hl
  exact SE hf (.inr ⟨l,hl⟩) h
 ·exact h.elim
theorem Hl {K:Tm→St→Prop} {dst:Option Nat} {o:AO} {t:Nat} {w:Bool} {b:Nat} {r:List (AI×Nat)} {bN:List St} {tm:Tm} {s:St} (h:GL P (tm.get t) w (.op dst none o) b r K bN tm s) :
 gM P K ((.op dst (some (t,w)) o,b)::r) bN tm s:=M9 (.inl ⟨dst,o,rfl,rfl⟩) h
theorem Mi {K:Tm→St→Prop} {dst:Option Nat} {f:Nat} {xs:List X} {t:Nat} {w:Bool} {b:Nat} {r:List (AI×Nat)} {bN:List St} {tm:Tm} {s:St} (h:GL P (tm.get t) w (.call dst none f xs) b r K bN tm s) :
 gM P K ((.call dst (some (t,w)) f xs,b)::r) bN tm s:=M9 (.inr ⟨dst,f,xs,rfl,rfl⟩) h
theorem CL.use {one:Bool} {f:Nat} {args:List D} {s:St} {d:D} {s':St} {K:D→St→Prop} (h:az P f args s d s') (hk:K d s'):CL one P f args s K:=
 match one with
 |true=>⟨d,s',h,hk⟩
 |false=>h.use hk
theorem CU {one:Bool} {f:Nat} {args:List D} {s:St} {d:D} {s':St} {K:D→St→Prop} (h:az P f args s d s') (hk:K d s'):CL one P f args s K:=CL.use h hk
theorem CR {f:Nat} {args:List D} {s:St} {Q K:D→St→Prop} (h:bP P f args s Q) (hk : ∀ d s',Q d s'→K d s'):CL false P f args s K:=bP.mono h hk
end
end Go.Abs
namespace Go.Abs
theorem nd {α:Type} {a b:α} (h:a=b):a=b:=h
def GJ (g:D) (w:Bool) (A C:Prop):Prop:=
 match g with
 | .bool b=>(b=w→A)∧(b=(!w)→C)
 | .tuple _=>C
 |_=>False
class Two where
 a:Prop
 c:Prop
def CB (d:D) [b:Two] : Prop:=uU d b.a b.c
def GB (d:D) (w:Bool) [b:Two] : Prop:=GJ d w b.a b.c
def mX (g:Option (Nat×Bool)) (tm:Tm) (A C:Prop):Prop:=
 match g with
 |none=>A
 |some (t,w)=>GJ (tm.get t) w A C
def kC (P:Program):List AI→(Tm→St→Prop)→Tm→St→Prop
 | [],K,tm,s=>K tm s
 | .op dst g o::r,K,tm,s=>mX g tm (match aO o tm s with|some (d,s')=>kC P r K (tm.put dst d) s'|none=>False) (kC P r K (tm.put dst (.tuple [])) s)
 | .call dst g f xs::r,K,tm,s=>mX g tm (CL false P f (xs.map (·.ev tm)) s fun d s'=>kC P r K (tm.put dst d) s') (kC P r K (tm.put dst (.tuple [])) s)
 | .nil dst g neg x::r,K,tm,s=>
  mX g tm (match x.ev tm with
   | .slice _ _ rows=>∀ b:Bool,(rows≠ []→b=false)→kC P r K (tm.put dst (.bool (if neg then !b else b))) s
   |_=>False) (kC P r K (tm.put dst (.tuple [])) s)
 | .jw dst g t xs::r,K,tm,s=>
  mX g tm (match tm.get t with
   | .gi f nJ=>enters P f=true∧CL false P f (xs.map (·.ev tm)++nJ) s fun d s'=>kC P r K (tm.put dst d) s'
   |_=>False) (kC P r K (tm.put dst (.tuple [])) s)
theorem sY {g:Option (Nat×Bool)} {tm:Tm} {A C A' C':Prop} (h:mX g tm A C) (ha:A→A') (hc:C→C'):guarded g tm A' C':=by
 unfold mX at h
 unfold guarded
 cases g with
 |none=>exact ha h
 | some p=>
  obtain⟨t,w⟩:=p
  simp only[GJ]at h ⊢
  split at h
  ·rename_i hb;try simp only [hb]
   exact⟨fun e=>ha (h.1 e),fun e=>hc (h.2 e)⟩
  ·rename_i hb;try simp only [hb]
   exact hc h
  ·exact h.elim
theorem oh {P:Program} {K:Tm→St→Prop} : ∀ {is:List AI} {tm:Tm} {s:St},kC P is K tm s→iW P is K tm s
 | [],tm,s,h=>h
 | .op dst g o::r,tm,s,h=>by
  refine sY h (fun h=>?_) oh
  split at h
  ·rename_i he;try simp only [he]
   exact oh h
  ·exact h.elim
 | .call dst g f xs::r,tm,s,h=>sY h (fun h=>bP.mono h fun _ _ h=>oh h) oh
 | .nil dst g neg x::r,tm,s,h=>by
  refine sY h (fun h=>?_) oh
  split at h
  ·rename_i he;try simp only [he]
   exact fun b hb=>oh (h b hb)
  ·exact h.elim
 | .jw dst g t xs::r,tm,s,h=>by
  refine sY h (fun h=>?_) oh
  split at h
  ·rename_i he;try simp only [he]
   exact⟨h.1,bP.mono h.2 fun _ _ h=>oh h⟩
  ·exact h.elim
def gu (P:Program) (K:Tm→St→Prop):List (AI×Nat)→List St→Tm→St→Prop
 | [],_,tm,s=>K tm s
 |(.op dst g o,b)::r,bN,tm,s=>
  match o.core with
  |true=>mX g tm (match aO o tm s with|some (d,s')=>gu P K r (s::bN) (tm.put dst d) s'|none=>False) (gu P K r (s::bN) (tm.put dst (.tuple [])) s)
  |false=>mX g tm (match aO o tm s with|some (d,_)=>n9 (.op dst none o) tm d (bN.take b)∧gu P K r bN (tm.put dst d) s|none=>False) (gu P K r bN (tm.put dst (.tuple [])) s)
 |(.call dst g f xs,_)::r,bN,tm,s=>mX g tm (CL true P f (xs.map (·.ev tm)) s fun d s'=>gu P K r (s::bN) (tm.put dst d) s') (gu P K r (s::bN) (tm.put dst (.tuple [])) s)
 |(.nil ..,_)::_,_,_,_=>False
 |(.jw ..,_)::_,_,_,_=>False
theorem Bw {P:Program} {t:Nat} {w:Bool} {tm:Tm} {i:AI} {b:Nat} {r:List (AI×Nat)} {K:Tm→St→Prop} {bN:List St} {s:St} {A C:Prop} (h:mX (some (t,w)) tm A C) (ha:A→gM P K ((i,b)::r) bN tm s)
 (hc:C→gM P K r (if gK i.kind then s::bN else bN) (tm.put i.dst (.tuple [])) s):GL P (tm.get t) w i b r K bN tm s:=by
 simp only[mX,GJ]at h
 unfold GL
 split at h
 ·rename_i hb;try simp only [hb]
  exact⟨fun e=>ha (h.1 e),fun e=>hc (h.2 e)⟩
 ·rename_i hb;try simp only [hb]
  exact hc h
 ·exact h.elim
theorem mr {P:Program} {K:Tm→St→Prop} : ∀ {l:List (AI×Nat)} {bN:List St} {tm:Tm} {s:St},gu P K l bN tm s→gM P K l bN tm s
 | [],bN,tm,s,h=>h
 | (.op dst g o,b)::r,bN,tm,s,h=>by
  simp only[gu]at h
  cases hc:o.core with
  | true=>
   simp only[hc]at h
   have ha:(match aO o tm s with|some (d,s')=>gu P K r (s::bN) (tm.put dst d) s'|none=>False)→gM P K ((.op dst none o,b)::r) bN tm s:=by
    intro h
    refine Ka ?_
    simp only[OL,hc,ML]
    split at h
    ·rename_i he;try simp only [he]
     exact mr h
    ·exact h.elim
   cases g with
   |none=>exact ha h
   |some p=>
    obtain⟨t,w⟩:=p
    refine Hl (Bw h ha fun h=>?_)
    simp only[tF,hc,if_true]
    exact mr h
  | false=>
   simp only[hc]at h
   have ha:(match aO o tm s with|some (d,_)=>n9 (.op dst none o) tm d (bN.take b)∧gu P K r bN (tm.put dst d) s|none=>False)→gM P K ((.op dst none o,b)::r) bN tm s:=by
    intro h
    refine Ka ?_
    simp only[OL,hc,PL]
    split at h
    ·rename_i he;try simp only [he]
     exact⟨h.1,mr h.2⟩
    ·exact h.elim
   cases g with
   |none=>exact ha h
   |some p=>
    obtain⟨t,w⟩:=p
    refine Hl (Bw h ha fun h=>?_)
    simp only[tF,hc]
    exact mr h
 | (.call dst g f xs,b)::r,bN,tm,s,h=>by
  simp only[gu]at h
  have ha:(CL true P f (xs.map (·.ev tm)) s fun d s'=>gu P K r (s::bN) (tm.put dst d) s')→gM P K ((.call dst none f xs,b)::r) bN tm s:=
   fun⟨d,s',h1,h2⟩=>O2 ⟨d,s',h1,mr h2⟩
  cases g with
  |none=>exact ha h
  |some p=>
   obtain⟨t,w⟩:=p
   exact Mi (Bw h ha fun h=>mr h)
 |(.nil ..,_)::_,bN,tm,s,h=>h.elim
 |(.jw ..,_)::_,bN,tm,s,h=>h.elim
section
variable {P:Program} {B:e7} {nt:Nat}
def gD (P:Program) (B:e7) (nt:Nat):AC→(Exit→Tm→St→Prop)→Tm→St→Prop
 | .skip,Q,tm,s=>Q .normal tm s
 | .run is,Q,tm,s=>kC P is (Q .normal) tm s
 | .par is lN,Q,tm,s=>match mW is lN with|some l=>gu P (Q .normal) l [] tm s|none=>False
 | .seq a b,Q,tm,s=>gD P B nt a (kK (gD P B nt b Q) Q) tm s
 | .cond x a b,Q,tm,s=>uU (x.ev tm) (gD P B nt a Q tm s) (gD P B nt b Q tm s)
 | .block id a,Q,tm,s=>gD P B nt a (iD id Q) tm s
 | .loop a,Q,tm,s=>bd P B nt a Q tm s
 | .exit id,Q,tm,s=>Q (.exit id) tm s
 | .scope a,Q,tm,s=>iZ P B nt a a Q tm s
 | .label _,Q,tm,s=>Q .normal tm s
 | .goto l,Q,tm,s=>Q (.goto l) tm s
 | .ret,Q,tm,s=>Q .ret tm s
theorem gE : ∀ {ac:AC} {Q:Exit→Tm→St→Prop} {tm:Tm} {s:St},gD P B nt ac Q tm s→Sem P B nt ac Q tm s:=by
 intro ac
 induction ac with
 |skip=>exact fun h=>Sem.skip h
 |run is=>exact fun h=>Sem.run (oh h)
 |par is lN=>
  intro Q tm s h
  simp only[gD]at h
  split at h
  ·exact Sem.akv ‹_› (mr h)
  ·exact h.elim
 |seq a b Sg Si=>
  intro Q tm s h
  refine Sem.seq ((Sg h).mono fun e tm s hq=>?_)
  cases e with
  |normal=>exact Si hq
  |_=>exact hq
 |cond x a b Sg Si=>
  intro Q tm s h
  refine Sem.agV ?_
  simp only[gD]at h
  unfold uU at h ⊢
  split at h
  ·exact⟨fun e=>Sg (h.1 e),fun e=>Si (h.2 e)⟩
  ·exact h.elim
 |block id a ih=>exact fun h=>Sem.block (ih h)
 |loop a ih=>exact fun h=>Sem.loop h
 |exit id=>exact fun h=>Sem.exit h
 |scope a ih=>exact fun h=>Sem.scope h
 |label l=>exact fun h=>Sem.label h
 |goto l=>exact fun h=>Sem.goto h
 |ret=>exact fun h=>Sem.ret h
section
variable (Q:Exit→Tm→St→Prop) (N:Tm→St→Prop) (tm:Tm) (s:St) (a b:AC) (is:List AI) (x:X)
theorem Vr:gD P B nt .skip Q tm s=Q .normal tm s:=nd rfl
theorem Z4:gD P B nt (.run is) Q tm s=kC P is (Q .normal) tm s:=nd rfl
theorem Z5 (lN:List (Nat×Nat)):gD P B nt (.par is lN) Q tm s=match mW is lN with|some l=>gu P (Q .normal) l [] tm s|none=>False:=nd rfl
theorem Z6:gD P B nt (.seq a b) Q tm s=gD P B nt a (kK (gD P B nt b Q) Q) tm s:=nd rfl
theorem Vs:gD P B nt (.cond x a b) Q tm s = @CB (x.ev tm) ⟨gD P B nt a Q tm s,gD P B nt b Q tm s⟩:=nd rfl
theorem SF (id:Nat):gD P B nt (.block id a) Q tm s=gD P B nt a (iD id Q) tm s:=nd rfl
theorem Vt:gD P B nt (.loop a) Q tm s=bd P B nt a Q tm s:=nd rfl
theorem SG:gD P B nt (.scope a) Q tm s=iZ P B nt a a Q tm s:=nd rfl
theorem Vu (id:Nat):gD P B nt (.exit id) Q tm s=Q (.exit id) tm s:=nd rfl
theorem SH (id:Nat):gD P B nt (.label id) Q tm s=Q .normal tm s:=nd rfl
theorem Vv (id:Nat):gD P B nt (.goto id) Q tm s=Q (.goto id) tm s:=nd rfl
theorem Z7:gD P B nt .ret Q tm s=Q .ret tm s:=nd rfl
theorem Z8:kK N Q .normal tm s=N tm s:=nd rfl
theorem Z9:kK N Q .ret tm s=Q .ret tm s:=nd rfl
theorem aac (id:Nat):kK N Q (.exit id) tm s=Q (.exit id) tm s:=nd rfl
theorem aad (id:Nat):kK N Q (.goto id) tm s=Q (.goto id) tm s:=nd rfl
theorem Vw (id:Nat):iD id Q .normal tm s=Q .normal tm s:=nd rfl
theorem Vx (id:Nat):iD id Q .ret tm s=Q .ret tm s:=nd rfl
theorem Vy (id l:Nat):iD id Q (.goto l) tm s=Q (.goto l) tm s:=nd rfl
theorem Vz (id i:Nat):iD id Q (.exit i) tm s=if i=id then Q .normal tm s else Q (.exit i) tm s:=nd rfl
end
theorem bd.kv {a:AC} {Q:Exit→Tm→St→Prop} {tm:Tm} {s:St} (h:gD P B nt a (kK (bd P B nt a Q) Q) tm s):bd P B nt a Q tm s:=bd.once (gE h)
theorem iZ.kv {a r:AC} {Q:Exit→Tm→St→Prop} {tm:Tm} {s:St} (h:gD P B nt r (jZ P B nt a Q) tm s):iZ P B nt a r Q tm s:=iZ.once (gE h)
def uI (tm:Tm) (n m:Nat):Tm→Prop
 | []=>True
 |(k,d)::r=>Wk ((tm.get k).fg n m) d∧uI tm n m r
theorem uI.get {tm:Tm} {n m:Nat} : ∀ {bE:Tm},uI tm n m bE→∀ t,Wk ((tm.get t).fg n m) (bE.get t)
 | [],_,t=>Wk.junk _
 |(k,d)::r,h,t=>by
  simp only[Tm.get]
  split
  ·rename_i hk;subst hk;exact h.1
  ·exact uI.get h.2 t
theorem Holds.re {Q:Exit→Tm→St→Prop} {tm bE:Tm} {s:St} {fN:List (List D)} {act:Act} {w:World} (n m:Nat) (hn:B.s.ah.length≤n) (hm:B.s.aw.length≤m) (ht:uI tm n m bE) (ho:gx (s.cut n m).ah fN)
 (h:Holds B nt tm s act w):Holds B nt bE ⟨fN,(s.cut n m).aw⟩ act w:=by
 obtain⟨M,e,r,hr,h1,h2⟩:=h
 obtain⟨r',le⟩:=(r.cut n m).ou ho
 have e':=e.cut hn hm
 refine⟨M,e'.trans ⟨le,fun _ _ _ _=>rfl,fun o h1 h2=>?_,fun t b c z hl e=> .inl ⟨hl,c,z,e⟩,fun _ _ h=>(h rfl).elim,Nat.le_refl _,rfl,rfl,rfl⟩,r',fun k=>((ht.get k) _ _ _ ((hr k).fg n m)).mono le,h1,h2⟩
 rw[← ho.len]at h2
 exact h1.elim (fun h1=>absurd h2 (Nat.not_lt.2 h1)) fun h1=>(h1 rfl).elim
theorem bd.re {a:AC} {Q:Exit→Tm→St→Prop} {tm:Tm} {s:St} (bE:Tm) (fN:List (List D)) (n m:Nat) (hn:B.s.ah.length≤n) (hm:B.s.aw.length≤m) (ht:uI tm n m bE) (ho:gx (s.cut n m).ah fN)
 (h:bd P B nt a Q bE ⟨fN,(s.cut n m).aw⟩):bd P B nt a Q tm s:=
 fun c hc act w hh=>h c hc act w (hh.re (Q:=Q) n m hn hm ht ho)
theorem iZ.re {a r:AC} {Q:Exit→Tm→St→Prop} {tm:Tm} {s:St} (bE:Tm) (fN:List (List D)) (n m:Nat) (hn:B.s.ah.length≤n) (hm:B.s.aw.length≤m) (ht:uI tm n m bE) (ho:gx (s.cut n m).ah fN)
 (h:iZ P B nt a r Q bE ⟨fN,(s.cut n m).aw⟩):iZ P B nt a r Q tm s:=
 fun c rest hc hr act w hh=>h c rest hc hr act w (hh.re (Q:=Q) n m hn hm ht ho)
theorem bd.ind {ι:Type} {a:AC} {Q:Exit→Tm→St→Prop} (I:ι→Prop) (μ:ι→Nat) (TM:ι→Tm) (ST:ι→St)
 (step : ∀ i,I i→(∀ j,I j→μ j<μ i→bd P B nt a Q (TM j) (ST j))→gD P B nt a (kK (bd P B nt a Q) Q) (TM i) (ST i)) : ∀ i,I i→bd P B nt a Q (TM i) (ST i):=by
 have key : ∀ n i,μ i<n→I i→bd P B nt a Q (TM i) (ST i):=by
  intro n
  induction n with
  |zero=>intro i h;exact absurd h (Nat.not_lt_zero _)
  |succ n ih=>exact fun i h hi=>bd.kv (step i hi fun j hj hC=>ih j (by omega) hj)
 exact fun i hi=>key (μ i+1) i (Nat.lt_succ_self _) hi
theorem drop_cons {α:Type} {l rest:List α} {k:Nat} {x:α} (h:l.drop k=x::rest):l[k]? = some x∧l.drop (k+1)=rest∧decide ((k:Int)<(l.length:Int))=true∧k<l.length:=by
 have h1:l[k]? = some x:=by
  have:(l.drop k)[0]? = some x:=by rw[h];rfl
  simpa using this
 have h2:=(List.getElem?_eq_some_iff.1 h1).1
 refine⟨h1, ?_,by simpa using h2,h2⟩
 have:l.drop (k+1)=(l.drop k).drop 1:=by rw[List.drop_drop]
 rw[this,h];rfl
theorem drop_nil {α:Type} {l:List α} {k:Nat} (h:l.drop k = []):decide ((k:Int)<(l.length:Int))=false:=by
 have:=List.drop_eq_nil_iff.1 h
 simp;omega
theorem bd.pY {a:AC} {Q:Exit→Tm→St→Prop} {tm:Tm} {s:St} (t z':Nat) {z:Nat} (hw:tm.get t = .slice .full z [])
 (h:bd P B nt a Q (tm.set t (.slice (.tok s.aw.length) z' [])) {s with aw:=s.aw++ [some 0]}):bd P B nt a Q tm s:=by
 intro c hc act w ⟨M,e,r,ht,h1,h2⟩
 obtain⟨r',le⟩:=r.blank
 refine h c hc act w ⟨_,Bs e le,r',fun k=>?_,h1,h2⟩
 rw[Tm.Cl]
 split
 ·rename_i hk;subst hk;have:=ht k;rw[hw]at this;exact this.own
 ·exact(ht k).mono le
theorem bd.pZ {a:AC} {Q:Exit→Tm→St→Prop} {tm:Tm} {s:St} (o i z':Nat) {z:Nat} {cs:List D} (hc:s.ah[o]? = some cs) (hi:cs[i]? = some (.slice .full z []))
 (h:bd P B nt a Q tm ⟨s.ah.set o (cs.set i (.slice (.tok s.aw.length) z' [])),s.aw++ [some 0]⟩):bd P B nt a Q tm s:=by
 intro c hcc act w hh
 obtain⟨M,e,r,ht,h1,h2⟩:=hh
 obtain⟨r',le⟩:=r.blank
 have le':Le M s (M.eW s.aw.length none) ⟨s.ah.set o (cs.set i (.slice (.tok s.aw.length) z' [])),s.aw++ [some 0]⟩:=⟨le.G,by simp,le.loc,le.t,le.tk⟩
 have le2:Le (M.eW s.aw.length none) {s with aw:=s.aw++ [some 0]} (M.eW s.aw.length none) ⟨s.ah.set o (cs.set i (.slice (.tok s.aw.length) z' [])),s.aw++ [some 0]⟩:=
  ⟨fun _ _ _ h=>h,by simp,fun _ _=> .refl _,Nat.le_refl _,fun t n' _ e=>⟨n',e,Nat.le_refl _,fun _=>rfl⟩⟩
 have r2:Rel (M.eW s.aw.length none) ⟨s.ah.set o (cs.set i (.slice (.tok s.aw.length) z' [])),s.aw++ [some 0]⟩ w:=by
  refine⟨r'.comm,fun o' ds e=>?_,fun o ho=>r'.jV o (by simpa using ho),fun o o' ho nE=>r'.inj o o' (by simpa using ho) (by simpa using nE),r'.tok,
   fun t b c z o hv e ho=>r'.fc t b c z o hv e (by simpa using ho),r'.fU⟩
  simp only[List.getElem?_set]at e
  split at e
  ·rename_i ho
   subst ho
   split at e
   ·cases e
    obtain⟨vs,T,g1,g2,g3,g4⟩:=r.obj o cs hc
    refine⟨vs,T,g1,by simpa using g2,g3,fun j d v e1 e2=>?_⟩
    rw[List.getElem?_set]at e1
    split at e1
    ·rename_i hj
     subst hj
     split at e1
     ·cases e1
      exact((g4 i _ v hi e2).own (z':=z')).mono le2
     ·cases e1
    ·exact(g4 j d v e1 e2).mono le'
   ·cases e
  ·obtain⟨vs,T,g1,g2,g3,g4⟩:=r'.obj o' ds e
   exact⟨vs,T,g1,g2,g3,fun i d v e1 e2=>(g4 i d v e1 e2).mono le2⟩
 have ee:Ext B.M B.s B.w (M.eW s.aw.length none) ⟨s.ah.set o (cs.set i (.slice (.tok s.aw.length) z' [])),s.aw++ [some 0]⟩ w:=by
  refine(Bs e le).trans ⟨le2,fun _ _ _ _=>rfl,fun o h1 h2=>?_,fun t b c z hl e=> .inl ⟨hl,c,z,e⟩,fun _ _ h=>(h rfl).elim,Nat.le_refl _,rfl,rfl,rfl⟩
  simp at h2
  exact h1.elim (fun h1=>absurd h2 (Nat.not_lt.2 h1)) fun h1=>(h1 rfl).elim
 exact h c hcc act w ⟨_,ee,r2,fun k=>(ht k).mono le',h1,h2⟩
theorem ct {ac r:AC} {l:Nat} {Q:Exit→Tm→St→Prop} {tm:Tm} {s:St} (hf:sS ac l=some r) (h:gD P B nt r (jZ P B nt ac Q) tm s):jZ P B nt ac Q (.goto l) tm s:=⟨r,hf,iZ.kv h⟩
theorem zu {ac r:AC} {l:Nat} {Q:Exit→Tm→St→Prop} {tm:Tm} {s:St} (hf:sS ac l=some r) (h:iZ P B nt ac r Q tm s):jZ P B nt ac Q (.goto l) tm s:=⟨r,hf,h⟩
theorem Sem.iN {a b:AC} {Q:Exit→Tm→St→Prop} {tm:Tm} {s:St} (h:gD P B nt a (kK (Sem P B nt b Q) Q) tm s):Sem P B nt (.seq a b) Q tm s:=Sem.seq (gE h)
theorem Sem.re {a:AC} {Q:Exit→Tm→St→Prop} {tm:Tm} {s:St} (bE:Tm) (fN:List (List D)) (n m:Nat) (hn:B.s.ah.length≤n) (hm:B.s.aw.length≤m) (ht:uI tm n m bE) (ho:gx (s.cut n m).ah fN)
 (h:Sem P B nt a Q bE ⟨fN,(s.cut n m).aw⟩):Sem P B nt a Q tm s:=
 fun c hc act w hh=>h c hc act w (hh.re (Q:=Q) n m hn hm ht ho)
def Has (P:Program) (f nt:Nat) (res:List (Nat×Option (Bool×Nat))) (body:AC):Prop:=∃ fn,P.funcs[f]? = some fn∧cF P fn=some ⟨nt,res,body⟩
theorem az.go {f:FuncId} {res:List (Nat×Option (Bool×Nat))} {body:AC} {args:List D} {s:St} {d:D} {s':St} (h0:Has P f nt res body) (hl:Nat.ble args.length nt=true)
 (h : ∀ (B:e7) (Q:Exit→Tm→St→Prop),B.s=s→iz s.ah.length s.aw.length res d s'=Q→gD P B nt body Q (mM 0 args) s):az P f args s d s':=by
 obtain⟨fn,hf,hc⟩:=h0
 exact az.intro ⟨fn,hf,hc⟩ (Nat.le_of_ble_eq_true hl) fun B hB=>gE (h B _ hB rfl)
theorem az.agY {f:FuncId} {args row jt:List D} {rows lH:List (List D)} {z z' k k':Nat} (h:az P f (.ptr 0 0:: .slice (.tok 0) z rows::args) ⟨[row],[some k]⟩ (.slice (.tok 0) z' lH) ⟨[jt],[some k']⟩)
 (ha:D.bH 0 0 args=true) (hr:D.bH 0 0 row=true) (JF:D.bH 0 0 jt=true) (hw:D.gW 0 0 rows=true) (SI:D.gW 0 0 lH=true)
 {s:St} {o t:Nat} (ho:s.ah[o]? = some row) (ht:s.aw[t]? = some (some k)):az P f (.ptr o 0:: .slice (.tok t) z rows::args) s (.slice (.tok t) z' lH) ⟨s.ah.set o jt,s.aw.set t (some k')⟩:=by
 refine bP.frame [o] [t] h (by simp) (by simp) (by simpa using (List.getElem?_eq_some_iff.1 ho).1) (by simpa using (List.getElem?_eq_some_iff.1 ht).1) rfl (fun i o' ds e1 e2=>?_) rfl (fun i t' e1=>?_)
  (by simp[D.eT,D.db,Tag.db,e8 _ _ _ ha,ig _ _ _ hw])
  (by simp[D.bH,D.ok,Tag.ok,gF (Nat.zero_le 1) (Nat.zero_le 1) _ ha,lD (Nat.zero_le 1) (Nat.zero_le 1) _ hw]) ?_
 ·cases i with
  |zero=>simp at e1 e2;subst e1;subst e2;exact⟨by rw[e8 _ _ _ hr];exact ho,gF (Nat.zero_le 1) (Nat.zero_le 1) _ hr⟩
  |succ i=>simp at e1
 ·cases i with
  |zero=>simp at e1;subst e1;simp[ht]
  |succ i=>simp at e1
 ·rintro _ _ ⟨rfl,rfl⟩
  refine⟨by simp[D.back,D.db,Tag.db,kj,ig _ _ _ SI], ?_⟩
  simp[St.back,kB,e8 _ _ _ JF]
theorem az.aky {f:FuncId} {pre post:List D} {rows lH:List (List D)} {z z' k k':Nat} (h:az P f (pre++ .slice (.tok 0) z rows::post) ⟨[],[some k]⟩ (.slice (.tok 0) z' lH) ⟨[],[some k']⟩)
 (hp:D.bH 0 0 pre=true) (ha:D.bH 0 0 post=true) (hw:D.gW 0 0 rows=true) (SI:D.gW 0 0 lH=true)
 {s:St} {t:Nat} (ht:s.aw[t]? = some (some k)):az P f (pre++ .slice (.tok t) z rows::post) s (.slice (.tok t) z' lH) ⟨s.ah,s.aw.set t (some k')⟩:=by
 refine bP.frame [] [t] h (by simp) (by simp) (by simp) (by simpa using (List.getElem?_eq_some_iff.1 ht).1) rfl (fun i o' ds e1 e2=>by simp at e1) rfl (fun i t' e1=>?_)
  ?_ ?_ ?_
 ·cases i with
  |zero=>simp at e1;subst e1;simp[ht]
  |succ i=>simp at e1
 ·have h1:=e8 [] [t] _ hp
  have h2:=e8 [] [t] _ ha
  rw[fM]at h1 h2
  simp[fM,D.db,Tag.db,h1,h2,ig _ _ _ hw]
 ·have h1:=gF (n':=0) (m':=1) (Nat.le_refl 0) (Nat.zero_le 1) _ hp
  have h2:=gF (n':=0) (m':=1) (Nat.le_refl 0) (Nat.zero_le 1) _ ha
  rw[ym]at h1 h2 ⊢
  simp only[List.length_nil,List.length_cons,List.all_append,h1,Bool.true_and,List.all_cons,h2,Bool.and_true,D.ok,Tag.ok,lD (Nat.zero_le 0) (Nat.zero_le 1) _ hw]
  rfl
 ·rintro _ _ ⟨rfl,rfl⟩
  refine⟨by simp[D.back,D.db,Tag.db,kj,ig _ _ _ SI], ?_⟩
  simp[St.back,kB]
theorem akz (A C:Prop) : @CB (.bool true) ⟨A,C⟩=A:=by simp[CB,uU]
theorem akA (A C:Prop) : @CB (.bool false) ⟨A,C⟩=C:=by simp[CB,uU]
theorem ac3 (b:Bool) (A C:Prop) : @CB (.bool (!b)) ⟨A,C⟩ = @CB (.bool b) ⟨C,A⟩:=by
 cases b<;>simp[CB,uU]
theorem Kb {b:Bool} {A C:Prop} (h1:b=true→A) (h2:b=false→C) : @CB (.bool b) ⟨A,C⟩:=⟨h1,h2⟩
theorem ac4 {b:Bool} {A C:Prop} (h:b=true) (h1:b=true→A) : @CB (.bool b) ⟨A,C⟩:=Kb h1 (fun h'=>by rw[h]at h';cases h')
theorem ac5 {b:Bool} {A C:Prop} (h:b=false) (h1:b=false→C) : @CB (.bool b) ⟨A,C⟩:=Kb (fun h'=>by rw[h]at h';cases h') h1
theorem agZ {n m:Nat} {res:List (Nat×Option (Bool×Nat))} {d:D} {s':St} {tm:Tm} {s:St} {Q:Exit→Tm→St→Prop} (hQ:iz n m res d s'=Q)
 (h : ∃ l,aQ res tm s=some l∧Wk ((aR l).fg n m) d∧gx (s.cut n m).ah s'.ah∧(s.cut n m).aw=s'.aw):Q .ret tm s:=hQ ▸ h
theorem ag0 {n m:Nat} {res:List (Nat×Option (Bool×Nat))} {d:D} {s':St} {tm:Tm} {s:St} {Q:Exit→Tm→St→Prop} (hQ:iz n m res d s'=Q)
 (h : ∃ l,aQ res tm s=some l∧Wk ((aR l).fg n m) d∧gx (s.cut n m).ah s'.ah∧(s.cut n m).aw=s'.aw):Q .normal tm s:=hQ ▸ h
end
attribute [go_sem] Vr Z4 Z5 Z6 Vs SF Vt SG Vu SH Vv Z7 Z8 Z9 aac aad Vw Vx Vy Vz
theorem SJ : ∀ (tm:Tm) (s:St) (x:X),aO (AO.mv x) tm s=some (X.ev tm x,s):=
 fun tm s x=>nd (aO.eq_1 tm s x)
theorem SK : ∀ (tm:Tm) (s:St) (c a b:X),
 aO (AO.pick c a b) tm s =
  match X.ev tm c with
  |D.bool t=>some (if t=true then X.ev tm a else X.ev tm b,s)
  |x=>none:=
 fun tm s c a b=>nd (aO.eq_2 tm s c a b)
theorem SL : ∀ (tm:Tm) (s:St) (zero:List D),
 aO (AO.alloc zero) tm s=some (D.ptr s.ah.length 0,{ah:=s.ah++ [zero],aw:=s.aw}):=
 fun tm s zero=>nd (aO.eq_3 tm s zero)
theorem SM : ∀ (tm:Tm) (s:St) (x:X),
 aO (AO.box x) tm s =
  match (X.ev tm x).row with
  |some r=>some (D.ptr s.ah.length 0,{ah:=s.ah++ [r],aw:=s.aw})
  |none=>none:=
 fun tm s x=>nd (aO.eq_4 tm s x)
theorem SN : ∀ (tm:Tm) (s:St) (zero:List D) (parts:List (Nat×Nat×X)),
 aO (AO.build zero parts) tm s =
  match rh zero (List.map (fun(p:Nat×Nat×X)=>(p.fst,p.snd.fst,X.ev tm p.snd.snd)) parts)with
  |some cs=>some (D.agg cs,s)
  |none=>none:=
 fun tm s zero parts=>nd (aO.eq_5 tm s zero parts)
theorem SO : ∀ (tm:Tm) (s:St) (zero:List D) (size n:Nat) (parts:List (Nat×X)),
 aO (AO.cD zero size n parts) tm s =
  match kh size (fV zero n) (List.map (fun(p:Nat×X)=>(p.fst,X.ev tm p.snd)) parts)with
  |some rows=>some (D.slice Tag.full size rows,s)
  |none=>none:=
 fun tm s zero size n parts=>nd (aO.eq_6 tm s zero size n parts)
theorem SP : ∀ (tm:Tm) (s:St) (zero:List D) (size n:Nat) (parts:List (Nat×X)),
 aO (AO.vh zero size n parts) tm s =
  match kh size (fV zero n) (List.map (fun(p:Nat×X)=>(p.fst,X.ev tm p.snd)) parts)with
  |some rows=>
   some (D.slice (Tag.tok s.aw.length) size rows,{ah:=s.ah,aw:=s.aw++ [some rows.length]})
  |none=>none:=
 fun tm s zero size n parts=>nd (aO.eq_7 tm s zero size n parts)
theorem SQ : ∀ (tm:Tm) (s:St) (x:X),
 aO (AO.AZ x) tm s =
  match X.ev tm x with
  | D.slice (Tag.tok t _) z rows=>
   if rows≠ []∧s.aw[t]? = some (some rows.length)then
    some (D.slice Tag.shared z rows,{ah:=s.ah,aw:=s.aw.set t none})
   else none
  |x=>none:=
 fun tm s x=>nd (aO.eq_8 tm s x)
theorem SR : ∀ (tm:Tm) (s:St) (x:X) (agg:Bool) (size:Nat),
 aO (AO.load x agg size) tm s =
  match X.ev tm x with
  | D.ptr o off=>
   match s.ah[o]? with
   |some cs=>
    match part cs off agg size with
    |some d=>some (d,s)
    |none=>none
   |none=>none
  |D.dL row off=>
   match part row off agg size with
   |some d=>some (d,s)
   |none=>none
  |x=>ze x agg size s:=
 fun tm s x agg size=>nd (aO.eq_9 tm s x agg size)
theorem O3 : ∀ (tm:Tm) (s:St) (p x:X) (size:Nat),
 aO (AO.store p x size) tm s =
  match X.ev tm p,(X.ev tm x).row with
  | D.ptr o off,some r=>
   match s.ah[o]? with
   | some cs=>
    if r.length=size∧off+size≤cs.length then
     some (D.tuple [],{ah:=s.ah.set o (iC cs off r),aw:=s.aw})
    else none
   |none=>none
  |x,fv=>A5 x fv size s:=
 fun tm s p x size=>nd (aO.eq_10 tm s p x size)
theorem O4 : ∀ (tm:Tm) (s:St) (x:X),
 aO (AO.bq x) tm s =
  match X.ev tm x with
  |D.ptr o off=>some (D.ptr o off,s)
  |D.dL row off=>some (D.dL row off,s)
  |x=>match N3 x with|some d=>some (d,s)|none=>none:=
 fun tm s x=>nd (aO.eq_11 tm s x)
theorem O5 : ∀ (tm:Tm) (s:St) (op:BinOp) (x y:X),
 aO (AO.bin op x y) tm s =
  match xf op (X.ev tm x) (X.ev tm y)with
  |some d=>some (d,s)
  |none=>none:=
 fun tm s op x y=>nd (aO.eq_12 tm s op x y)
theorem O6 : ∀ (tm:Tm) (s:St) (neg:Bool) (x y:X),
 aO (AO.Dd neg x y) tm s =
  match X.ev tm x,X.ev tm y with
  |D.bool a,D.bool b=>some (D.bool (if neg=true then !a==b else a==b),s)
  |x,fv=>none:=
 fun tm s neg x y=>nd (aO.eq_13 tm s neg x y)
theorem O7 : ∀ (tm:Tm) (s:St) (neg:Bool) (ks:List Nat) (x y:X),
 aO (AO.eqs neg ks x y) tm s =
  match X.ev tm x,X.ev tm y with
  |D.agg a,D.agg b=>
   match ll ks a b with
   |some e=>some (D.bool (if neg=true then !e else e),s)
   |none=>none
  |x,fv=>none:=
 fun tm s neg ks x y=>nd (aO.eq_14 tm s neg ks x y)
theorem O8 : ∀ (tm:Tm) (s:St) (neg:Bool) (x y:X),
 aO (AO.G5 neg x y) tm s =
  match X.ev tm x,X.ev tm y with
  |D.ek,D.ek=>some (D.bool !neg,s)
  |D.ptr o off,D.ek=>some (D.bool neg,s)
  |D.dL row off,D.ek=>some (D.bool neg,s)
  |x,fv=>none:=
 fun tm s neg x y=>nd (aO.eq_15 tm s neg x y)
theorem O9 : ∀ (tm:Tm) (s:St) (op:UnOp) (x:X),
 aO (AO.un op x) tm s =
  match Jx op (X.ev tm x)with
  |some d=>some (d,s)
  |none=>none:=
 fun tm s op x=>nd (aO.eq_16 tm s op x)
theorem Pa : ∀ (tm:Tm) (s:St) (k:IntKind) (x:X),
 aO (AO.conv k x) tm s =
  match X.ev tm x with
  |D.int k_1 n=>some (D.int k (k.wrap n),s)
  |x=>none:=
 fun tm s k x=>nd (aO.eq_17 tm s k x)
theorem Pb : ∀ (tm:Tm) (s:St) (x:X),
 aO (AO.Es x) tm s =
  match X.ev tm x with
  |D.slice g size rows=>
   match og rows with
   |some b=>some (D.str b,s)
   |none=>none
  |x=>none:=
 fun tm s x=>nd (aO.eq_18 tm s x)
theorem Pe : ∀ (tm:Tm) (s:St) (x:X),
 aO (AO.xX x) tm s =
  match X.ev tm x with
  |D.str l=>some (D.slice Tag.shared 1 (List.map (fun(c:UInt8)=> [D.int IntKind.u8 ↑c.toNat]) l),s)
  |x=>none:=
 fun tm s x=>nd (aO.eq_19 tm s x)
theorem Pf : ∀ (tm:Tm) (s:St) (size:Nat) (x:X) (lo hi:Option X),
 aO (AO.Et size x lo hi) tm s =
  match X.ev tm x with
  | D.slice g z rows=>
   match tj (Option.map (fun(x:X)=>X.ev tm x) lo),
    tn (Option.map (fun(x:X)=>X.ev tm x) hi) rows.length with
   | some l,some h=>
    if(rows = []∨z=size)∧0≤l∧l≤h∧h≤ ↑rows.length then
     some
      (D.slice (if l=0 then g.cut (decide (h = ↑rows.length))else Tag.shared) z
       (List.drop l.toNat (List.take h.toNat rows)),
       s)
    else none
   |x,fv=>none
  |x=>match xh x (Option.map (fun(x:X)=>X.ev tm x) lo) (Option.map (fun(x:X)=>X.ev tm x) hi)with|some d=>some (d,s)|none=>none:=
 fun tm s size x lo hi=>nd (aO.eq_20 tm s size x lo hi)
theorem Ph : ∀ (tm:Tm) (s:St) (x:X) (lo hi:Option X),
 aO (AO.za x lo hi) tm s =
  match X.ev tm x with
  | D.str t=>
   match tj (Option.map (fun(x:X)=>X.ev tm x) lo),tn (Option.map (fun(x:X)=>X.ev tm x) hi) t.length with
   |some l,some h=>
    if 0≤l∧l≤h∧h≤ ↑t.length then some (D.str (List.drop l.toNat (List.take h.toNat t)),s)else none
   |x,fv=>none
  |x=>none:=
 fun tm s x lo hi=>nd (aO.eq_21 tm s x lo hi)
theorem Pj : ∀ (tm:Tm) (s:St) (x:X) (off:Nat),
 aO (AO.aj x off) tm s =
  match X.ev tm x with
  |D.ptr o k=>some (D.ptr o (k+off),s)
  |D.dL row k=>some (D.dL row (k+off),s)
  |x=>match Ew x off with|some d=>some (d,s)|none=>none:=
 fun tm s x off=>nd (aO.eq_22 tm s x off)
theorem Pk : ∀ (tm:Tm) (s:St) (x:X) (off:Nat) (agg:Bool) (size:Nat),
 aO (AO.uC x off agg size) tm s =
  match X.ev tm x with
  |D.agg cs=>
   match part cs off agg size with
   |some d=>some (d,s)
   |none=>none
  |x=>none:=
 fun tm s x off agg size=>nd (aO.eq_23 tm s x off agg size)
theorem Pl : ∀ (tm:Tm) (s:St) (x i:X) (size:Nat),
 aO (AO.cr x i size) tm s =
  match X.ev tm x,X.ev tm i with
  | D.slice g z rows,D.int k n=>
   if 0≤n∧z=size then
    match rows[n.toNat]? with
    |some row=>some (D.dL row 0,s)
    |none=>none
   else none
  |x,fv=>match xZ x fv size with|some d=>some (d,s)|none=>none:=
 fun tm s x i size=>nd (aO.eq_24 tm s x i size)
theorem Pn : ∀ (tm:Tm) (s:St) (x i:X),
 aO (AO.oU x i) tm s =
  match X.ev tm x,X.ev tm i with
  | D.str t,D.int k n=>
   if 0≤n then
    match t[n.toNat]? with
    |some c=>some (D.int IntKind.u8 ↑c.toNat,s)
    |none=>none
   else none
  |x,fv=>none:=
 fun tm s x i=>nd (aO.eq_25 tm s x i)
theorem Po : ∀ (tm:Tm) (s:St) (x:X) (i:Nat),
 aO (AO.ext x i) tm s =
  match X.ev tm x with
  |D.tuple ds=>
   match ds[i]? with
   |some d=>some (d,s)
   |none=>none
  |x=>none:=
 fun tm s x i=>nd (aO.eq_26 tm s x i)
theorem Pp : ∀ (tm:Tm) (s:St) (x:X),
 aO (AO.nK x) tm s =
  match X.ev tm x with
  |D.str t=>some (D.int IntKind.i64 ↑t.length,s)
  |x=>none:=
 fun tm s x=>nd (aO.eq_27 tm s x)
theorem Pq : ∀ (tm:Tm) (s:St) (x:X),
 aO (AO.len x) tm s =
  match X.ev tm x with
  |D.slice g size rows=>some (D.int IntKind.i64 ↑rows.length,s)
  |x=>match FW x with|some d=>some (d,s)|none=>none:=
 fun tm s x=>nd (aO.eq_28 tm s x)
theorem Pr : ∀ (tm:Tm) (s:St) (size bytes:Nat) (x y:X),
 aO (AO.app size bytes x y) tm s =
  match X.ev tm x with
  |D.slice g z rows=>gp size bytes (D.slice g z rows) (X.ev tm y) s
  |d=>A6 size bytes d (X.ev tm y) s:=
 fun tm s size bytes x y=>nd (aO.eq_29 tm s size bytes x y)
theorem Ps : ∀ (tm:Tm) (s:St) (isMax:Bool) (x y:X),
 aO (AO.mm isMax x y) tm s =
  match X.ev tm x,X.ev tm y with
  |D.int k a,D.int k' b=>
   if k=k' then some (D.int k (if isMax=true then if b > a then b else a else if b<a then b else a),s)
   else none
  |x,fv=>none:=
 fun tm s isMax x y=>nd (aO.eq_30 tm s isMax x y)
theorem Pt (tm:Tm) (s:St) (r:List D) (T:TypeId):aO (AO.ti (.ek::r) T) tm s=some (.ptr s.ah.length 0,{ah:=s.ah++ [.fm T s.ah.length::r],aw:=s.aw}):=nd rfl
theorem Pu (tm:Tm) (s:St) (x:X) (T:TypeId):aO (AO.A0 x T) tm s =
 match (x.ev tm).row with
 |some (.ek::r)=>some (.ptr s.ah.length 0,{ah:=s.ah++ [.fm T s.ah.length::r],aw:=s.aw})
 |_=>none:=nd rfl
theorem Pv (tm:Tm) (s:St) (x y:X):aO (AO.apps x y) tm s =
 match y.ev tm with
 | .str l=>A4 (x.ev tm) (.slice .shared 1 (l.map fun c=> [.int .u8 c.toNat])) s
 |_=>none:=nd rfl
theorem Pw (tm:Tm) (s:St) (x y:X):aO (AO.A1 x y) tm s=A4 (x.ev tm) (y.ev tm) s:=nd rfl
theorem Px (tm:Tm) (s:St) (f:Nat) (xs:List X):aO (AO.uQ f xs) tm s=some (.gi f (xs.map fun x=>x.ev tm),s):=nd rfl
theorem Py (tm:Tm) (s:St):aO AO.uR tm s=some (.fS s.ah.length,{ah:=s.ah++ [[]],aw:=s.aw}):=nd rfl
theorem Pz (tm:Tm) (s:St) (m k v:X):aO (AO.zb m k v) tm s =
 match m.ev tm,k.ev tm,v.ev tm with
 | .fS o, .str key, .slice g z rows=>
  match s.ah[o]? with
  |some cs=>match xg key (.slice g z rows) cs with|some pO=>some (.tuple [],{ah:=s.ah.set o pO,aw:=s.aw})|none=>none
  |none=>none
 |_,_,_=>none:=nd rfl
theorem PA (tm:Tm) (s:St) (m k:X) (zero:D):aO (AO.wx m k zero) tm s =
 match m.ev tm,k.ev tm with
 | .fS o, .str key=>
  match s.ah[o]? with
  |some cs=>match zc key zero cs with|some d=>some (d,s)|none=>none
  |none=>none
 |_,_=>none:=nd rfl
theorem PB (tm:Tm) (s:St) (o:FO) (x y:X):aO (AO.rf o x y) tm s=match qG o (x.ev tm) (y.ev tm)with|some d=>some (d,s)|none=>none:=nd rfl
theorem PC (tm:Tm) (s:St) (size bytes:Nat) (zero:List D) (l c:X):aO (AO.A2 size bytes zero l c) tm s =
 match l.ev tm,c.ev tm with
 | .int .i64 n, .int .i64 m=>if n=m∧0≤n∧n*((bytes:Int)+1)≤bu then some (.eF size s.ah.length 0 n.toNat,{s with ah:=s.ah++ [.int .i64 ((0:Nat):Int)::(fV zero n.toNat).flatten]})else none
 |_,_=>none:=nd rfl
theorem Kc (o:FO) (x y:X):(AO.rf o x y).core=false:=nd rfl
theorem Kd (size bytes:Nat) (zero:List D) (l c:X):(AO.A2 size bytes zero l c).core=true:=nd rfl
theorem Ke (f:Nat) (xs:List X):(AO.uQ f xs).core=false:=nd rfl
theorem Kf:AO.uR.core=true:=nd rfl
theorem Kg (m k v:X):(AO.zb m k v).core=true:=nd rfl
theorem Kh (m k:X) (zero:D):(AO.wx m k zero).core=false:=nd rfl
theorem SS (n m f:Nat) (cs:List D):D.fg n m (.gi f cs) = .gi f (D.gw n m cs):=nd (by simp only[D.fg])
theorem SU (n m:Nat) (o:Nat):D.fg n m (.fS o)=if o<n then .fS o else .junk:=nd (by simp only[D.fg])
theorem PD (d:Option Nat) (g:Option (Nat×Bool)) (t:Nat) (xs:List X):(AI.jw d g t xs).dst=d:=nd rfl
theorem Ki (x y:X):(AO.A1 x y).core=true:=nd rfl
theorem Kj (z:List D) (T:TypeId):(AO.ti z T).core=true:=nd rfl
theorem Kk (x:X) (T:TypeId):(AO.A0 x T).core=true:=nd rfl
theorem Kl (x y:X):(AO.apps x y).core=true:=nd rfl
theorem SV (n m:Nat) (v:Value):D.fg n m (.val v) = .val v:=nd (by simp only[D.fg])
theorem SW (n m:Nat) (T:TypeId) (o:Nat):D.fg n m (.fm T o)=if o<n then .fm T o else .junk:=nd (by simp only[D.fg])
theorem VA : ∀ (tm:Tm) (t:Nat),X.ev tm (X.s t)=tm.get t:=
 fun tm t=>nd (X.ev.eq_1 tm t)
theorem VB : ∀ (tm:Tm) (d:D),X.ev tm (X.k d)=d:=
 fun tm d=>nd (X.ev.eq_2 tm d)
theorem PE : ∀ (tm:Tm) (d:D) (t:Nat),tm.put (some t) d=tm.set t d:=
 fun tm d t=>nd (Tm.put.eq_1 tm d t)
theorem PF : ∀ (tm:Tm) (d:D),tm.put none d=tm:=
 fun tm d=>nd (Tm.put.eq_2 tm d)
theorem PG : ∀ (x:Nat) (fv:D),Tm.set [] x fv = [(x,fv)]:=
 fun x fv=>nd (Tm.set.eq_1 x fv)
theorem PH : ∀ (x:Nat) (fv:D) (k:Nat) (e:D) (r:List (Nat×D)),
 Tm.set ((k,e)::r) x fv=if k=x then(k,fv)::r else(k,e)::Tm.set r x fv:=
 fun x fv k e r=>nd (Tm.set.eq_2 x fv k e r)
theorem PI : ∀ (x:Nat),Tm.get [] x=D.junk:=
 fun x=>nd (Tm.get.eq_1 x)
theorem PJ : ∀ (x k:Nat) (d:D) (r:List (Nat×D)),Tm.get ((k,d)::r) x=if k=x then d else Tm.get r x:=
 fun x k d r=>nd (Tm.get.eq_2 x k d r)
theorem SX : ∀ (x:Nat),mM x [] = []:=
 fun x=>nd (mM.eq_1 x)
theorem SY : ∀ (x:Nat) (d:D) (r:List D),mM x (d::r)=(x,d)::mM (x+1) r:=
 fun x d r=>nd (mM.eq_2 x d r)
theorem PK : ∀ (d:Option Nat) (g:Option (Nat×Bool)) (o:AO),(AI.op d g o).dst=d:=
 fun d g o=>nd (AI.dst.eq_1 d g o)
theorem PN : ∀ (d:Option Nat) (g:Option (Nat×Bool)) (f:Nat) (xs:List X),(AI.call d g f xs).dst=d:=
 fun d g f xs=>nd (AI.dst.eq_2 d g f xs)
theorem PO : ∀ (d:Option Nat) (g:Option (Nat×Bool)) (neg:Bool) (fv:X),(AI.nil d g neg fv).dst=d:=
 fun d g neg fv=>nd (AI.dst.eq_3 d g neg fv)
theorem VC : ∀ (cs:List D) (off size:Nat),
 part cs off true size=if off+size≤cs.length then some (D.agg (List.take size (List.drop off cs)))else none:=
 fun cs off size=>nd (part.eq_1 cs off size)
theorem VD : ∀ (cs:List D) (off size:Nat),part cs off false size=cs[off]? :=
 fun cs off size=>nd (part.eq_2 cs off size)
theorem PQ : ∀ (cs:List D) (off:Nat) (r:List D),
 iC cs off r=List.take off cs++r++List.drop (off+r.length) cs:=
 fun cs off r=>nd (iC.eq_1 cs off r)
theorem SZ : ∀ (cells:List D),rh cells [] = some cells:=
 fun cells=>nd (rh.eq_1 cells)
theorem S1 : ∀ (cells:List D) (off size:Nat) (d:D) (rest:List (Nat×Nat×D)),
 rh cells ((off,size,d)::rest) =
  match d.row with
  |none=>none
  |some r=>if r.length=size∧off+size≤cells.length then rh (iC cells off r) rest else none:=
 fun cells off size d rest=>nd (rh.eq_2 cells off size d rest)
theorem Km : ∀ (size:Nat) (rows:List (List D)),kh size rows [] = some rows:=
 fun size rows=>nd (kh.eq_1 size rows)
theorem Kn : ∀ (size:Nat) (rows:List (List D)) (i:Nat) (d:D) (rest:List (Nat×D)),
 kh size rows ((i,d)::rest) =
  match d.row with
  |none=>none
  |some r=>if r.length=size∧i<rows.length then kh size (rows.set i r) rest else none:=
 fun size rows i d rest=>nd (kh.eq_2 size rows i d rest)
theorem Ko : ∀ (zero:List D),fV zero 0 = []:=
 fun zero=>nd (fV.eq_1 zero)
theorem Kp : ∀ (zero:List D) (i:Nat),fV zero i.succ=zero::fV zero i:=
 fun zero i=>nd (fV.eq_2 zero i)
theorem VE : ∀ (op:BinOp) (k:IntKind) (a:Int) (k':IntKind) (b:Int),
 xf op (D.int k a) (D.int k' b)=if k=k' then gj op k a b else none:=
 fun op k a k' b=>nd (xf.eq_1 op k a k' b)
theorem VF : ∀ (op:BinOp) (a b:List UInt8),xf op (D.str a) (D.str b)=n7 op a b:=
 fun op a b=>nd (xf.eq_2 op a b)
theorem PR : ∀ (k:IntKind) (a b:Int),gj BinOp.add k a b=some (D.int k (k.wrap (a+b))):=
 fun k a b=>nd (gj.eq_1 k a b)
theorem PS : ∀ (k:IntKind) (a b:Int),gj BinOp.sub k a b=some (D.int k (k.wrap (a - b))):=
 fun k a b=>nd (gj.eq_2 k a b)
theorem PT : ∀ (k:IntKind) (a b:Int),gj BinOp.mul k a b=some (D.int k (k.wrap (a*b))):=
 fun k a b=>nd (gj.eq_3 k a b)
theorem PU : ∀ (k:IntKind) (a b:Int),
 gj BinOp.quo k a b=if b=0 then none else some (D.int k (k.wrap (a.tdiv b))):=
 fun k a b=>nd (gj.eq_4 k a b)
theorem PV : ∀ (k:IntKind) (a b:Int),gj BinOp.rem k a b=if b=0 then none else some (D.int k (a.tmod b)):=
 fun k a b=>nd (gj.eq_5 k a b)
theorem PW : ∀ (k:IntKind) (a b:Int),gj BinOp.eql k a b=some (D.bool (a==b)):=
 fun k a b=>nd (gj.eq_6 k a b)
theorem PX : ∀ (k:IntKind) (a b:Int),gj BinOp.neq k a b=some (D.bool (a != b)):=
 fun k a b=>nd (gj.eq_7 k a b)
theorem PY : ∀ (k:IntKind) (a b:Int),gj BinOp.lss k a b=some (D.bool (decide (a<b))):=
 fun k a b=>nd (gj.eq_8 k a b)
theorem PZ : ∀ (k:IntKind) (a b:Int),gj BinOp.leq k a b=some (D.bool (decide (a≤b))):=
 fun k a b=>nd (gj.eq_9 k a b)
theorem Mj : ∀ (k:IntKind) (a b:Int),gj BinOp.gtr k a b=some (D.bool (decide (a > b))):=
 fun k a b=>nd (gj.eq_10 k a b)
theorem Mk : ∀ (k:IntKind) (a b:Int),gj BinOp.geq k a b=some (D.bool (decide (a≥b))):=
 fun k a b=>nd (gj.eq_11 k a b)
theorem P0 : ∀ (a b:List UInt8),
 n7 BinOp.add a b=if a.length+b.length≤bu then some (D.str (a++b))else none:=
 fun a b=>nd (n7.eq_1 a b)
theorem P2 : ∀ (a b:List UInt8),n7 BinOp.eql a b=some (D.bool (a==b)):=
 fun a b=>nd (n7.eq_2 a b)
theorem P3 : ∀ (a b:List UInt8),n7 BinOp.neq a b=some (D.bool !a==b):=
 fun a b=>nd (n7.eq_3 a b)
theorem P4 : ∀ (a b:List UInt8),n7 BinOp.lss a b=some (D.bool (bytesLess a b)):=
 fun a b=>nd (n7.eq_4 a b)
theorem aae : ∀ (k:IntKind) (n:Int),Jx UnOp.neg (D.int k n)=some (D.int k (k.wrap (0 - n))):=
 fun k n=>nd (Jx.eq_1 k n)
theorem aaf : ∀ (b:Bool),Jx UnOp.not (D.bool b)=some (D.bool !b):=
 fun b=>nd (Jx.eq_2 b)
theorem P5 : ∀ (k:IntKind) (a:Int) (k':IntKind) (b:Int),
 mQ 0 (D.int k a) (D.int k' b)=if k=k' then some (a==b)else none:=
 fun k a k' b=>nd (mQ.eq_1 k a k' b)
theorem P6 : ∀ (a b:Bool),mQ 1 (D.bool a) (D.bool b)=some (a==b):=
 fun a b=>nd (mQ.eq_2 a b)
theorem P7 : ∀ (a b:List UInt8),mQ 2 (D.str a) (D.str b)=some (a==b):=
 fun a b=>nd (mQ.eq_3 a b)
theorem Ml:ll [] [] [] = some true:=
 nd (ll.eq_1)
theorem Mm : ∀ (k:Nat) (ks:List Nat) (Yv:D) (xs:List D) (y:D) (ys:List D),
 ll (k::ks) (Yv::xs) (y::ys) =
  match mQ k Yv y with
  |none=>none
  |some true=>ll ks xs ys
  |some false=>some false:=
 fun k ks Yv xs y ys=>nd (ll.eq_2 k ks Yv xs y ys)
theorem aag:tj none=some 0:=
 nd (tj.eq_1)
theorem aah : ∀ (k:IntKind) (n:Int),tj (some (D.int k n))=some n:=
 fun k n=>nd (tj.eq_2 k n)
theorem aai : ∀ (len:Nat),tn none len=some ↑len:=
 fun len=>nd (tn.eq_1 len)
theorem aaj : ∀ (len:Nat) (k:IntKind) (n:Int),tn (some (D.int k n)) len=some n:=
 fun len k n=>nd (tn.eq_2 len k n)
theorem Mn : ∀ (zero:List D),(AO.alloc zero).core=true:=
 fun zero=>nd (AO.core.eq_1 zero)
theorem Mp : ∀ (fv:X),(AO.box fv).core=true:=
 fun fv=>nd (AO.core.eq_2 fv)
theorem Mq : ∀ (zero:List D) (size n:Nat) (parts:List (Nat×X)),(AO.vh zero size n parts).core=true:=
 fun zero size n parts=>nd (AO.core.eq_3 zero size n parts)
theorem Mr : ∀ (fv:X),(AO.AZ fv).core=true:=
 fun fv=>nd (AO.core.eq_4 fv)
theorem Ms : ∀ (p fv:X) (size:Nat),(AO.store p fv size).core=true:=
 fun p fv size=>nd (AO.core.eq_5 p fv size)
theorem Mt : ∀ (size bytes:Nat) (fv y:X),(AO.app size bytes fv y).core=true:=
 fun size bytes fv y=>nd (AO.core.eq_6 size bytes fv y)
theorem Mu : ∀ (val:Nat) (zero:List D),(AI.op (some val) none (AO.alloc zero)).kind=AK.alloc:=
 fun val zero=>nd (AI.kind.eq_1 val zero)
theorem Mv : ∀ (zero:List D),(AO.alloc zero).kind=AK.core:=
 fun zero=>nd (AO.kind.eq_1 zero)
theorem Mw : ∀ (fv:X),(AO.box fv).kind=AK.core:=
 fun fv=>nd (AO.kind.eq_2 fv)
theorem Mx : ∀ (zero:List D) (size n:Nat) (parts:List (Nat×X)),(AO.vh zero size n parts).kind=AK.core:=
 fun zero size n parts=>nd (AO.kind.eq_3 zero size n parts)
theorem My : ∀ (fv:X),(AO.AZ fv).kind=AK.core:=
 fun fv=>nd (AO.kind.eq_4 fv)
theorem Mz : ∀ (p fv:X) (size:Nat),(AO.store p fv size).kind=AK.core:=
 fun p fv size=>nd (AO.kind.eq_5 p fv size)
theorem MA : ∀ (size bytes:Nat) (fv y:X),(AO.app size bytes fv y).kind=AK.core:=
 fun size bytes fv y=>nd (AO.kind.eq_6 size bytes fv y)
theorem MB : ∀ (fv:X) (agg:Bool) (size:Nat),(AO.load fv agg size).kind=AK.load:=
 fun _ _ _=>nd rfl
theorem P8:gK AK.core=true:=
 nd (gK.eq_1)
theorem P9:gK AK.alloc=true:=
 nd (gK.eq_2)
theorem Qa : ∀ (i:AI) (tm:Tm) (d:D),n9 i tm d [] = True:=
 fun i tm d=>nd (n9.eq_1 i tm d)
theorem Qb : ∀ (i:AI) (tm:Tm) (d:D) (s:St) (r:List St),
 n9 i tm d (s::r)=(j9 i tm s=some d∧n9 i tm d r):=
 fun i tm d s r=>nd (n9.eq_2 i tm d s r)
theorem aak : ∀ (tm:Tm) (s:St) (dst:Option Nat) (o:AO),
 j9 (AI.op dst none o) tm s=Option.map (fun(x:D×St)=>x.fst) (aO o tm s):=
 fun tm s dst o=>nd (j9.eq_1 tm s dst o)
theorem aal : ∀ (tm:Tm) (s:St) (dst:Option Nat) (t:Nat) (want:Bool) (o:AO),
 j9 (AI.op dst (some (t,want)) o) tm s =
  match tm.get t with
  |D.bool b=>if b=want then Option.map (fun(x:D×St)=>x.fst) (aO o tm s)else some (D.tuple [])
  |D.tuple vs=>some (D.tuple [])
  |x=>none:=
 fun tm s dst t want o=>nd (j9.eq_2 tm s dst t want o)
theorem MC : ∀ (is:List AI),mW is [] = some []:=
 fun is=>nd (mW.eq_1 is)
theorem MD : ∀ (is:List AI) (q b:Nat) (r:List (Nat×Nat)),
 mW is ((q,b)::r) =
  match is[q]?,mW is r with
  |some ai,some l=>some ((ai,b)::l)
  |x,fv=>none:=
 fun is q b r=>nd (mW.eq_2 is q b r)
theorem aam : ∀ (tm:Tm) (n m:Nat),uI tm n m [] = True:=
 fun tm n m=>nd (uI.eq_1 tm n m)
theorem aan : ∀ (tm:Tm) (n m k:Nat) (d:D) (r:List (Nat×D)),
 uI tm n m ((k,d)::r)=(Wk (D.fg n m (tm.get k)) d∧uI tm n m r):=
 fun tm n m k d r=>nd (uI.eq_2 tm n m k d r)
theorem VG : ∀ (n m o off:Nat),D.fg n m (D.ptr o off)=if o<n then D.ptr o off else D.junk:=
 fun n m o off=>nd (D.fg.eq_1 n m o off)
theorem VH : ∀ (n m:Nat) (row:List D) (off:Nat),D.fg n m (D.dL row off)=D.dL (D.gw n m row) off:=
 fun n m row off=>nd (D.fg.eq_2 n m row off)
theorem VI : ∀ (n m:Nat) (g:Tag) (z:Nat) (rows:List (List D)),
 D.fg n m (D.slice g z rows)=D.slice (Tag.fg m g) z (D.kL n m rows):=
 fun n m g z rows=>nd (D.fg.eq_3 n m g z rows)
theorem VJ : ∀ (n m:Nat) (cs:List D),D.fg n m (D.agg cs)=D.agg (D.gw n m cs):=
 fun n m cs=>nd (D.fg.eq_4 n m cs)
theorem VK : ∀ (n m:Nat) (ds:List D),D.fg n m (D.tuple ds)=D.tuple (D.gw n m ds):=
 fun n m ds=>nd (D.fg.eq_5 n m ds)
theorem VL : ∀ (n m:Nat),D.fg n m D.junk=D.junk:=
 fun n m=>nd (D.fg.eq_6 n m)
theorem VM : ∀ (n m:Nat) (k:IntKind) (fv:Int),D.fg n m (D.int k fv)=D.int k fv:=
 fun n m k fv=>nd (D.fg.eq_7 n m k fv)
theorem VN : ∀ (n m:Nat) (b:Bool),D.fg n m (D.bool b)=D.bool b:=
 fun n m b=>nd (D.fg.eq_8 n m b)
theorem VO : ∀ (n m:Nat) (l:List UInt8),D.fg n m (D.str l)=D.str l:=
 fun n m l=>nd (D.fg.eq_9 n m l)
theorem S2 : ∀ (n m:Nat),D.fg n m D.ek=D.ek:=
 fun n m=>nd (D.fg.eq_10 n m)
theorem S3 : ∀ (n m:Nat),D.gw n m [] = []:=
 fun n m=>nd (D.gw.eq_1 n m)
theorem S4 : ∀ (n m:Nat) (d:D) (r:List D),D.gw n m (d::r)=D.fg n m d::D.gw n m r:=
 fun n m d r=>nd (D.gw.eq_2 n m d r)
theorem S5 : ∀ (n m:Nat),D.kL n m [] = []:=
 fun n m=>nd (D.kL.eq_1 n m)
theorem S6 : ∀ (n m:Nat) (d:List D) (r:List (List D)),D.kL n m (d::r)=D.gw n m d::D.kL n m r:=
 fun n m d r=>nd (D.kL.eq_2 n m d r)
theorem Qc : ∀ (m t:Nat) (y:Bool),Tag.fg m (Tag.tok t y)=if t<m then Tag.tok t y else Tag.shared:=
 fun _ _ _=>nd rfl
theorem Qd : ∀ (s:St) (n m:Nat),
 s.cut n m = {ah:=List.map (D.gw n m) (List.take n s.ah),aw:=List.take m s.aw}:=
 fun s n m=>nd (St.cut.eq_1 s n m)
theorem VP : ∀ (d:D),aR [d] = d:=
 fun d=>nd (aR.eq_1 d)
theorem VQ (size bytes t:Nat) (rows:List (List D)) (g:Tag) (r:List D) (s:St):gp size bytes (.slice (.tok t) size rows) (.slice g size [r]) s =
 if(rows.length+1)*(bytes+1)≤bu∧s.aw[t]? = some (some rows.length)then some (.slice (.tok t) size (rows++ [r]),⟨s.ah,s.aw.set t (some (rows.length+1))⟩)else none:=by
 simp only[gp,List.length_singleton]
 by_cases h1:(rows.length+1)*(bytes+1)≤bu<;>by_cases h2:s.aw[t]? = some (some rows.length)<;>simp[h1,h2]
theorem o9 {size bytes t:Nat} {rows new:List (List D)} {g:Tag} {s:St} (h1:(rows.length+new.length)*(bytes+1)≤bu) (h2:s.aw[t]? = some (some rows.length)) :
 gp size bytes (.slice (.tok t) size rows) (.slice g size new) s=some (.slice (.tok t) size (rows++new),⟨s.ah,s.aw.set t (some (rows.length+new.length))⟩):=by
 cases new with
 | nil=>
  have:s.aw.set t (some rows.length)=s.aw:=by
   apply List.ext_getElem?
   intro i
   rw[List.getElem?_set]
   split
   ·rename_i hi;subst hi;rw[h2,if_pos (List.getElem?_eq_some_iff.1 h2).1]
   ·rfl
  simp only[List.length_nil,Nat.add_zero]at h1
  simp[gp,h1,this]
 |cons x l=>
  simp only[gp,h1,h2]
  simp
theorem S7 (size bytes z:Nat) (g:Tag) (r:List D) (s:St):gp size bytes (.slice .full z []) (.slice g size [r]) s =
 if bytes+1≤bu then some (.slice (.tok s.aw.length) size [r],⟨s.ah,s.aw++ [some 1]⟩)else none:=by
 simp[gp]
theorem aao {P:Program} {B:e7} {nt:Nat} (ac:AC) (Q:Exit→Tm→St→Prop) (tm:Tm) (s:St):jZ P B nt ac Q .normal tm s=Q .normal tm s:=nd rfl
theorem aap {P:Program} {B:e7} {nt:Nat} (ac:AC) (Q:Exit→Tm→St→Prop) (tm:Tm) (s:St):jZ P B nt ac Q .ret tm s=Q .ret tm s:=nd rfl
theorem aaq {P:Program} {B:e7} {nt:Nat} (ac:AC) (Q:Exit→Tm→St→Prop) (tm:Tm) (s:St) (i:Nat):jZ P B nt ac Q (.exit i) tm s=Q (.exit i) tm s:=nd rfl
theorem aar (m:Nat):Tag.fg m .full = .full:=nd rfl
theorem S8 (m:Nat):Tag.fg m .shared = .shared:=nd rfl
theorem ag1 {P:Program} (K:Tm→St→Prop) (tm:Tm) (s:St):kC P [] K tm s=K tm s:=nd rfl
theorem s_op {P:Program} (dst:Option Nat) (o:AO) (r:List AI) (K:Tm→St→Prop) (tm:Tm) (s:St) :
 kC P (.op dst none o::r) K tm s=(match aO o tm s with|some (d,s')=>kC P r K (tm.put dst d) s'|none=>False):=nd rfl
def KJ (P:Program) (r:List AI) (K:Tm→St→Prop) (tm:Tm) (dst:Option Nat) (d:D) (s:St):Prop:=kC P r K (tm.put dst d) s
theorem akC {P:Program} (r:List AI) (K:Tm→St→Prop) (tm:Tm) (dst:Option Nat) (d:D) (s:St):KJ P r K tm dst d s=kC P r K (tm.put dst d) s:=nd rfl
theorem s_call {P:Program} (dst:Option Nat) (f:Nat) (xs:List X) (r:List AI) (K:Tm→St→Prop) (tm:Tm) (s:St) :
 kC P (.call dst none f xs::r) K tm s=CL false P f (xs.map (·.ev tm)) s (KJ P r K tm dst):=nd rfl
def NJ (P:Program) (dst:Option Nat) (neg:Bool) (x:D) (r:List AI) (K:Tm→St→Prop) (tm:Tm) (s:St):Prop:=
 match x with
 | .slice _ _ rows=>∀ b:Bool,(rows≠ []→b=false)→kC P r K (tm.put dst (.bool (if neg then !b else b))) s
 |_=>False
theorem ac6 {P:Program} (dst:Option Nat) (neg:Bool) (x:X) (r:List AI) (K:Tm→St→Prop) (tm:Tm) (s:St) :
 kC P (.nil dst none neg x::r) K tm s=NJ P dst neg (x.ev tm) r K tm s:=nd rfl
theorem aas {P:Program} (dst:Option Nat) (neg:Bool) (g:Tag) (z:Nat) (d:List D) (l:List (List D)) (r:List AI) (K:Tm→St→Prop) (tm:Tm) (s:St) :
 NJ P dst neg (.slice g z (d::l)) r K tm s=kC P r K (tm.put dst (.bool neg)) s:=by
 simp only[NJ,ne_eq,reduceCtorEq,not_false_eq_true,true_imp_iff,eq_iff_iff]
 refine⟨fun h=>by have:=h false rfl;cases neg<;>exact this,fun h b hb=>?_⟩
 subst hb;cases neg<;>exact h
theorem DR {P:Program} {dst:Option Nat} {neg:Bool} {g:Tag} {z:Nat} {l:List (List D)} {r:List AI} {K:Tm→St→Prop} {tm:Tm} {s:St}
 (h1:l = []→kC P r K (tm.put dst (.bool (!neg))) s) (h2:kC P r K (tm.put dst (.bool neg)) s):NJ P dst neg (.slice g z l) r K tm s:=by
 intro b hb
 cases b with
 |false=>cases neg<;>exact h2
 |true=>
  have:l = []:=Decidable.byContradiction fun h=>by cases hb h
  cases neg<;>exact h1 this
theorem ag3 {P:Program} (dst:Option Nat) (t:Nat) (w:Bool) (o:AO) (r:List AI) (K:Tm→St→Prop) (tm:Tm) (s:St) :
 kC P (.op dst (some (t,w)) o::r) K tm s = @GB (tm.get t) w ⟨(kC P (.op dst none o::r) K tm s),(kC P r K (tm.put dst (.tuple [])) s)⟩:=nd rfl
def CV (P:Program) (x:D) (ag4:List D) (s:St) (K:D→St→Prop):Prop:=
 match x with
 | .gi f nJ=>enters P f=true∧CL false P f (ag4++nJ) s K
 |_=>False
theorem aat {P:Program} (dst:Option Nat) (t:Nat) (xs:List X) (r:List AI) (K:Tm→St→Prop) (tm:Tm) (s:St) :
 kC P (.jw dst none t xs::r) K tm s=CV P (tm.get t) (xs.map (·.ev tm)) s (KJ P r K tm dst):=nd rfl
theorem CV.use {P:Program} {f:Nat} {nJ ag4:List D} {s s':St} {d:D} {K:D→St→Prop} (he:enters P f=true) (h:az P f (ag4++nJ) s d s') (k:K d s'):CV P (.gi f nJ) ag4 s K:=⟨he,CU h k⟩
theorem VR {P:Program} (dst:Option Nat) (t:Nat) (w:Bool) (u:Nat) (xs:List X) (r:List AI) (K:Tm→St→Prop) (tm:Tm) (s:St) :
 kC P (.jw dst (some (t,w)) u xs::r) K tm s = @GB (tm.get t) w ⟨(kC P (.jw dst none u xs::r) K tm s),(kC P r K (tm.put dst (.tuple [])) s)⟩:=nd rfl
theorem aau {P:Program} (dst:Option Nat) (t:Nat) (w:Bool) (f:Nat) (xs:List X) (r:List AI) (K:Tm→St→Prop) (tm:Tm) (s:St) :
 kC P (.call dst (some (t,w)) f xs::r) K tm s = @GB (tm.get t) w ⟨(kC P (.call dst none f xs::r) K tm s),(kC P r K (tm.put dst (.tuple [])) s)⟩:=nd rfl
theorem ac8 {P:Program} (dst:Option Nat) (t:Nat) (w:Bool) (neg:Bool) (x:X) (r:List AI) (K:Tm→St→Prop) (tm:Tm) (s:St) :
 kC P (.nil dst (some (t,w)) neg x::r) K tm s = @GB (tm.get t) w ⟨(kC P (.nil dst none neg x::r) K tm s),(kC P r K (tm.put dst (.tuple [])) s)⟩:=nd rfl
theorem akD (b:Bool) (A C:Prop) : @GB (.bool b) true ⟨A,C⟩ = @CB (.bool b) ⟨A,C⟩:=nd rfl
theorem akE (b:Bool) (A C:Prop) : @GB (.bool b) false ⟨A,C⟩ = @CB (.bool b) ⟨C,A⟩:=by
 cases b<;>simp[GB,CB,GJ,uU]
theorem akF (l:List D) (w:Bool) (A C:Prop) : @GB (.tuple l) w ⟨A,C⟩=C:=nd rfl
theorem ag5 {P:Program} {K:Tm→St→Prop} (bN:List St) (tm:Tm) (s:St):gu P K [] bN tm s=K tm s:=nd rfl
def OJ (P:Program) (o:AO) (dst:Option Nat) (b:Nat) (r:List (AI×Nat)) (K:Tm→St→Prop) (bN:List St) (tm:Tm) (s:St):Bool→Prop
 |true=>match aO o tm s with|some (d,s')=>gu P K r (s::bN) (tm.put dst d) s'|none=>False
 |false=>match aO o tm s with|some (d,_)=>n9 (.op dst none o) tm d (bN.take b)∧gu P K r bN (tm.put dst d) s|none=>False
theorem akH {P:Program} {K:Tm→St→Prop} (dst:Option Nat) (o:AO) (b:Nat) (r:List (AI×Nat)) (bN:List St) (tm:Tm) (s:St) :
 gu P K ((.op dst none o,b)::r) bN tm s=OJ P o dst b r K bN tm s o.core:=by
 simp only[gu,mX]
 cases o.core<;>rfl
theorem akI {P:Program} (o:AO) (dst:Option Nat) (b:Nat) (r:List (AI×Nat)) (K:Tm→St→Prop) (bN:List St) (tm:Tm) (s:St) :
 OJ P o dst b r K bN tm s true=match aO o tm s with|some (d,s')=>gu P K r (s::bN) (tm.put dst d) s'|none=>False:=nd rfl
theorem akJ {P:Program} (o:AO) (dst:Option Nat) (b:Nat) (r:List (AI×Nat)) (K:Tm→St→Prop) (bN:List St) (tm:Tm) (s:St) :
 OJ P o dst b r K bN tm s false=match aO o tm s with|some (d,_)=>n9 (.op dst none o) tm d (bN.take b)∧gu P K r bN (tm.put dst d) s|none=>False:=nd rfl
theorem ag6 {P:Program} {K:Tm→St→Prop} (dst:Option Nat) (t:Nat) (w:Bool) (o:AO) (b:Nat) (r:List (AI×Nat)) (bN:List St) (tm:Tm) (s:St) :
 gu P K ((.op dst (some (t,w)) o,b)::r) bN tm s = @GB (tm.get t) w ⟨(gu P K ((.op dst none o,b)::r) bN tm s),(gu P K r (if o.core then s::bN else bN) (tm.put dst (.tuple [])) s)⟩:=by
 simp only[GB,gu,mX]
 cases o.core<;>rfl
def KG (P:Program) (K:Tm→St→Prop) (r:List (AI×Nat)) (bN:List St) (tm:Tm) (dst:Option Nat) (d:D) (s:St):Prop:=gu P K r bN (tm.put dst d) s
theorem akK {P:Program} (K:Tm→St→Prop) (r:List (AI×Nat)) (bN:List St) (tm:Tm) (dst:Option Nat) (d:D) (s:St):KG P K r bN tm dst d s=gu P K r bN (tm.put dst d) s:=nd rfl
theorem g_call {P:Program} {K:Tm→St→Prop} (dst:Option Nat) (f:Nat) (xs:List X) (b:Nat) (r:List (AI×Nat)) (bN:List St) (tm:Tm) (s:St) :
 gu P K ((.call dst none f xs,b)::r) bN tm s=CL true P f (xs.map (·.ev tm)) s (KG P K r (s::bN) tm dst):=nd rfl
theorem aav {P:Program} {K:Tm→St→Prop} (dst:Option Nat) (t:Nat) (w:Bool) (f:Nat) (xs:List X) (b:Nat) (r:List (AI×Nat)) (bN:List St) (tm:Tm) (s:St) :
 gu P K ((.call dst (some (t,w)) f xs,b)::r) bN tm s = @GB (tm.get t) w ⟨(gu P K ((.call dst none f xs,b)::r) bN tm s),(gu P K r (s::bN) (tm.put dst (.tuple [])) s)⟩:=nd rfl
class Ok (p:Prop):Prop where
 out:p
instance:Ok True:=⟨trivial⟩
instance {p q:Prop} [Ok p] [Ok q] : Ok (p∧q):=⟨⟨Ok.out,Ok.out⟩⟩
instance {α:Type} (a:α):Ok (a=a):=⟨rfl⟩
instance (d:D):Ok (Wk d .junk):=⟨Wk.junk d⟩
instance {l l':List D} [Ok (ju l l')] : Ok (Wk (.tuple l) (.tuple l')):=⟨Wk.tuple Ok.out⟩
instance {l l':List D} [Ok (ju l l')] : Ok (Wk (.agg l) (.agg l')):=⟨Wk.agg Ok.out⟩
instance {g:Tag} {z:Nat} {l l':List (List D)} [Ok (gx l l')] : Ok (Wk (.slice g z l) (.slice g z l')):=⟨Wk.rows Ok.out⟩
instance {g:Tag} {z:Nat} {l l':List (List D)} [Ok (gx l l')] : Ok (Wk (.slice g z l) (.slice .shared z l')):=⟨Wk.slice Ok.out⟩
instance (z z':Nat):Ok (Wk (.slice .full z []) (.slice .full z' [])):=⟨Wk.aks z z'⟩
instance (g:Tag) (z z':Nat):Ok (Wk (.slice g z []) (.slice .shared z' [])):=⟨Wk.nil g z z'⟩
instance (d:D):Ok (Wk d d):=⟨Wk.refl d⟩
instance:Ok (ju [] []):=⟨.nil⟩
instance {d d':D} {l l':List D} [Ok (Wk d d')] [Ok (ju l l')] : Ok (ju (d::l) (d'::l')):=⟨.cons Ok.out Ok.out⟩
instance (l:List D):Ok (ju l l):=⟨ju.refl l⟩
instance:Ok (gx [] []):=⟨.nil⟩
instance {d d':List D} {l l':List (List D)} [Ok (ju d d')] [Ok (gx l l')] : Ok (gx (d::l) (d'::l')):=⟨.cons Ok.out Ok.out⟩
instance {a a' b b':List (List D)} [Ok (gx a a')] [Ok (gx b b')] : Ok (gx (a++b) (a'++b')):=⟨gx.append Ok.out Ok.out⟩
instance (l:List (List D)):Ok (gx l l):=⟨gx.refl l⟩
theorem bs:(∀ b,(true ||b)=true)∧(∀ b,(false ||b)=b)∧(∀ b,(b ||true)=true)∧(∀ b,(b ||false)=b)∧(∀ b,(true && b)=b)∧(∀ b,(false && b)=false)∧(∀ b,(b && true)=b)∧(∀ b,(b && false)=false)∧
 (!true)=false∧(!false)=true∧(∀ b,(!!b)=b)∧((false=true)=False)∧(∀ (α β:Type) (a:α) (f:α→Option β),(some a).bind f=f a)∧
 (∀ (α β γ:Type) (x:Option α) (f:α→Option β) (g:β→Option γ),(x.bind f).bind g=x.bind fun y=>(f y).bind g):=
 ⟨Bool.true_or,Bool.false_or,Bool.or_true,Bool.or_false,Bool.true_and,Bool.false_and,Bool.and_true,Bool.and_false,rfl,rfl,Bool.not_not,by simp,fun _ _ _ _=>rfl,fun _ _ _ x f g=>Option.bind_assoc x f g⟩
attribute [go_sem] ac3 akz akA ag1 s_op akC s_call ac6 aas ag3 aau ac8 akD akE akF ag5 akH akI akJ ag6 akK g_call aav AO.core AI.kind AO.kind gK
attribute [go_sem] PB PC Kc Kd aat VR Px Py Pz PA Ke Kf Kg Kh SS SU PD Z2 Vo
attribute [go_sem] Pw Ki Pt Pu Pv Kj Kk Kl SV SW Z1 SD ZX Vl ZY Vm ZZ Vn SC Z0 Vp O1 Vq
attribute [go_sem] SJ SK SL SM SN SO SP SQ SR O3 O4 O5 O6 O7 O8 O9 Pa Pb Pe Pf Ph Pj Pk Pl Pn Po Pp Pq Pr Ps VA VB PE PF PG PH PI PJ SX SY PK PN PO VC VD PQ SZ S1 Km Kn Ko Kp VE VF PR PS PT PU PV PW PX PY PZ Mj Mk P0 P2 P3 P4 aae aaf P5 P6 P7 Ml Mm aag aah aai aaj Mn Mp Mq Mr Ms Mt Mu Mv Mw Mx My Mz MA MB P8 P9 Qa Qb aak aal MC MD aam aan VG VH VI VJ VK VL VM VN VO S2 S3 S4 S5 S6 Qc Qd VP VQ S7 aar S8 aao aap aaq
attribute [go_sem] List.map_cons List.map_nil List.getElem?_cons_zero List.getElem?_cons_succ List.length_cons List.length_nil List.set_cons_zero List.set_cons_succ List.take_succ_cons List.take_zero List.take_nil List.drop_succ_cons List.drop_zero List.drop_nil List.cons_append List.nil_append List.append_nil Nat.zero_add Nat.add_zero Option.map_some Option.map_none
attribute [go_sem] Bool.not_false Bool.not_true List.length_map List.getElem?_map Int.toNat_natCast Int.natCast_nonneg Int.toNat_zero and_self and_true true_and
attribute [go_sem_proc ↓] reduceIte
attribute [go_sem_proc] Int.reduceLE reduceCtorEq Nat.reduceEqDiff Nat.reduceLeDiff Nat.reduceAdd Nat.reduceMul Nat.reduceSub Nat.reduceLT
theorem aX {b:Bool} {A C:Prop} (h1:b=true→A) (h:b=true:=by assumption) : @CB (.bool b) ⟨A,C⟩:=ac4 h h1
theorem aY {b:Bool} {A C:Prop} (h1:b=false→C) (h:b=false:=by assumption) : @CB (.bool b) ⟨A,C⟩:=ac5 h h1
theorem aZ {b:Bool} {A C:Prop} (h1:b=true→A) (h2:b=false→C) : @CB (.bool b) ⟨A,C⟩:=⟨h1,h2⟩
theorem eL {a b:Prop} (x:a) (y:b):a∧b:=⟨x,y⟩
theorem bn {α:Type _} (a b:α):(some a=some b)=(a=b):=Option.some.injEq a b
theorem bo {α:Sort _} {p:α→Prop} {a:α} : (∃ x,a=x∧p x)↔p a:=exists_eq_left'
theorem mH {n m:Nat} (h:Nat.ble n m=true):n≤m:=Nat.le_of_ble_eq_true h
theorem aB {n m:Nat} {res:List (Nat×Option (Bool×Nat))} {d:D} {s':St} {e:Exit} {tm:Tm} {s:St} {Q:Exit→Tm→St→Prop} (hQ:iz n m res d s'=Q) (h : ∃ l,aQ res tm s=some l∧Wk ((aR l).fg n m) d∧gx (s.cut n m).ah s'.ah∧(s.cut n m).aw=s'.aw) (he:e = .ret∨e = .normal:=by first|exact .inl rfl|exact .inr rfl):Q e tm s:=by cases he with|inl x=>cases x;exact agZ hQ h|inr x=>cases x;exact ag0 hQ h
theorem bR {p:Prop} (h:p:=by repeat' (first|exact Ok.out|with_reducible refine eL ?_ ?_|(simp;done))):p:=h
theorem cb {p:Prop} (h:p:=by repeat' (first|exact Ok.out|with_reducible refine eL ?_ ?_)):p:=h
theorem ep {p:Prop} (h:p:=by(try cases h);simp only[aQ,aR,bn,bo,go_sem,hC,hE,hM,hY];repeat' (first|exact Ok.out|with_reducible refine eL ?_ ?_|(simp;done))):p:=h
theorem bg {p:Prop} (h:p:=by simp only[aQ,aR,bn,bo,go_sem,hC,hE,hM,hY];repeat' (first|exact Ok.out|with_reducible refine eL ?_ ?_|(simp;done))):p:=h
theorem lX_ {p:Prop} (h:p:=by simp only[go_sem,hC,hE,hM,hY];repeat' (first|exact Ok.out|with_reducible refine eL ?_ ?_)):p:=h
theorem dQ {P:Program} {B:e7} {nt:Nat} {a:AC} {Q:Exit→Tm→St→Prop} {tm bE:Tm} {s:St} {fN:List (List D)} (n m:Nat) (h:bd P B nt a Q bE ⟨fN,(s.cut n m).aw⟩) (hn:B.s.ah.length≤n:=by rw[hB];exact mH rfl) (hm:B.s.aw.length≤m:=by rw[hB];exact mH rfl) (ht:uI tm n m bE:=by exact lX_) (ho:gx (s.cut n m).ah fN:=by exact lX_):bd P B nt a Q tm s:=bd.re bE fN n m hn hm ht ho h
theorem eM {P:Program} {B:e7} {nt:Nat} {a:AC} {Q:Exit→Tm→St→Prop} {tm bE:Tm} {s:St} {fN:List (List D)} (n m:Nat) (ht:uI tm n m bE) (ho:gx (s.cut n m).ah fN) (h:bd P B nt a Q bE ⟨fN,(s.cut n m).aw⟩) (hn:B.s.ah.length≤n:=by rw[hB];exact mH rfl) (hm:B.s.aw.length≤m:=by rw[hB];exact mH rfl):bd P B nt a Q tm s:=bd.re bE fN n m hn hm ht ho h
theorem bC:0<1∧0<1∧0<1∧0<1:=⟨Nat.zero_lt_one,Nat.zero_lt_one,Nat.zero_lt_one,Nat.zero_lt_one⟩
end Go.Abs
namespace Go.Abs
mutual
theorem Qe (n m:Nat) : ∀ d,D.ok 0 0 d=true→D.fg n m d=d
 | .junk,_=>by simp[D.fg]
 | .int k n,_=>by simp[D.fg]
 | .bool b,_=>by simp[D.fg]
 | .str l,_=>by simp[D.fg]
 | .ek,_=>by simp[D.fg]
 | .val v,_=>by simp[D.fg]
 | .eD z,_=>by simp[D.fg]
 | .fm T o,h=>by simp[D.ok]at h
 | .fS o,h=>by simp[D.ok]at h
 | .gi f cs,h=>by
  simp only[D.ok]at h
  simp only[D.fg,ij n m cs h]
 | .ptr o f,h=>by simp[D.ok]at h
 | .dL r f,h=>by
  simp only[D.ok]at h
  simp only[D.fg,ij n m r h]
 | .slice g z rows,h=>by
  simp only[D.ok,Bool.and_eq_true]at h
  simp only[D.fg,Kq n m rows h.2]
  cases g with
  |tok t y=>simp[Tag.ok]at h
  |full=>rfl
  |shared=>rfl
 | .agg cs,h=>by
  simp only[D.ok]at h
  simp only[D.fg,ij n m cs h]
 | .tuple cs,h=>by
  simp only[D.ok]at h
  simp only[D.fg,ij n m cs h]
theorem ij (n m:Nat) : ∀ l,D.bH 0 0 l=true→D.gw n m l=l
 | [],_=>by simp[D.gw]
 |d::r,h=>by
  simp only[D.bH,Bool.and_eq_true]at h
  simp only[D.gw,Qe n m d h.1,ij n m r h.2]
theorem Kq (n m:Nat) : ∀ l,D.gW 0 0 l=true→D.kL n m l=l
 | [],_=>by simp[D.kL]
 |d::r,h=>by
  simp only[D.gW,Bool.and_eq_true]at h
  simp only[D.kL,ij n m d h.1,Kq n m r h.2]
end
theorem gX {α:Type} {f:α→List D} (h : ∀ x,D.bH 0 0 (f x)=true) (l:List α):D.gW 0 0 (l.map f)=true:=by
 simp[EI,h]
theorem lR {α:Type} {f:α→List D} (h : ∀ x,D.bH 0 0 (f x)=true) (n m:Nat) (l:List α):D.kL n m (l.map f)=l.map f:=Kq n m _ (gX h l)
theorem Na (n m:Nat) : ∀ a b,D.kL n m (a++b)=D.kL n m a++D.kL n m b
 | [],b=>by simp[D.kL]
 |x::a,b=>by simp[D.kL,Na n m a b]
abbrev aF:=List UInt8
structure fX where
 kind:Int
 text:aF
 n:Int
 pos:Int
deriving DecidableEq
structure Ex where
 op:Int
 n:Int
 name:aF
 kids:List Ex
structure Ar where
 ref:Bool
 name:aF
 x:Ex
structure Sm where
 id:Int
 kind:Int
 labels:List aF
 name:aF
 proc:aF
 x:Ex
 has:Bool
 args:List Ar
 bm:List Sm
 bc:List Sm
structure Pm where
 name:aF
 ref:Bool
structure Pc where
 name:aF
 params:List Pm
 vars:List aF
 body:List Sm
 fin:List aF
structure Pg where
 globals:List aF
 procs:List Pc
def qg:Ex:=⟨0,0,[],[]⟩
def ar0:Ar:=⟨false,[],qg⟩
def Hn:Sm:=⟨0,0,[],[],[],qg,false,[],[],[]⟩
def Yw:Pg:=⟨[],[]⟩
def encStr (s:aF):List D:= [.str s]
def eN (t:fX):List D:= [.int .i64 t.kind, .str t.text, .int .i64 t.n, .int .i64 t.pos]
def sl (z:Nat) (rows:List (List D)):D:= .slice .shared z rows
mutual
def bI:Ex→List D
 |⟨op,n,name,kids⟩=> [.int .i64 op, .int .i64 n, .str name, .slice .shared 4 (vy kids)]
def vy:List Ex→List (List D)
 | []=> []
 |x::l=>bI x::vy l
end
theorem Ho : ∀ l,vy l=l.map bI
 | []=>by simp[vy]
 |x::l=>by simp[vy,Ho l]
theorem jz (x:Ex):bI x = [.int .i64 x.op, .int .i64 x.n, .str x.name, .slice .shared 4 (x.kids.map bI)]:=by
 cases x;simp[bI,Ho]
def eC (a:Ar):List D:= [.bool a.ref, .str a.name, .int .i64 a.x.op, .int .i64 a.x.n, .str a.x.name, .slice .shared 4 (a.x.kids.map bI)]
mutual
def a8:Sm→List D
 |⟨id,kind,labels,name,proc,x,has,args,bm,bc⟩=> [.int .i64 id, .int .i64 kind, .slice .shared 1 (labels.map encStr), .str name, .str proc,
  .int .i64 x.op, .int .i64 x.n, .str x.name, .slice .shared 4 (x.kids.map bI), .bool has, .slice .shared 6 (args.map eC), .slice .shared 13 (tG bm), .slice .shared 13 (tG bc)]
def tG:List Sm→List (List D)
 | []=> []
 |x::l=>a8 x::tG l
end
theorem Hp : ∀ l,tG l=l.map a8
 | []=>by simp[tG]
 |x::l=>by simp[tG,Hp l]
theorem dR (s:Sm):a8 s = [.int .i64 s.id, .int .i64 s.kind, .slice .shared 1 (s.labels.map encStr), .str s.name, .str s.proc,
 .int .i64 s.x.op, .int .i64 s.x.n, .str s.x.name, .slice .shared 4 (s.x.kids.map bI), .bool s.has, .slice .shared 6 (s.args.map eC), .slice .shared 13 (s.bm.map a8), .slice .shared 13 (s.bc.map a8)]:=by
 cases s;simp[a8,Hp]
def gN (p:Pm):List D:= [.str p.name, .bool p.ref]
def cH (p:Pc):List D:= [.str p.name, .slice .shared 2 (p.params.map gN), .slice .shared 1 (p.vars.map encStr), .slice .shared 13 (p.body.map a8), .slice .shared 1 (p.fin.map encStr)]
def cR (p:Pg):List D:= [.slice .shared 1 (p.globals.map encStr), .slice .shared 5 (p.procs.map cH)]
theorem ac9 (x:fX):(eN x).length=4:=nd rfl
theorem aaw (x:fX):List.take 4 (eN x)=eN x:=nd rfl
theorem aax (x:fX):List.drop 4 (eN x) = []:=nd rfl
theorem S9 (x:fX):(eN x)[0]? = some (.int .i64 x.kind):=nd rfl
theorem Ta (x:fX):(eN x)[1]? = some (.str x.text):=nd rfl
theorem Tb (x:fX):(eN x)[2]? = some (.int .i64 x.n):=nd rfl
theorem Tc (x:fX):(eN x)[3]? = some (.int .i64 x.pos):=nd rfl
theorem ag7 (EN:Int) (Yx:aF) (n_:Int) (adb:Int):eN ⟨EN,Yx,n_,adb⟩ = [.int .i64 EN, .str Yx, .int .i64 n_, .int .i64 adb]:=by simp only[eN]
theorem ag8 (x:Ex):(bI x).length=4:=by simp only[jz];rfl
theorem ade (x:Ex):List.take 4 (bI x)=bI x:=by simp only[jz];rfl
theorem adf (x:Ex):List.drop 4 (bI x) = []:=by simp only[jz];rfl
theorem VS (x:Ex):(bI x)[0]? = some (.int .i64 x.op):=by simp only[jz];rfl
theorem VT (x:Ex):(bI x)[1]? = some (.int .i64 x.n):=by simp only[jz];rfl
theorem VU (x:Ex):(bI x)[2]? = some (.str x.name):=by simp only[jz];rfl
theorem VV (x:Ex):(bI x)[3]? = some (.slice .shared 4 (x.kids.map bI)):=by simp only[jz];rfl
theorem akL (op_:Int) (n_:Int) (oJ:aF) (Yy:List Ex):bI ⟨op_,n_,oJ,Yy⟩ = [.int .i64 op_, .int .i64 n_, .str oJ, .slice .shared 4 (Yy.map bI)]:=by simp only[jz]
theorem ag9 (x:Ar):(eC x).length=6:=nd rfl
theorem adg (x:Ar):List.take 6 (eC x)=eC x:=nd rfl
theorem adh (x:Ar):List.drop 6 (eC x) = []:=nd rfl
theorem VW (x:Ar):(eC x)[0]? = some (.bool x.ref):=nd rfl
theorem VX (x:Ar):(eC x)[1]? = some (.str x.name):=nd rfl
theorem VY (x:Ar):(eC x)[2]? = some (.int .i64 x.x.op):=nd rfl
theorem VZ (x:Ar):(eC x)[3]? = some (.int .i64 x.x.n):=nd rfl
theorem V0 (x:Ar):(eC x)[4]? = some (.str x.x.name):=nd rfl
theorem V1 (x:Ar):(eC x)[5]? = some (.slice .shared 4 (x.x.kids.map bI)):=nd rfl
theorem V2 (x:Ar):List.take 4 (List.drop 2 (eC x))=bI x.x:=by simp only[eC,jz];rfl
theorem akM (Kr:Bool) (oJ:aF) (x_:Ex):eC ⟨Kr,oJ,x_⟩ = [.bool Kr, .str oJ, .int .i64 x_.op, .int .i64 x_.n, .str x_.name, .slice .shared 4 (x_.kids.map bI)]:=by simp only[eC]
theorem aha (x:Sm):(a8 x).length=13:=by simp only[dR];rfl
theorem adi (x:Sm):List.take 13 (a8 x)=a8 x:=by simp only[dR];rfl
theorem adj (x:Sm):List.drop 13 (a8 x) = []:=by simp only[dR];rfl
theorem V3 (x:Sm):(a8 x)[0]? = some (.int .i64 x.id):=by simp only[dR];rfl
theorem V4 (x:Sm):(a8 x)[1]? = some (.int .i64 x.kind):=by simp only[dR];rfl
theorem V5 (x:Sm):(a8 x)[2]? = some (.slice .shared 1 (x.labels.map encStr)):=by simp only[dR];rfl
theorem V6 (x:Sm):(a8 x)[3]? = some (.str x.name):=by simp only[dR];rfl
theorem V7 (x:Sm):(a8 x)[4]? = some (.str x.proc):=by simp only[dR];rfl
theorem V8 (x:Sm):(a8 x)[5]? = some (.int .i64 x.x.op):=by simp only[dR];rfl
theorem V9 (x:Sm):(a8 x)[6]? = some (.int .i64 x.x.n):=by simp only[dR];rfl
theorem Wa (x:Sm):(a8 x)[7]? = some (.str x.x.name):=by simp only[dR];rfl
theorem Wb (x:Sm):(a8 x)[8]? = some (.slice .shared 4 (x.x.kids.map bI)):=by simp only[dR];rfl
theorem Wc (x:Sm):(a8 x)[9]? = some (.bool x.has):=by simp only[dR];rfl
theorem Td (x:Sm):(a8 x)[10]? = some (.slice .shared 6 (x.args.map eC)):=by simp only[dR];rfl
theorem Te (x:Sm):(a8 x)[11]? = some (.slice .shared 13 (x.bm.map a8)):=by simp only[dR];rfl
theorem Tf (x:Sm):(a8 x)[12]? = some (.slice .shared 13 (x.bc.map a8)):=by simp only[dR];rfl
theorem Wd (x:Sm):List.take 4 (List.drop 5 (a8 x))=bI x.x:=by simp only[dR,jz];rfl
theorem akN (id_:Int) (EN:Int) (Nb:List aF) (oJ:aF) (Yz:aF) (x_:Ex) (adk:Bool) (YA:List Ar) (adl:List Sm) (adn:List Sm):a8 ⟨id_,EN,Nb,oJ,Yz,x_,adk,YA,adl,adn⟩ = [.int .i64 id_, .int .i64 EN, .slice .shared 1 (Nb.map encStr), .str oJ, .str Yz, .int .i64 x_.op, .int .i64 x_.n, .str x_.name, .slice .shared 4 (x_.kids.map bI), .bool adk, .slice .shared 6 (YA.map eC), .slice .shared 13 (adl.map a8), .slice .shared 13 (adn.map a8)]:=by simp only[dR]
theorem ahb (x:Pm):(gN x).length=2:=nd rfl
theorem ado (x:Pm):List.take 2 (gN x)=gN x:=nd rfl
theorem adp (x:Pm):List.drop 2 (gN x) = []:=nd rfl
theorem Wf (x:Pm):(gN x)[0]? = some (.str x.name):=nd rfl
theorem Wg (x:Pm):(gN x)[1]? = some (.bool x.ref):=nd rfl
theorem akO (oJ:aF) (Kr:Bool):gN ⟨oJ,Kr⟩ = [.str oJ, .bool Kr]:=by simp only[gN]
theorem ahc (x:Pc):(cH x).length=5:=nd rfl
theorem adq (x:Pc):List.take 5 (cH x)=cH x:=nd rfl
theorem adr (x:Pc):List.drop 5 (cH x) = []:=nd rfl
theorem Wh (x:Pc):(cH x)[0]? = some (.str x.name):=nd rfl
theorem Wi (x:Pc):(cH x)[1]? = some (.slice .shared 2 (x.params.map gN)):=nd rfl
theorem Wj (x:Pc):(cH x)[2]? = some (.slice .shared 1 (x.vars.map encStr)):=nd rfl
theorem Wl (x:Pc):(cH x)[3]? = some (.slice .shared 13 (x.body.map a8)):=nd rfl
theorem Wm (x:Pc):(cH x)[4]? = some (.slice .shared 1 (x.fin.map encStr)):=nd rfl
theorem akP (oJ:aF) (Nc:List Pm) (YB:List aF) (YC:List Sm) (ads:List aF):cH ⟨oJ,Nc,YB,YC,ads⟩ = [.str oJ, .slice .shared 2 (Nc.map gN), .slice .shared 1 (YB.map encStr), .slice .shared 13 (YC.map a8), .slice .shared 1 (ads.map encStr)]:=by simp only[cH]
theorem ahd (x:Pg):(cR x).length=2:=nd rfl
theorem adt (x:Pg):List.take 2 (cR x)=cR x:=nd rfl
theorem adu (x:Pg):List.drop 2 (cR x) = []:=nd rfl
theorem Wn (x:Pg):(cR x)[0]? = some (.slice .shared 1 (x.globals.map encStr)):=nd rfl
theorem Wo (x:Pg):(cR x)[1]? = some (.slice .shared 5 (x.procs.map cH)):=nd rfl
theorem akQ (Ks:List aF) (Tg:List Pc):cR ⟨Ks,Tg⟩ = [.slice .shared 1 (Ks.map encStr), .slice .shared 5 (Tg.map cH)]:=by simp only[cR]
attribute [go_sem] ac9 aaw aax S9 Ta Tb Tc ag7 ag8 ade adf VS VT VU VV akL ag9 adg adh VW VX VY VZ V0 V1 V2 akM aha adi adj V3 V4 V5 V6 V7 V8 V9 Wa Wb Wc Td Te Tf Wd akN ahb ado adp Wf Wg akO ahc adq adr Wh Wi Wj Wl Wm akP ahd adt adu Wn Wo akQ
theorem EO (s:aF):D.bH 0 0 (encStr s)=true:=rfl
theorem IG (t:fX):D.bH 0 0 (eN t)=true:=rfl
mutual
theorem gT : ∀ x,D.bH 0 0 (bI x)=true
 |⟨op,n,name,kids⟩=>by simp[bI,D.bH,D.ok,Tag.ok,YD kids]
theorem YD : ∀ l,D.gW 0 0 (vy l)=true
 | []=>rfl
 |x::l=>by simp[vy,D.gW,gT x,YD l]
end
theorem Kt (a:Ar):D.bH 0 0 (eC a)=true:=by simp[eC,D.bH,D.ok,Tag.ok,gX gT]
mutual
theorem mY : ∀ x,D.bH 0 0 (a8 x)=true
 |⟨id,kind,labels,name,proc,x,has,args,bm,bc⟩=>by simp[a8,D.bH,D.ok,Tag.ok,Qf bm,Qf bc,gX EO,gX gT,gX Kt]
theorem Qf : ∀ l,D.gW 0 0 (tG l)=true
 | []=>rfl
 |x::l=>by simp[tG,D.gW,mY x,Qf l]
end
theorem Qg (p:Pm):D.bH 0 0 (gN p)=true:=rfl
theorem xr (p:Pc):D.bH 0 0 (cH p)=true:=by simp[cH,D.bH,D.ok,Tag.ok,gX Qg,gX EO,gX mY]
theorem jX (p:Pg):D.bH 0 0 (cR p)=true:=by simp[cR,D.bH,D.ok,Tag.ok,gX EO,gX xr]
theorem adv (n m:Nat) (x:fX):D.gw n m (eN x)=eN x:=ij n m _ (IG x)
theorem ahe (n m:Nat) (x:Ex):D.gw n m (bI x)=bI x:=ij n m _ (gT x)
theorem ahf (n m:Nat) (x:Ar):D.gw n m (eC x)=eC x:=ij n m _ (Kt x)
theorem ahg (n m:Nat) (x:Sm):D.gw n m (a8 x)=a8 x:=ij n m _ (mY x)
theorem ahh (n m:Nat) (x:Pm):D.gw n m (gN x)=gN x:=ij n m _ (Qg x)
theorem ahi (n m:Nat) (x:Pc):D.gw n m (cH x)=cH x:=ij n m _ (xr x)
theorem ahj (n m:Nat) (x:Pg):D.gw n m (cR x)=cR x:=ij n m _ (jX x)
attribute [go_sem] adv ahe ahf ahg ahh ahi ahj
theorem eB (l:List aF):D.gW 0 0 (l.map encStr)=true:=gX EO l
theorem Ku (l:List fX):D.gW 0 0 (l.map eN)=true:=gX IG l
theorem YE (l:List Ex):D.gW 0 0 (l.map bI)=true:=gX gT l
theorem II (l:List Ar):D.gW 0 0 (l.map eC)=true:=gX Kt l
theorem oK (l:List Sm):D.gW 0 0 (l.map a8)=true:=gX mY l
theorem Qh (l:List Pm):D.gW 0 0 (l.map gN)=true:=gX Qg l
theorem wJ (l:List Pc):D.gW 0 0 (l.map cH)=true:=gX xr l
theorem Ti (n m:Nat) (l:List aF):D.kL n m (l.map encStr)=l.map encStr:=lR EO n m l
theorem mZ (n m:Nat) (l:List fX):D.kL n m (l.map eN)=l.map eN:=lR IG n m l
theorem ahk (n m:Nat) (l:List Ex):D.kL n m (l.map bI)=l.map bI:=lR gT n m l
theorem ahl (n m:Nat) (l:List Ar):D.kL n m (l.map eC)=l.map eC:=lR Kt n m l
theorem ahm (n m:Nat) (l:List Sm):D.kL n m (l.map a8)=l.map a8:=lR mY n m l
theorem ahn (n m:Nat) (l:List Pm):D.kL n m (l.map gN)=l.map gN:=lR Qg n m l
theorem YF (n m:Nat) (l:List Pc):D.kL n m (l.map cH)=l.map cH:=lR xr n m l
theorem adw (x:Ex) (r:List D):bI x++r = .int .i64 x.op:: .int .i64 x.n:: .str x.name:: .slice .shared 4 (x.kids.map bI)::r:=by rw[jz];rfl
theorem aay (d:D) (x:Ex):d::bI x = [d, .int .i64 x.op, .int .i64 x.n, .str x.name, .slice .shared 4 (x.kids.map bI)]:=by rw[jz]
attribute [go_sem] adw aay
theorem aho:((0:Nat):Int)=0:=nd rfl
theorem ahp:((1:Nat):Int)=1:=nd rfl
theorem ahq:((2:Nat):Int)=2:=nd rfl
attribute [go_sem] aho ahp ahq Na List.length_append List.map_append encStr qg ar0 Hn Yw Ti mZ ahk ahl ahm ahn YF
theorem mx (a b:Nat):(if(b:Int) > (a:Int)then(b:Int)else(a:Int))=((max a b:Nat):Int):=by split<;>omega
theorem dN {x:Int} (h1 : -9223372036854775808≤x) (h2:x<9223372036854775808):IntKind.wrap .i64 x=x:=by
 rw[IntKind.wrap_i64];omega
@[go_sem] theorem aL {n:Nat} (h:n<4611686018427387904):IntKind.wrap .i64 ((n:Int)+1)=((n+1:Nat):Int):=by
 rw[dN]<;>omega
def inc (n:Nat):Option Nat:=if n<4611686018427387904 then some (n+1)else none
theorem Wp {n k:Nat} (h:inc n=some k):IntKind.wrap .i64 ((n:Int)+1)=((n+1:Nat):Int)∧k=n+1:=by
 unfold inc at h
 split at h
 ·rename_i hn;cases h;exact⟨aL hn,rfl⟩
 ·cases h
def Wq (n:Int):Option Int:=if -4611686018427387904<n∧n<4611686018427387904 then some (n+1)else none
theorem Tj {n k:Int} (h:Wq n=some k):IntKind.wrap .i64 (n+1)=n+1∧k=n+1:=by
 unfold Wq at h
 split at h
 ·rename_i hn;cases h;exact⟨dN (by omega) (by omega),rfl⟩
 ·cases h
@[go_sem] theorem ajr {n:Nat} (h:n+1<4611686018427387904):IntKind.wrap .i64 ((n:Int)+1)=((n+1:Nat):Int):=by
 rw[dN]<;>omega
@[go_sem] theorem ajs {n:Nat} (h:n<4611686018427387904):IntKind.wrap .i64 ((n:Int)+2)=((n+2:Nat):Int):=by
 rw[dN]<;>omega
def Qi {α:Type} (l:List α) (i:Nat):Option α:=if i<4611686018427387904 then l[i]? else none
theorem Bx {α:Type} {l:List α} {i:Nat} {x:α} (h:Qi l i=some x):i<4611686018427387904∧l[i]? = some x:=by
 unfold Qi at h
 split at h
 ·exact⟨‹_›,h⟩
 ·cases h
def push {α:Type} (k:Nat) (l:List α) (x:α):Option (List α):=if(l.length+1)*k≤bu then some (l++ [x])else none
theorem pb {α:Type} {k:Nat} {l l':List α} {x:α} (h:push k l x=some l'):(l.length+1)*k≤bu∧l'=l++ [x]:=by
 unfold push at h
 split at h
 ·cases h;exact⟨‹_›,rfl⟩
 ·cases h
end Go.Abs
namespace Go.Abs
mutual
def Ex.size:Ex→Nat
 |⟨_,_,_,kids⟩=>1+Ex.br kids
def Ex.br:List Ex→Nat
 | []=>0
 |x::l=>1+x.size+Ex.br l
end
mutual
def Ex.depth:Ex→Nat
 |⟨_,_,_,kids⟩=>Ex.gP kids+1
def Ex.gP:List Ex→Nat
 | []=>0
 |x::l=>max x.depth (Ex.gP l)
end
def Kv (x:Ex):Option Int:=if x.size<4611686018427387904 then some (x.depth:Int)else none
theorem Ex.dd {x:Ex} : ∀ {l:List Ex},x∈l→x.size<Ex.br l
 |y::l,h=>by
  simp only[Ex.br]
  rcases List.mem_cons.1 h with rfl|h
  ·omega
  ·have:=Ex.dd h;omega
theorem Ex.ei : ∀ (l:List Ex),l.length≤Ex.br l
 | []=>Nat.le_refl _
 |x::l=>by simp only[Ex.br,List.length_cons];have:=Ex.ei l;omega
theorem Ex.Qj : ∀ (n:Nat) (x:Ex),x.size≤n→x.depth≤x.size:=by
 intro n
 induction n with
 |zero=>intro x h;cases x;simp only[Ex.size]at h;omega
 | succ n ih=>
  rintro⟨op,m,name,kids⟩ h
  simp only[Ex.size,Ex.depth]at h ⊢
  have : ∀ l:List Ex,Ex.br l≤n→Ex.gP l≤Ex.br l:=by
   intro l
   induction l with
   |nil=>intro _;simp[Ex.gP]
   |cons x l Tk=>
    intro h
    simp only[Ex.br,Ex.gP]at h ⊢
    have:=ih x (by omega)
    have:=Tk (by omega)
    omega
  have:=this kids (by omega)
  omega
def rE (t:fX):Int×Int:=
 if t.kind != 4 then(0,0)
 else if t.text == [124,124]then(17,1)
 else if t.text == [38,38]then(16,2)
 else if t.text == [61,61]then(14,3)
 else if t.text == [33,61]then(15,3)
 else if t.text == [60]then(10,4)
 else if t.text == [60,61]then(11,4)
 else if t.text == [62]then(12,4)
 else if t.text == [62,61]then(13,4)
 else if t.text == [43]then(8,5)
 else if t.text == [45]then(9,5)
 else if t.text == [42]then(5,6)
 else if t.text == [47]then(6,6)
 else if t.text == [37]then(7,6)
 else(0,0)
structure Rd where
 l:List fX
 i:Nat
 code:Int
 Kw:Int
 n:Nat
abbrev Rd.good (r:Rd):Bool:=r.code==0
def Rd.p6 (r:Rd):Option fX:=(Qi r.l r.i).bind fun t=>if decide (0≤t.kind) && decide (t.kind≤4)then some t else none
theorem Kx {r:Rd} {t:fX} (h:r.p6=some t):r.i<4611686018427387904∧r.l[r.i]? = some t∧0≤t.kind∧t.kind≤4:=by
 unfold Rd.p6 at h
 rw[Option.bind_eq_some_iff]at h
 obtain⟨u,h1,h⟩:=h
 obtain⟨g1,g2⟩:=Bx h1
 by_cases hk:(decide (0≤u.kind) && decide (u.kind≤4))=true
 ·rw [if_pos hk]at h
  cases h
  simp only[Bool.and_eq_true,decide_eq_true_eq]at hk
  exact⟨g1,g2,hk.1,hk.2⟩
 ·rw[if_neg hk]at h;cases h
def Rd.bad (c:Int) (r:Rd):Option Rd:=if r.good then r.p6.bind fun t=>some {r with code:=c,Kw:=t.pos}else some r
def Rd.is (text:aF) (r:Rd):Option Bool:=r.p6.bind fun t=>some ((t.kind==3 ||t.kind==4) && t.text==text)
def Rd.take (text:aF) (r:Rd):Option (Bool×Rd):=
 if !r.good then some (false,r)else(r.is text).bind fun b=>if !b then some (false,r)else some (true,{r with i:=r.i+1})
def Rd.want (text:aF) (r:Rd):Option Rd:=(r.take text).bind fun p=>if !p.1 then p.2.bad 3 else some p.2
def Rd.name (room:Bool) (r:Rd):Option (aF×Rd):=
 r.p6.bind fun t=>if !r.good ||t.kind != 1 then(r.bad 3).bind fun r=>some ([],r)else if !room then(r.bad 4).bind fun r=>some ([],r)else some (t.text,{r with i:=r.i+1})
def Rd.on (r:Rd):Rd:= {r with i:=r.i+1}
mutual
def Rd.one:Nat→Rd→Option (Ex×Rd)
 | 0,_=>none
 | n+1,r=>r.p6.bind fun t=>
  if !r.good then some (qg,r)
  else if t.kind==2 then some (⟨1,t.n,[],[]⟩,{r with i:=r.i+1})
  else if t.kind==1 then some (⟨2,0,t.text,[]⟩,{r with i:=r.i+1})
  else(r.take [40]).bind fun p=>
   if p.1 then(Rd.two n 1 p.2).bind fun x=>(x.2.want [41]).bind fun r=>some (x.1,r)
   else(p.2.take [45]).bind fun p=>
    if p.1 then(Rd.one n p.2).bind fun x=>some (⟨3,0,[],[x.1]⟩,x.2)
    else(p.2.take [33]).bind fun p=>
     if p.1 then(Rd.one n p.2).bind fun x=>some (⟨4,0,[],[x.1]⟩,x.2)
     else(p.2.bad 3).bind fun r=>some (qg,r)
def Rd.two:Nat→Int→Rd→Option (Ex×Rd)
 | 0,_,_=>none
 |n+1,least,r=>(Rd.one n r).bind fun x=>Rd.Ky n least x.1 x.2
def Rd.Ky:Nat→Int→Ex→Rd→Option (Ex×Rd)
 | 0,_,_,_=>none
 | n+1,least,x,r=>
  if r.good then r.p6.bind fun t=>
   if decide ((rE t).2<least) ||(rE t).1==0 then some (x,r)
   else(Rd.two n ((rE t).2+1) {r with i:=r.i+1}).bind fun y=>Rd.Ky n least ⟨(rE t).1,0,[],[x,y.1]⟩ y.2
  else some (x,r)
end
def Rd.whole (n:Nat) (r:Rd):Option (Ex×Rd):=
 r.p6.bind fun t=>(Rd.two n 1 r).bind fun x=>
  if x.2.good then(Kv x.1).bind fun d=>if decide (d > 20)then some (x.1,{x.2 with code:=4,Kw:=t.pos})else some (x.1,x.2)
  else some (x.1,x.2)
def Rd.names:Nat→List aF→Int→Rd→Option (List aF×Rd)
 | 0,_,_,_=>none
 | n+1,l,gG,r=>
  if r.good then(r.name (decide ((l.length:Int)<gG))).bind fun p=>(push 17 l p.1).bind fun l=>(p.2.take [44]).bind fun q=>
   if !q.1 then(q.2.want [59]).bind fun r=>some (l,r)else Rd.names n l gG q.2
  else some (l,r)
def Rd.ahead (sign:aF) (r:Rd):Option Bool:=
 if r.good then r.p6.bind fun t=>if t.kind==1 then(Qi r.l (r.i+1)).bind fun u=>some (u.kind==4 && u.text==sign)else some false
 else some false
def Rd.labels:Nat→List aF→Rd→Option (List aF×Rd)
 | 0,_,_=>none
 |n+1,l,r=>(r.ahead [58]).bind fun b=>if b then r.p6.bind fun t=>(push 17 l t.text).bind fun l=>Rd.labels n l {r with i:=r.i+2}else some (l,r)
def Rd.Kz (r:Rd):Option Bool:=
 r.p6.bind fun t=>some (if t.kind==1 then true else if t.kind != 3 then false
  else t.text == [105,102] ||t.text == [119,104,105,108,101] ||t.text == [98,114,101,97,107] ||t.text == [99,111,110,116,105,110,117,101] ||t.text == [114,101,116,117,114,110] ||t.text == [103,111,116,111] ||t.text == [114,101,97,100] ||t.text == [112,114,105,110,116])
def Rd.Cu (m:Nat):Nat→List Ar→Rd→Option (List Ar×Rd)
 | 0,_,_=>none
 | n+1,l,r=>
  if r.good then(r.take [114,101,102]).bind fun p=>
   if p.1 then(p.2.name true).bind fun x=>(push 81 l ⟨true,x.1,qg⟩).bind fun l=>(x.2.take [44]).bind fun c=>if !c.1 then some (l,c.2)else Rd.Cu m n l c.2
   else(Rd.whole m p.2).bind fun x=>(push 81 l ⟨false,[],x.1⟩).bind fun l=>(x.2.take [44]).bind fun c=>if !c.1 then some (l,c.2)else Rd.Cu m n l c.2
  else some (l,r)
def Rd.other (sign:aF) (r:Rd):Option Bool:=if r.good then(r.is sign).bind fun b=>some !b else some false
def Rd.call (m:Nat) (name proc:aF) (r:Rd):Option (Sm×Rd):=
 (r.want [40]).bind fun r=>(r.other [41]).bind fun b=>
  if b then(Rd.Cu m m [] r).bind fun q=>(q.2.want [41]).bind fun r=>(r.want [59]).bind fun r=>some (⟨0,4,[],name,proc,qg,false,q.1,[],[]⟩,r)
  else(r.want [41]).bind fun r=>(r.want [59]).bind fun r=>some (⟨0,4,[],name,proc,qg,false,[],[],[]⟩,r)
def Rd.named (m:Nat) (r:Rd):Option (Sm×Rd):=
 (r.name true).bind fun x=>(x.2.is [40]).bind fun b=>
  if b then Rd.call m [] x.1 x.2
  else(x.2.want [61]).bind fun r=>(r.ahead [40]).bind fun b=>
   if b then(r.name true).bind fun y=>Rd.call m x.1 y.1 y.2
   else(Rd.whole m r).bind fun y=>(y.2.want [59]).bind fun r=>some (⟨0,1,[],x.1,[],y.1,false,[],[],[]⟩,r)
def Rd.plain (m:Nat) (word:aF) (r:Rd):Option (Sm×Rd):=
 if word == [98,114,101,97,107]then some (⟨0,7,[],[],[],qg,false,[],[],[]⟩,r)
 else if word == [99,111,110,116,105,110,117,101]then some (⟨0,8,[],[],[],qg,false,[],[],[]⟩,r)
 else if word == [114,101,116,117,114,110]then(r.is [59]).bind fun b=>
  if !b then(Rd.whole m r).bind fun x=>some (⟨0,9,[],[],[],x.1,true,[],[],[]⟩,x.2)else some (⟨0,9,[],[],[],qg,false,[],[],[]⟩,r)
 else if word == [103,111,116,111]then(r.name true).bind fun x=>some (⟨0,10,[],x.1,[],qg,false,[],[],[]⟩,x.2)
 else if word == [114,101,97,100]then(r.name true).bind fun x=>some (⟨0,2,[],x.1,[],qg,false,[],[],[]⟩,x.2)
 else if word == [112,114,105,110,116]then(Rd.whole m r).bind fun x=>some (⟨0,3,[],[],[],x.1,false,[],[],[]⟩,x.2)
 else some (Hn,r)
def Rd.head (m:Nat) (r:Rd):Option (Ex×Rd):=(r.want [40]).bind fun r=>(Rd.whole m r).bind fun x=>(x.2.want [41]).bind fun r=>some (x.1,r)
mutual
def Rd.rows (m:Nat):Nat→Int→Bool→Rd→Option ((List Sm×List aF)×Rd)
 | 0,_,_,_=>none
 |n+1,nest,body,r=>Rd.wK m n nest body [] r
def Rd.wK (m:Nat):Nat→Int→Bool→List Sm→Rd→Option ((List Sm×List aF)×Rd)
 | 0,_,_,_,_=>none
 | n+1,nest,body,out,r=>
  if r.good then(Rd.labels m [] r).bind fun l=>(l.2.is [125]).bind fun b=>
   if b && (body ||(l.1.length:Int)==0)then some ((out,l.1),{l.2 with i:=l.2.i+1})
   else(Rd.stmt m n nest l.2).bind fun s=>(push 209 out {s.1 with labels:=l.1}).bind fun out=>Rd.wK m n nest body out s.2
  else some (([],[]),r)
def Rd.stmt (m:Nat):Nat→Int→Rd→Option (Sm×Rd)
 | 0,_,_=>none
 | n+1,nest,r=>r.Kz.bind fun b=>
  if !b then(r.bad 3).bind fun r=>some (Hn,r)
  else(inc r.n).bind fun k=>
   if decide ((k:Int) > 200) ||decide (nest > 12)then(({r with n:=k} : Rd).bad 4).bind fun r=>some (Hn,r)
   else({r with n:=k} : Rd).p6.bind fun t=>
    if t.kind==1 then Rd.named m {r with n:=k}
    else if t.text == [105,102]then Rd.choice m n nest {r with n:=k,i:=r.i+1}
    else if t.text == [119,104,105,108,101]then(Rd.head m {r with n:=k,i:=r.i+1}).bind fun x=>(Rd.block m n nest x.2).bind fun b=>some (⟨0,6,[],[],[],x.1,false,[],b.1,[]⟩,b.2)
    else(Rd.plain m t.text {r with n:=k,i:=r.i+1}).bind fun s=>(s.2.want [59]).bind fun r=>some (s.1,r)
def Rd.block (m:Nat):Nat→Int→Rd→Option (List Sm×Rd)
 | 0,_,_=>none
 |n+1,nest,r=>(r.want [123]).bind fun r=>(Wq nest).bind fun k=>(Rd.rows m n k false r).bind fun p=>some (p.1.1,p.2)
def Rd.choice (m:Nat):Nat→Int→Rd→Option (Sm×Rd)
 | 0,_,_=>none
 |n+1,nest,r=>(Rd.head m r).bind fun x=>(Rd.block m n nest x.2).bind fun t=>(t.2.take [101,108,115,101]).bind fun q=>
  if q.1 then(Rd.block m n nest q.2).bind fun e=>some (⟨0,5,[],[],[],x.1,false,[],t.1,e.1⟩,e.2)
  else some (⟨0,5,[],[],[],x.1,false,[],t.1,[]⟩,q.2)
end
def Rd.params:Nat→List Pm→Rd→Option (List Pm×Rd)
 | 0,_,_=>none
 | n+1,l,r=>
  if r.good then(r.take [114,101,102]).bind fun q=>(q.2.name (decide ((l.length:Int)<8))).bind fun x=>(push 25 l ⟨x.1,q.1⟩).bind fun l=>(x.2.take [44]).bind fun c=>
   if !c.1 then some (l,c.2)else Rd.params n l c.2
  else some (l,r)
def Rd.vars (m:Nat):Nat→List aF→Rd→Option (List aF×Rd)
 | 0,_,_=>none
 |n+1,l,r=>(r.take [118,97,114]).bind fun q=>if q.1 then(Rd.names m l 16 q.2).bind fun x=>Rd.vars m n x.1 x.2 else some (l,q.2)
def Rd.IJ (m:Nat) (name:aF) (ps:List Pm) (r:Rd):Option (Pc×Rd):=
 (Rd.vars m m [] r).bind fun v=>(Rd.rows m m 1 true v.2).bind fun b=>some (⟨name,ps,v.1,b.1.1,b.1.2⟩,b.2)
def Rd.proc (m:Nat) (r:Rd):Option (Pc×Rd):=
 (r.name true).bind fun x=>(x.2.want [40]).bind fun r=>(r.other [41]).bind fun b=>
  if b then(Rd.params m [] r).bind fun q=>(q.2.want [41]).bind fun r=>(r.want [123]).bind fun r=>Rd.IJ m x.1 q.1 r
  else(r.want [41]).bind fun r=>(r.want [123]).bind fun r=>Rd.IJ m x.1 [] r
def Rd.globals (m:Nat):Nat→List aF→Rd→Option (List aF×Rd)
 | 0,_,_=>none
 |n+1,l,r=>(r.take [103,108,111,98,97,108]).bind fun q=>if q.1 then(Rd.names m l 16 q.2).bind fun x=>Rd.globals m n x.1 x.2 else some (l,q.2)
def Rd.Tl (r:Rd):Option Bool:=if r.good then r.is [112,114,111,99]else some false
def Rd.KA (r:Rd):Option Bool:=if r.good then r.p6.bind fun t=>some (t.kind != 0)else some false
def Rd.procs (m:Nat):Nat→List Pc→Rd→Option (List Pc×Rd)
 | 0,_,_=>none
 | n+1,l,r=>r.Tl.bind fun b=>
  if b then
   if(l.length:Int)==16 then(r.bad 4).bind fun r=>some (l,r)
   else(Rd.proc m {r with i:=r.i+1}).bind fun x=>(push 113 l x.1).bind fun l=>Rd.procs m n l x.2
  else r.KA.bind fun b=>if b then(r.bad 3).bind fun r=>some (l,r)else some (l,r)
def Rd.program (m:Nat) (r:Rd):Option (Pg×Rd):=(Rd.globals m m [] r).bind fun g=>(Rd.procs m m [] g.2).bind fun q=>some (⟨g.1,q.1⟩,q.2)
mutual
def Ex.beq:Ex→Ex→Bool
 |⟨op,n,name,kids⟩,⟨op',n',Qk,YG⟩=>if op != op' ||n != n' || !(name==Qk) ||(kids.length:Int) != (YG.length:Int)then false else Ex.p7 kids YG
def Ex.p7:List Ex→List Ex→Bool
 | [],_=>true
 |_::_,[]=>true
 |x::l,y::l'=>if !Ex.beq x y then false else Ex.p7 l l'
end
def Ar.br:List Ar→Nat
 | []=>0
 |a::l=>1+a.x.size+Ar.br l
mutual
def Sm.size:Sm→Nat
 |⟨_,_,labels,_,_,x,_,args,bm,bc⟩=>1+labels.length+x.size+Ar.br args+Sm.br bm+Sm.br bc
def Sm.br:List Sm→Nat
 | []=>0
 |s::l=>1+s.size+Sm.br l
end
def Pc.size (f:Pc):Nat:=1+f.params.length+f.vars.length+f.fin.length+Sm.br f.body
def Pc.br:List Pc→Nat
 | []=>0
 |f::l=>1+f.size+Pc.br l
def Pg.size (p:Pg):Nat:=1+p.globals.length+Pc.br p.procs
mutual
def Sm.num (b:Bool) (n:Nat):Sm→Sm×Nat
 |⟨id,kind,labels,name,proc,x,has,args,bm,bc⟩=>
  (⟨if b then((n+1:Nat):Int)else id,kind,labels,name,proc,x,has,args,(Sm.ik b (n+1) bm).1,(Sm.ik b (Sm.ik b (n+1) bm).2 bc).1⟩,(Sm.ik b (Sm.ik b (n+1) bm).2 bc).2)
def Sm.ik (b:Bool) (n:Nat):List Sm→List Sm×Nat
 | []=>([],n)
 |s::l=>((Sm.num b n s).1::(Sm.ik b (Sm.num b n s).2 l).1,(Sm.ik b (Sm.num b n s).2 l).2)
end
def Pc.ik (n:Nat):List Pc→List Pc
 | []=> []
 |f::l=> {f with body:=(Sm.ik true n f.body).1}::Pc.ik (Sm.ik true n f.body).2 l
def Pg.number (p:Pg):Pg:= {p with procs:=Pc.ik 0 p.procs}
def Pg.Ge (p:Pg):Option Pg:=if p.size<1073741824 then some p.number else none
mutual
theorem Sm.adx (b:Bool) (n:Nat) : ∀ s:Sm,(Sm.num b n s).2≤n+s.size
 |⟨id,kind,labels,name,proc,x,has,args,bm,bc⟩=>by
  simp only[Sm.num,Sm.size]
  have h1:=Sm.vf b (n+1) bm
  have h2:=Sm.vf b (Sm.ik b (n+1) bm).2 bc
  omega
theorem Sm.vf (b:Bool) (n:Nat) : ∀ l:List Sm,(Sm.ik b n l).2≤n+Sm.br l
 | []=>by simp[Sm.ik,Sm.br]
 |s::l=>by
  simp only[Sm.ik,Sm.br]
  have h1:=Sm.adx b n s
  have h2:=Sm.vf b (Sm.num b n s).2 l
  omega
end
theorem Sm.ei : ∀ (l:List Sm),l.length≤Sm.br l
 | []=>Nat.le_refl _
 |x::l=>by simp only[Sm.br,List.length_cons];have:=Sm.ei l;omega
theorem Ar.ei : ∀ (l:List Ar),l.length≤Ar.br l
 | []=>Nat.le_refl _
 |x::l=>by simp only[Ar.br,List.length_cons];have:=Ar.ei l;omega
theorem Pc.ei : ∀ (l:List Pc),l.length≤Pc.br l
 | []=>Nat.le_refl _
 |x::l=>by simp only[Pc.br,List.length_cons];have:=Pc.ei l;omega
theorem Ar.dd {x:Ar} : ∀ {l:List Ar},x∈l→x.x.size<Ar.br l
 |y::l,h=>by
  simp only[Ar.br]
  rcases List.mem_cons.1 h with rfl|h
  ·omega
  ·have:=Ar.dd h;omega
theorem Sm.dd {x:Sm} : ∀ {l:List Sm},x∈l→x.size<Sm.br l
 |y::l,h=>by
  simp only[Sm.br]
  rcases List.mem_cons.1 h with rfl|h
  ·omega
  ·have:=Sm.dd h;omega
theorem Pc.dd {x:Pc} : ∀ {l:List Pc},x∈l→x.size<Pc.br l
 |y::l,h=>by
  simp only[Pc.br]
  rcases List.mem_cons.1 h with rfl|h
  ·omega
  ·have:=Pc.dd h;omega
mutual
def Sm.jA:Sm→Nat
 |⟨_,_,_,_,_,_,_,_,bm,bc⟩=>1+Sm.ja bm+Sm.ja bc
def Sm.ja:List Sm→Nat
 | []=>0
 |s::l=>s.jA+Sm.ja l
end
structure Im where
 s:Sm
 proc:Int
 up:Int
 next:Int
 loop:Int
mutual
def Im.one (proc up next loop:Int) (out:List Im):Sm→List Im
 | ⟨id,kind,labels,name,pc,x,has,args,bm,bc⟩=>
  Im.rows proc ((out.length:Int)+1) (if kind==6 then(out.length:Int)+1 else next) (if kind==6 then(out.length:Int)+1 else loop)
   (Im.rows proc ((out.length:Int)+1) (if kind==6 then(out.length:Int)+1 else next) (if kind==6 then(out.length:Int)+1 else loop) (out++ [⟨⟨id,kind,labels,name,pc,x,has,args,bm,bc⟩,proc,up,next,loop⟩]) bm) bc
def Im.rows (proc up next loop:Int) (out:List Im):List Sm→List Im
 | []=>out
 |s::l=>Im.rows proc up next loop (Im.one proc up (if l.length=0 then next else(out.length:Int)+1+(s.jA:Int)) loop out s) l
end
theorem Im.ady (proc up next loop:Int) (out:List Im) (s:Sm):Im.one proc up next loop out s =
 Im.rows proc ((out.length:Int)+1) (if s.kind==6 then(out.length:Int)+1 else next) (if s.kind==6 then(out.length:Int)+1 else loop)
  (Im.rows proc ((out.length:Int)+1) (if s.kind==6 then(out.length:Int)+1 else next) (if s.kind==6 then(out.length:Int)+1 else loop) (out++ [⟨s,proc,up,next,loop⟩]) s.bm) s.bc:=by
 cases s;simp only[Im.one]
mutual
theorem aaz (proc up next loop:Int) (out:List Im) : ∀ s:Sm,(Im.one proc up next loop out s).length=out.length+s.jA
 |⟨id,kind,labels,name,pc,x,has,args,bm,bc⟩=>by
  simp only[Im.one,Sm.jA]
  rw[gH,gH]
  simp only[List.length_append,List.length_cons,List.length_nil];omega
theorem gH (proc up next loop:Int) (out:List Im) : ∀ l:List Sm,(Im.rows proc up next loop out l).length=out.length+Sm.ja l
 | []=>rfl
 |s::l=>by
  simp only[Im.rows,Sm.ja]
  rw[gH,aaz];omega
end
mutual
theorem DS : ∀ s:Sm,s.jA≤s.size
 |⟨_,_,labels,_,_,x,_,args,bm,bc⟩=>by
  have:=nG bm;have:=nG bc
  simp only[Sm.jA,Sm.size];omega
theorem nG : ∀ l:List Sm,Sm.ja l≤Sm.br l
 | []=>Nat.le_refl _
 |s::l=>by
  have:=DS s;have:=nG l
  simp only[Sm.ja,Sm.br];omega
end
structure Sh where
 L:List Im
 lo:List Int
 hi:List Int
def Sh.go (i:Nat) (h:Sh):List Pc→Sh
 | []=>h
 |f::l=>Sh.go (i+1) ⟨Im.rows i 0 (-1) 0 h.L f.body,h.lo++ [(h.L.length:Int)+1],h.hi++ [((Im.rows i 0 (-1) 0 h.L f.body).length:Int)+1]⟩ l
def Pg.bh (p:Pg):Sh:=Sh.go 0 ⟨[],[],[]⟩ p.procs
def aaA:Nat:=3
def YH:Nat:=4
def YI:Nat:=5
def tH:Nat:=6
def YJ:Nat:=7
def xu:Nat:=8
def agt:Nat:=9
def ab7:Nat:=10
def agu:Nat:=11
def ab8:Nat:=12
def agv:Nat:=13
def ahr:Nat:=14
def ajt:Nat:=15
def lx:Nat:=16
def qy:Nat:=17
def xv:Nat:=18
def agw:Nat:=19
def adz:Nat:=20
def vz:Nat:=21
def wL:Nat:=22
def qL:Nat:=23
def rG:Nat:=24
def zv:Nat:=25
def xw:Nat:=26
def xx:Nat:=27
def US:Nat:=28
def Wr:Nat:=29
def UT:Nat:=30
def ahs:Nat:=31
def adA:Nat:=32
def Nd:Nat:=33
def Ql:Nat:=34
def aht:Nat:=35
def aaB:Nat:=36
def Gf:Nat:=37
def uf:Nat:=38
def rH:Nat:=39
def sZ:Nat:=40
def ab9:Nat:=41
def rI:Nat:=42
def qz:Nat:=43
def fe:Nat:=44
def s5:Nat:=45
def na:Nat:=46
def lf:Nat:=47
def kY:Nat:=48
def jl:Nat:=49
def iE:Nat:=50
def pd:Nat:=51
def ow:Nat:=52
def qM:Nat:=53
def ox:Nat:=54
def ug:Nat:=55
def rJ:Nat:=56
def lg:Nat:=57
def uV:Nat:=58
def Ws:Nat:=59
def adB:Nat:=60
def ahu:Nat:=61
def ahv:Nat:=62
def adC:Nat:=63
def agx:Nat:=64
def aca:Nat:=65
def RH:Nat:=66
def Nf:Nat:=67
def adD:Nat:=68
def acb:Nat:=69
def Qm:Nat:=70
def Qn:Nat:=71
def Ng:Nat:=72
def Tn:Nat:=73
def KB:Nat:=74
def lS:Nat:=75
def qA:Nat:=76
def vA:Nat:=77
def uh:Nat:=78
def YK:Nat:=79
def nc:Nat:=80
def nS:Nat:=81
def kD:Nat:=82
def lE:Nat:=83
def kQ:Nat:=84
def qh:Nat:=85
def fY:Nat:=86
def zw:Nat:=87
def rK:Nat:=88
def zz:Nat:=89
def kl:Nat:=90
def pe:Nat:=91
def gk:Nat:=92
def lI:Nat:=93
def iL:Nat:=94
def kb:Nat:=95
def eE:Nat:=96
def oM:Nat:=97
def qi:Nat:=98
def kU:Nat:=99
def By:Nat:=100
def mw:Nat:=101
def aaC:Nat:=102
def adE:Nat:=103
def adF:Nat:=104
def adG:Nat:=105
def YL:Nat:=106
def ME:Nat:=107
def RI:Nat:=108
def aaD:Nat:=109
def vB:Nat:=110
def adH:Nat:=111
def ahw:Nat:=112
def ahx:Nat:=113
def Qo:Nat:=114
def acd:Nat:=115
def oa:Nat:=116
def fZ:Nat:=117
def oN:Nat:=118
def cB:Nat:=119
def gQ:Nat:=120
def qB:Nat:=121
def vC:Nat:=122
def rL:Nat:=123
def qj:Nat:=124
def vD:Nat:=125
def rM:Nat:=126
def sA:Nat:=127
def pf:Nat:=128
def wM:Nat:=129
def uW:Nat:=130
def ui:Nat:=131
def my:Nat:=132
def xy:Nat:=133
def jB:Nat:=134
def uj:Nat:=135
def sB:Nat:=136
def mz:Nat:=137
def ng:Nat:=138
def qk:Nat:=139
def zA:Nat:=140
def vE:Nat:=141
def dO:Nat:=142
def jC:Nat:=143
def c6:Nat:=144
def fA:Nat:=145
def e9:Nat:=146
def oy:Nat:=147
def dP:Nat:=148
def YM:Nat:=149
def ahy:Nat:=150
def adI:Nat:=151
def adJ:Nat:=152
def adK:Nat:=153
def ace:Nat:=154
def agy:Nat:=155
def agz:Nat:=156
def aju:Nat:=157
def YN:Nat:=158
def acf:Nat:=159
def acg:Nat:=160
def adL:Nat:=161
def agA:Nat:=162
def ach:Nat:=163
def adM:Nat:=164
def ahz:Nat:=165
def ahA:Nat:=166
def YO:Nat:=167
def aaE:Nat:=168
def adN:Nat:=169
def kZ:Nat:=170
def rN:Nat:=171
def vF:Nat:=172
def vG:Nat:=173
def uk:Nat:=174
def xA:Nat:=175
def jD:Nat:=176
def j7:Nat:=177
def pg:Nat:=178
def rO:Nat:=179
def um:Nat:=180
def ph:Nat:=181
def eR:Nat:=182
def dv:Nat:=183
def gI:Nat:=184
def vH:Nat:=185
def lh:Nat:=186
def EP:Nat:=187
def adO:Nat:=188
def aaF:Nat:=189
def ahB:Nat:=190
def agB:Nat:=191
def ahC:Nat:=192
def agC:Nat:=193
def agD:Nat:=194
def rP:Nat:=195
def gR:Nat:=196
def oO:Nat:=197
def uq:Nat:=198
def ER:Nat:=199
def YP:Nat:=200
def xB:Nat:=201
def nh:Nat:=202
def oz:Nat:=203
def rQ:Nat:=204
def vI:Nat:=205
def xC:Nat:=206
def pE:Nat:=207
def s6:Nat:=208
def zB:Nat:=209
def MF:Nat:=210
def aci:Nat:=211
def acj:Nat:=212
def iR:Nat:=213
def Bz:Nat:=214
def Ep:Nat:=215
def BA:Nat:=216
def C0:Nat:=217
def Cv:Nat:=218
def xV:Nat:=219
def UU:Nat:=220
def AW:Nat:=221
def DT:Nat:=222
def UW:Nat:=223
def UX:Nat:=224
def ni:Nat:=225
def nT:Nat:=226
def nj:Nat:=227
def lJ:Nat:=228
def jE:Nat:=229
def nU:Nat:=230
def vJ:Nat:=231
def ql:Nat:=232
def qm:Nat:=233
def ack:Nat:=234
def adP:Nat:=235
def Er:Nat:=236
def L7:Nat:=237
def MG:Nat:=238
def AX:Nat:=239
def FT:Nat:=240
def To:Nat:=241
def lK:Nat:=242
def gv:Nat:=243
def FU:Nat:=244
def jm:Nat:=245
def lT:Nat:=246
def kE:Nat:=247
def uX:Nat:=248
def Hq:Nat:=249
def C1:Nat:=250
def Hr:Nat:=251
def C2:Nat:=252
def Ia:Nat:=253
def Dr:Nat:=254
def C3:Nat:=255
def y8:Nat:=256
def C4:Nat:=257
def y9:Nat:=258
def FV:Nat:=259
def BB:Nat:=260
def IK:Nat:=261
def vg:Nat:=262
def sC:Nat:=263
def UY:Nat:=264
def Ib:Nat:=265
abbrev AI.o (t:Nat) (a:AO):AI:= .op (some t) none a
abbrev AI.g (t c:Nat) (b:Bool) (a:AO):AI:= .op (some t) (some (c,b)) a
abbrev AI.c (t f:Nat) (l:List X):AI:= .call (some t) none f l
abbrev AI.d (t c:Nat) (b:Bool) (f:Nat) (l:List X):AI:= .call (some t) (some (c,b)) f l
abbrev AI.m (t:Nat) (x:X):AI:= .op (some t) none (.mv x)
abbrev aJ:X:= .s 0
abbrev a7:X:= .s 1
abbrev cZ:X:= .s 2
abbrev bO:X:= .s 3
abbrev dw:X:= .s 4
abbrev bk:X:= .s 5
abbrev bX:X:= .s 6
abbrev bT:X:= .s 7
abbrev bS:X:= .s 8
abbrev cu:X:= .s 9
abbrev bD:X:= .s 10
abbrev bU:X:= .s 11
abbrev bZ:X:= .s 12
abbrev bV:X:= .s 13
abbrev bK:X:= .s 14
abbrev cv:X:= .s 15
abbrev cq:X:= .s 16
abbrev cU:X:= .s 17
abbrev cT:X:= .s 18
abbrev dh:X:= .s 19
abbrev dt:X:= .s 20
abbrev dB:X:= .s 21
abbrev dI:X:= .s 22
abbrev dJ:X:= .s 23
abbrev df:X:= .s 24
abbrev di:X:= .s 25
abbrev dX:X:= .s 26
abbrev dY:X:= .s 27
abbrev eP:X:= .s 28
abbrev eK:X:= .s 29
abbrev eU:X:= .s 30
abbrev eV:X:= .s 31
abbrev fa:X:= .s 32
abbrev eZ:X:= .s 33
abbrev fj:X:= .s 34
abbrev fb:X:= .s 35
abbrev fk:X:= .s 36
abbrev fF:X:= .s 37
abbrev fQ:X:= .s 38
abbrev fR:X:= .s 39
abbrev gh:X:= .s 40
abbrev ga:X:= .s 41
abbrev gU:X:= .s 42
abbrev gV:X:= .s 43
abbrev iF:X:= .s 44
abbrev jb:X:= .s 45
abbrev jc:X:= .s 46
abbrev jF:X:= .s 47
abbrev iA:X:= .s 48
abbrev iO:X:= .s 49
abbrev jG:X:= .s 50
abbrev jd:X:= .s 51
abbrev je:X:= .s 52
abbrev jf:X:= .s 53
abbrev jH:X:= .s 54
abbrev jI:X:= .s 55
abbrev k5:X:= .s 56
abbrev lO:X:= .s 57
abbrev lF:X:= .s 58
abbrev kF:X:= .s 59
abbrev nn:X:= .s 60
abbrev oA:X:= .s 61
abbrev oB:X:= .s 62
abbrev oD:X:= .s 63
abbrev p8:X:= .s 64
abbrev rR:X:= .s 65
abbrev sD:X:= .s 66
abbrev sE:X:= .s 67
abbrev rS:X:= .s 68
abbrev ur:X:= .s 69
abbrev sF:X:= .s 70
abbrev xD:X:= .s 71
abbrev vK:X:= .s 72
abbrev vL:X:= .s 73
abbrev xE:X:= .s 74
abbrev xF:X:= .s 75
abbrev vM:X:= .s 76
abbrev xG:X:= .s 77
abbrev vN:X:= .s 78
abbrev BD:X:= .s 79
abbrev BE:X:= .s 80
abbrev BF:X:= .s 81
abbrev DU:X:= .s 82
abbrev DV:X:= .s 83
abbrev DW:X:= .s 84
abbrev DX:X:= .s 85
abbrev DY:X:= .s 86
abbrev DZ:X:= .s 87
abbrev D0:X:= .s 88
abbrev zC:X:= .s 89
abbrev BG:X:= .s 90
abbrev D1:X:= .s 91
abbrev Gg:X:= .s 92
abbrev KD:X:= .s 93
abbrev KE:X:= .s 94
abbrev KF:X:= .s 95
abbrev Qp:X:= .s 96
abbrev Qq:X:= .s 97
abbrev Qr:X:= .s 98
abbrev Qs:X:= .s 99
abbrev IL:X:= .s 100
abbrev IM:X:= .s 101
abbrev IN:X:= .s 102
abbrev IP:X:= .s 103
abbrev IQ:X:= .s 104
abbrev IS:X:= .s 105
abbrev IT:X:= .s 106
abbrev IU:X:= .s 107
abbrev IV:X:= .s 108
abbrev Qt:X:= .s 109
abbrev IW:X:= .s 110
abbrev IX:X:= .s 111
abbrev ES:X:= .s 112
abbrev IY:X:= .s 113
abbrev IZ:X:= .s 114
abbrev I0:X:= .s 115
abbrev I1:X:= .s 116
abbrev I2:X:= .s 117
abbrev I3:X:= .s 118
abbrev I4:X:= .s 119
abbrev I5:X:= .s 120
abbrev I6:X:= .s 121
abbrev I7:X:= .s 122
abbrev I8:X:= .s 123
abbrev I9:X:= .s 124
abbrev Ja:X:= .s 125
abbrev Qu:X:= .s 126
abbrev Jb:X:= .s 127
abbrev zD:X:= .s 128
abbrev Jc:X:= .s 129
abbrev Jd:X:= .s 130
abbrev Qv:X:= .s 131
abbrev Je:X:= .s 132
abbrev Qw:X:= .s 133
abbrev Qx:X:= .s 134
abbrev Qy:X:= .s 135
abbrev Qz:X:= .s 136
abbrev QA:X:= .s 137
abbrev QB:X:= .s 138
abbrev QC:X:= .s 139
abbrev QD:X:= .s 140
abbrev QE:X:= .s 141
abbrev QF:X:= .s 142
abbrev Jf:X:= .s 143
abbrev QG:X:= .s 144
abbrev ET:X:= .s 145
abbrev QH:X:= .s 146
abbrev QI:X:= .s 147
abbrev QJ:X:= .s 148
abbrev QK:X:= .s 149
abbrev QL:X:= .s 150
abbrev QM:X:= .s 151
abbrev YQ:X:= .s 152
abbrev YR:X:= .s 153
abbrev YS:X:= .s 154
abbrev YT:X:= .s 155
abbrev YU:X:= .s 156
abbrev YV:X:= .s 157
abbrev YW:X:= .s 158
abbrev YX:X:= .s 159
abbrev YY:X:= .s 160
abbrev YZ:X:= .s 161
abbrev Y0:X:= .s 162
abbrev Y1:X:= .s 163
abbrev Y2:X:= .s 164
abbrev Y3:X:= .s 165
abbrev Y4:X:= .s 166
abbrev Y5:X:= .s 167
abbrev Y6:X:= .s 168
abbrev Y7:X:= .s 169
abbrev Y8:X:= .s 170
abbrev Y9:X:= .s 171
abbrev Za:X:= .s 172
abbrev Zb:X:= .s 173
abbrev Zc:X:= .s 174
abbrev Zd:X:= .s 175
abbrev ahD:X:= .s 176
abbrev ahE:X:= .s 177
abbrev Q04:AC:= .cond bD (.seq (.run [.o 2 (.mv (.k (.bool false)))]) .ret) .skip
abbrev Q06:AC:= .run [(.c 12 rG [(.k (.str [103,108,111,98,97,108,32,115,59,32,112,114,111,99,32,109,97,105,110,40,41,32,123,32,118,97,114,32,105,44,32,110,59,32,114,101,97,100,32,110,59,32,97,103,97,105,110,58,32,105,32,61,32,105,32,43,32,49,59,32,105,102,32,40,105,32,62,32,110,41,32,123,32,103,111,116,111,32,111,117,116,59,32,125,32,115,32,61,32,105,32,42,32,105,59,32,105,102,32,40,115,32,37,32,50,32,61,61,32,48,41,32,123,32,103,111,116,111,32,97,103,97,105,110,59,32,125,32,116,101,108,108,40,41,59,32,103,111,116,111,32,97,103,97,105,110,59,32,111,117,116,58,32,125,32,112,114,111,99,32,116,101,108,108,40,41,32,123,32,112,114,105,110,116,32,115,59,32,125]))]), .m 11 bZ, .o 13 (.ext bU 0), .o 14 (.ext bU 1), .o 3 (.alloc [(.slice .full 0 []),(.slice .full 0 [])]), .o 4 (.alloc [(.int .i64 0),(.int .i64 0)]), .op none none (.store bO bV 2), .op none none (.store dw bK 2)]
abbrev Q0J:AC:= .cond fk (.seq (.run [.o 37 (.aj bT 1), .o 38 (.load fF false 1), .o 39 (.bin .add fQ (.k (.int .i64 2))), .o 40 (.aj bT 1), .op none none (.store gh fR 1)]) (.run [.o 41 (.aj bT 3), .o 42 (.load ga false 1), .m 43 bS, .m 44 bS, .o 45 (.bin .mul gV iF), .o 46 (.cD [(.int .i64 0)] 1 1 [(0,jb)]), .o 47 (.app 1 8 gU jc), .o 48 (.aj bT 3), .op none none (.store iA jF 1)])) .skip
abbrev Q0L:AC:= .seq (.run [.o 30 (.aj bT 1), .o 31 (.load eU false 1), .o 32 (.bin .add eV (.k (.int .i64 5))), .o 33 (.aj bT 1), .op none none (.store eZ fa 1)]) (.seq (.run [.m 34 bS, .o 35 (.bin .rem fj (.k (.int .i64 2))), .o 36 (.bin .eql fb (.k (.int .i64 1)))]) Q0J)
abbrev Q0P:AC:= .seq (.seq (.run [.m 25 bS, .m 26 aJ, .o 27 (.bin .leq di dX)]) (.cond dY .skip (.exit 0))) (.seq (.block 1 Q0L) (.run [.m 28 bS, .o 29 (.bin .add eP (.k (.int .i64 1))), .m 8 eK]))
abbrev Q0V:AC:= .seq (.seq (.run [.o 8 (.mv (.k (.int .i64 1)))]) (.block 0 (.loop Q0P))) (.seq (.run [.o 49 (.aj dw 0), .o 50 (.load iO false 1), .o 51 (.bin .eql jG (.k (.int .i64 0))), .m 52 jd, .g 53 52 true (.mv bX), .g 54 52 true (.bin .eql jf (.k (.int .i64 0))), .o 55 (.pick je jH (.k (.bool false))), .m 56 jI, .g 57 56 true (.load bk true 5), .g 58 56 true (.load bT true 5), .d 59 56 true qy [lO,lF], .o 60 (.pick k5 kF (.k (.bool false))), .m 2 nn]) .ret)
abbrev Q0W:AC:= .seq (.run [(.o 24 (.build [(.int .i64 0),(.int .i64 0),(.int .i64 0),(.slice .full 0 []),(.slice .full 0 [])] [(0,(1,(.k (.int .i64 1)))),(1,(1,(.k (.int .i64 4)))),(2,(1,(.k (.int .i64 1))))])), .o 7 (.alloc [(.int .i64 0),(.int .i64 0),(.int .i64 0),(.slice .full 0 []),(.slice .full 0 [])]), .op none none (.store bT df 5)]) Q0V
abbrev Q0Y:AC:= .seq (.run [.m 15 aJ, .c 16 zv [cv,(.k (.int .i64 40))], .m 0 cq]) (.seq (.run [.o 18 (.load bO true 2), .m 19 aJ, .o 20 (.cD [(.int .i64 0)] 1 1 [(0,dh)]),(.c 21 qL [cT,dt,(.k (.int .i64 1000)),(.k (.slice .full 0 []))]), .m 17 dB, .o 22 (.ext cU 0), .o 23 (.ext cU 1), .o 5 (.alloc [(.int .i64 0),(.int .i64 0),(.int .i64 0),(.slice .full 0 []),(.slice .full 0 [])]), .op none none (.store bk dI 5), .m 6 dJ]) Q0W)
abbrev Q11:AC:= .seq (.run [.o 2 (.mv (.k (.bool false)))]) (.seq (.seq (.run [.c 9 xu [], .o 10 (.un .not cu)]) Q04) (.seq Q06 Q0Y))
abbrev Q14:AC:= .run [.m 9 cZ, .o 10 (.bin .eql cu (.k (.int .i64 0))), .m 11 bD, .g 12 11 true (.aj a7 0), .g 13 11 true (.load bZ false 1), .g 14 11 true (.bin .eql bV (.k (.int .i64 1))), .o 15 (.pick bU bK (.k (.bool false))), .m 16 cv, .g 17 16 true (.aj a7 1), .g 18 16 true (.load cU false 1), .g 19 16 true (.bin .eql cT (.k (.int .i64 7))), .o 20 (.pick cq dh (.k (.bool false))), .m 21 dt, .g 22 21 true (.aj a7 3), .g 23 21 true (.load dI false 1),(.g 24 21 true (.cD [(.int .i64 0)] 1 2 [(0,(.k (.int .i64 5))),(1,(.k (.int .i64 5)))])), .d 25 21 true lx [dJ,df], .o 26 (.pick dB di (.k (.bool false))), .m 27 dX, .g 28 27 true (.aj a7 4), .g 29 27 true (.load eP false 1), .g 30 27 true (.len eK), .g 31 27 true (.bin .eql eU (.k (.int .i64 2))), .o 32 (.pick dY eV (.k (.bool false))), .m 33 fa, .g 34 33 true (.aj a7 4), .g 35 33 true (.load fj false 1), .g 36 33 true (.cr fb (.k (.int .i64 0)) 2), .g 37 33 true (.aj fk 0), .g 38 33 true (.load fF false 1), .g 39 33 true (.bin .eql fQ (.k (.int .i64 2))), .o 40 (.pick eZ fR (.k (.bool false))), .m 41 gh, .g 42 41 true (.aj a7 4), .g 43 41 true (.load gU false 1), .g 44 41 true (.cr gV (.k (.int .i64 1)) 2), .g 45 41 true (.aj iF 1), .g 46 41 true (.load jb false 1),(.g 47 41 true (.cD [(.int .i64 0)] 1 1 [(0,(.k (.int .i64 5)))])), .d 48 41 true lx [jc,jF], .o 49 (.pick ga iA (.k (.bool false))), .m 50 iO, .g 51 50 true (.load a7 true 5), .d 52 50 true xx [jd], .g 53 50 true (.rf .real je je),(.g 54 50 true (.rf .eq jf (.k (.val (.float .f64 4619567317775286272))))), .o 55 (.pick jG jH (.k (.bool false))), .m 0 jI]
abbrev Q16:AC:= .seq (.run [.c 4 xw [],(.o 5 (.cD [(.int .i64 0)] 1 2 [(0,(.k (.int .i64 5))),(1,(.k (.int .i64 2)))])),(.c 6 qL [dw,(.k (.slice .full 0 [])),(.k (.int .i64 50)),bk]), .m 3 bX, .o 7 (.ext bO 0), .o 8 (.ext bO 1), .o 1 (.alloc [(.int .i64 0),(.int .i64 0),(.int .i64 0),(.slice .full 0 []),(.slice .full 0 [])]), .op none none (.store a7 bT 5), .m 2 bS]) (.seq Q14 .ret)
abbrev Q17:AC:= .seq (.run [.o 0 (.mv (.k (.bool false)))]) Q16
abbrev Q1C:AC:= .cond bD (.seq (.run [.o 4 (.mv (.k (.bool false)))]) .ret) .skip
abbrev Q1I:AC:= .par [.m 16 aJ, .m 17 bk, .o 18 (.cr cq cU 1), .o 19 (.load cT false 1), .m 20 a7, .m 21 bk, .o 22 (.cr dt dB 1), .o 23 (.load dI false 1), .o 24 (.bin .neq dh dJ)] [(0,0),(1,0),(2,0),(3,0),(4,0),(5,0),(6,0),(7,0),(8,0)]
abbrev Q1L:AC:= .cond df (.seq (.run [.o 4 (.mv (.k (.bool false)))]) .ret) .skip
abbrev Q1R:AC:= .seq (.cond bK .skip (.exit 0)) (.seq (.block 1 (.seq (.run [.m 15 bV, .m 5 cv]) (.seq Q1I Q1L))) (.run [.o 25 (.bin .add bV (.k (.int .i64 1))), .m 13 di]))
abbrev Q1V:AC:= .seq (.run [.m 11 aJ, .o 12 (.len bU), .o 13 (.mv (.k (.int .i64 0)))]) (.block 0 (.loop (.seq (.run [.o 14 (.bin .lss bV bZ)]) Q1R)))
abbrev Q1Y:AC:= .seq Q1V (.seq (.run [.o 4 (.mv (.k (.bool true)))]) .ret)
abbrev Q20:AC:= .seq (.run [.o 4 (.mv (.k (.bool false)))]) (.seq (.seq (.run [.m 6 aJ, .o 7 (.len bX), .m 8 a7, .o 9 (.len bS), .o 10 (.bin .neq bT cu)]) Q1C) Q1Y)
abbrev Q24:AC:= .seq (.run [.o 2 (.box aJ), .o 3 (.box a7), .o 4 (.mv (.k (.bool false)))]) (.seq (.run [.o 5 (.load cZ true 5), .o 6 (.load bO true 5), .c 7 uf [bk,bX], .m 8 bT, .g 9 8 true (.aj cZ 4), .g 10 8 true (.load cu false 1), .g 11 8 true (.aj bO 4), .g 12 8 true (.load bU false 1), .d 13 8 true rH [bD,bZ], .o 14 (.pick bS bV (.k (.bool false))), .m 4 bK]) .ret)
abbrev Q28:AC:= .seq (.run [.o 1 (.box aJ), .o 2 (.mv (.k (.bool false)))]) (.seq (.run [.o 3 (.load a7 true 2), .c 4 sZ [bO], .o 5 (.uC dw 0 false 1), .o 6 (.bin .eql bk (.k (.int .i64 0))), .m 2 bX]) .ret)
abbrev Q2D:AC:= .cond cu (.seq (.run [.o 4 (.mv (.k (.slice .full 0 [])))]) .ret) .skip
abbrev Q2K:AC:= .par [.o 21 (.aj cZ 0), .o 22 (.load dB false 1), .c 23 fe [dI], .o 24 (.load bX true 5), .c 25 s5 [df], .o 26 (.app 1 16 dJ di), .m 4 dX] [(0,0),(1,0),(2,0),(3,1),(4,0),(5,0),(6,0)]
abbrev Q2R:AC:= .seq (.block 1 (.seq (.run [.o 15 (.cr bU bV 5), .o 16 (.load cv true 5), .o 6 (.alloc [(.str []),(.slice .full 0 []),(.slice .full 0 []),(.slice .full 0 []),(.slice .full 0 [])]), .op none none (.store bX cq 5)]) (.seq (.run [.o 17 (.aj bX 0), .o 18 (.load cU false 1), .m 19 a7, .o 20 (.bin .eql cT dh)]) (.cond dt (.seq Q2K .ret) .skip)))) (.run [.o 27 (.bin .add bV (.k (.int .i64 1))), .m 13 dY])
abbrev Q2V:AC:= .block 0 (.loop (.seq (.run [.o 14 (.bin .lss bV bZ)]) (.seq (.cond bK .skip (.exit 0)) Q2R)))
abbrev Q2Z:AC:= .seq (.seq (.run [.o 10 (.aj cZ 1), .o 11 (.load bD false 1), .o 12 (.len bU), .o 13 (.mv (.k (.int .i64 0)))]) Q2V) (.seq (.run [.o 4 (.mv (.k (.slice .full 0 [])))]) .ret)
abbrev Q31:AC:= .seq (.run [.o 2 (.box aJ), .o 4 (.mv (.k (.slice .full 0 [])))]) (.seq (.seq (.run [.o 7 (.load cZ true 2), .c 8 rI [bT], .o 9 (.un .not bS)]) Q2D) Q2Z)
abbrev Q36:AC:= .cond bD (.seq (.run [.o 6 (.mv (.k (.int .i64 0))), .o 7 (.mv (.k (.bool false)))]) .ret) .skip
abbrev Q3B:AC:= .seq (.run [.o 3 (.box aJ), .o 6 (.mv (.k (.int .i64 0))), .o 7 (.mv (.k (.bool false)))]) (.seq (.seq (.run [.o 8 (.load bO true 4), .c 9 na [bS], .o 10 (.un .not cu)]) Q36) (.seq (.run [.o 11 (.load bO true 4), .m 12 a7, .m 13 cZ, .c 14 lf [bU,bZ,bV], .o 15 (.ext bK 0), .o 16 (.ext bK 1), .m 6 cv, .m 7 cq]) .ret))
abbrev Q3G:AC:= .cond df (.seq (.run [.o 25 (.build [(.int .i64 0),(.int .i64 0),(.int .i64 0),(.slice .full 0 []),(.slice .full 0 [])] []), .op none none (.store bS di 5), .o 9 (.mv (.k (.int .i64 1)))]) .ret) .skip
abbrev Q3Q:AC:= .seq (.cond fk .skip (.exit 0)) (.seq (.block 1 (.run [.m 37 bD, .m 38 bD, .o 39 (.bq fQ), .o 40 (.aj fR 1), .o 41 (.load gh false 1), .o 42 (.alloc [(.int .i64 0)]), .o 43 (.cD [.ek] 1 1 [(0,gU)]), .o 44 (.app 1 8 ga gV), .o 45 (.bq fF), .o 46 (.aj jb 1), .op none none (.store jc iF 1)])) (.run [.o 47 (.bin .add fb (.k (.int .i64 1))), .m 35 jF]))
abbrev Q3R:AC:= .seq (.run [.o 36 (.bin .lss fb fj)]) Q3Q
abbrev Q41:AC:= .cond k5 (.seq (.run [.o 12 (.mv (.k (.int .i64 0)))]) (.goto 0)) .skip
abbrev Q42:AC:= .seq (.run [.m 55 bV,(.o 56 (.bin .eql jI (.k (.int .i64 (-1)))))]) Q41
abbrev Q46:AC:= .cond oD (.seq (.run [.m 64 bD, .o 65 (.bq p8), .o 66 (.aj rR 6), .o 67 (.aj sD 0), .op none none (.store sE (.k (.int .i64 2)) 1)]) (.goto 2)) .skip
abbrev Q4I:AC:= .seq (.run [.m 102 bD, .o 103 (.aj bU 0), .o 104 (.load IP true 13), .c 105 ow [IN,IQ], .m 12 IS]) (.seq (.run [.m 106 bD, .o 107 (.bq IT), .o 108 (.aj IU 6), .o 109 (.aj IV 0), .o 110 (.load Qt false 1), .o 111 (.bin .eql IW (.k (.int .i64 0)))]) (.cond IX (.goto 0) .skip))
abbrev Q4M:AC:= .cond KE (.run [.m 96 bD, .o 97 (.aj bU 0), .o 98 (.load Qq true 13), .c 99 pd [Qp,Qr], .m 13 Qs]) (.seq (.run [.o 101 (.bin .eql BG (.k (.int .i64 9))), .m 100 IM]) (.cond IL Q4I (.run [.m 91 bD, .o 92 (.load bU true 17), .c 93 qM [D1,Gg], .m 13 KD])))
abbrev Q4O:AC:= .block 2 (.seq (.run [.o 95 (.bin .eql BG (.k (.int .i64 4))), .m 94 KF]) Q4M)
abbrev Q4Y:AC:= .seq (.run [.m 127 bD, .o 128 (.bq Jb), .o 129 (.aj zD 6), .o 130 (.load Jc true 5), .op none none (.store bS Jd 5), .o 9 (.mv (.k (.int .i64 0)))]) .ret
abbrev Q50:AC:= .seq (.seq (.run [.m 121 bD, .o 122 (.bq I6), .o 123 (.aj I7 6), .o 124 (.aj I8 0), .o 125 (.load I9 false 1), .o 126 (.bin .eql Ja (.k (.int .i64 0)))]) (.cond Qu (.goto 1) .skip)) (.seq (.label 2) Q4Y)
abbrev Q51:AC:= .seq (.run [.m 118 bD, .m 119 bZ, .c 120 ox [I3,I4], .m 13 I5]) Q50
abbrev Q54:AC:= .seq (.seq (.run [.m 112 bD, .o 113 (.bq ES), .o 114 (.aj IY 6), .o 115 (.aj IZ 0), .o 116 (.load I0 false 1), .o 117 (.bin .eql I1 (.k (.int .i64 0)))]) (.cond I2 (.goto 1) .skip)) (.seq (.goto 2) (.seq (.label 0) Q51))
abbrev Q57:AC:= .seq (.run [.m 68 bD, .o 69 (.bq rS), .o 70 (.aj ur 6), .o 71 (.aj sF 1), .o 72 (.load xD false 1), .o 73 (.bin .add vK (.k (.int .i64 1))), .o 74 (.bq rS), .o 75 (.aj xE 6), .o 76 (.aj xF 1), .op none none (.store vM vL 1)]) (.seq (.run [.m 77 bD, .o 78 (.bq xG), .o 79 (.aj vN 0), .o 80 (.load BD false 1), .o 81 (.bq BE), .o 82 (.aj BF 2), .o 83 (.load DU false 1), .m 84 bV, .o 85 (.bin .sub DW (.k (.int .i64 1))), .o 86 (.cr DV DX 17), .o 87 (.load DY true 17), .op none none (.store bU DZ 17)]) (.seq (.seq (.run [.o 88 (.aj bU 0), .o 89 (.aj D0 1), .o 90 (.load zC false 1)]) Q4O) Q54))
abbrev Q59:AC:= .seq Q42 (.seq (.seq (.run [.m 57 bD, .o 58 (.bq lO), .o 59 (.aj lF 6), .o 60 (.aj kF 1), .o 61 (.load nn false 1), .m 62 cZ, .o 63 (.bin .eql oA oB)]) Q46) Q57)
abbrev Q5C:AC:= .seq (.run [.o 12 (.mv (.k (.int .i64 0)))]) (.seq (.run [.m 48 bD, .m 49 bD, .o 50 (.bq iO), .o 51 (.aj jG 0), .o 52 (.load jd false 1),(.c 53 iE [je,(.k (.str [109,97,105,110]))]),(.c 54 jl [iA,jf,(.k (.slice .full 0 [])),(.k (.int .i64 0))]), .m 13 jH]) (.seq (.label 1) Q59))
abbrev Q5D:AC:= .seq (.run [.o 11 (.alloc [(.int .i64 0),(.int .i64 0),(.slice .full 0 []),(.str []),(.str []),(.int .i64 0),(.int .i64 0),(.str []),(.slice .full 0 []),(.bool false),(.slice .full 0 []),(.slice .full 0 []),(.slice .full 0 []),(.int .i64 0),(.int .i64 0),(.int .i64 0),(.int .i64 0)])]) Q5C
abbrev Q5E:AC:= .seq (.seq (.run [.o 32 (.aj dw 0), .o 33 (.load fa false 1), .o 34 (.len eZ), .o 35 (.mv (.k (.int .i64 0)))]) (.block 0 (.loop Q3R))) Q5D
abbrev Q5G:AC:= .seq (.seq (.run [.m 14 cZ, .o 15 (.bin .lss bK (.k (.int .i64 0))), .m 16 cv, .g 17 16 false (.mv cZ), .g 18 16 false (.bin .gtr cU (.k (.int .i64 1000000))), .o 19 (.pick cq (.k (.bool true)) cT), .m 20 dh, .g 21 20 false (.load dw true 2), .d 22 20 false xv [dB], .g 23 20 false (.un .not dI), .o 24 (.pick dt (.k (.bool true)) dJ)]) Q3G) (.seq (.run [.o 26 (.load dw true 2), .c 27 kY [dX], .m 28 a7, .m 29 bO, .o 30 (.build [.ek,(.slice .full 0 []),(.slice .full 0 []),(.slice .full 0 []),(.slice .full 0 []),(.slice .full 0 []),(.int .i64 0),(.int .i64 0),(.int .i64 0),(.slice .full 0 []),(.slice .full 0 [])] [(0,(1,dY)),(2,(1,eP)),(3,(1,eK))]), .o 31 (.box eU), .m 10 eV]) Q5E)
abbrev Q5H:AC:= .scope Q5G
abbrev Q5I:AC:= .seq (.run [.o 4 (.box aJ), .o 8 (.alloc [(.int .i64 0),(.int .i64 0),(.int .i64 0),(.slice .full 0 []),(.slice .full 0 [])]), .o 9 (.mv (.k (.int .i64 0)))]) Q5H
abbrev Q5Q:AC:= .par [.o 19 (.build [(.slice .full 0 []),(.slice .full 0 [])] []), .o 20 (.load bk true 2), .op none none (.store cZ dh 2), .op none none (.store bO dt 2)] [(0,0),(2,0),(1,1),(3,0)]
abbrev Q5W:AC:= .seq (.seq (.run [.o 16 (.aj bk 0), .o 17 (.load cq false 1), .o 18 (.bin .neq cU (.k (.int .i64 0)))]) (.cond cT (.seq Q5Q .ret) .skip)) (.seq (.run [.o 21 (.load dw true 2), .o 22 (.build [(.int .i64 0),(.int .i64 0)] []), .op none none (.store cZ dB 2), .op none none (.store bO dI 2)]) .ret)
abbrev Q5X:AC:= .seq (.seq (.run [.o 11 (.aj bk 0), .o 12 (.load bU false 1), .o 13 (.bin .eql bZ (.k (.int .i64 0)))]) (.cond bV (.run [.o 14 (.load dw true 2), .c 15 sZ [bK], .op none none (.store bk cv 2)]) .skip)) Q5W
abbrev Q5Z:AC:= .seq (.run [.o 2 (.alloc [(.slice .full 0 []),(.slice .full 0 [])]), .o 3 (.alloc [(.int .i64 0),(.int .i64 0)])]) (.seq (.run [.m 7 aJ, .c 8 ug [bT], .m 6 bS, .o 9 (.ext bX 0), .o 10 (.ext bX 1), .o 4 (.alloc [(.slice .full 0 []),(.slice .full 0 [])]), .o 5 (.alloc [(.int .i64 0),(.int .i64 0)]), .op none none (.store dw cu 2), .op none none (.store bk bD 2)]) Q5X)
abbrev Q64:AC:= .cond bX (.seq (.run [.o 4 (.mv (.k (.int .i64 0)))]) .ret) .skip
abbrev Q6E:AC:= .seq (.seq (.run [.m 10 aJ, .o 11 (.bin .lss bD (.k (.int .i64 0)))]) (.cond bU (.seq (.run [.m 12 aJ, .m 13 a7, .o 14 (.bin .add bZ bV), .m 4 bK]) .ret) .skip)) (.seq (.run [.m 15 aJ, .m 4 cv]) .ret)
abbrev Q6G:AC:= .seq (.seq (.run [.m 5 a7, .o 6 (.bin .lss bk (.k (.int .i64 1)))]) Q64) (.seq (.run [.m 7 aJ, .m 8 a7, .o 9 (.bin .rem bT bS), .m 0 cu]) Q6E)
abbrev Q6H:AC:= .seq (.run [.o 4 (.mv (.k (.int .i64 0)))]) Q6G
abbrev Q6J:AC:= .run [(.o 3 (.cD [(.str [])] 1 1 [(0,(.k (.str [118])))])), .c 4 rJ [(.k (.int .i64 2))],(.o 5 (.build [(.int .i64 0),(.int .i64 0),(.slice .full 0 []),(.str []),(.str []),(.int .i64 0),(.int .i64 0),(.str []),(.slice .full 0 []),(.bool false),(.slice .full 0 []),(.slice .full 0 []),(.slice .full 0 [])] [(0,(1,(.k (.int .i64 1)))),(1,(1,(.k (.int .i64 1)))),(3,(1,(.k (.str [118])))),(5,(4,dw))])), .c 6 rJ [(.k (.int .i64 3))], .o 7 (.build [(.bool false),(.str []),(.int .i64 0),(.int .i64 0),(.str []),(.slice .full 0 [])] [(2,(4,bX))]),(.o 8 (.build [(.bool false),(.str []),(.int .i64 0),(.int .i64 0),(.str []),(.slice .full 0 [])] [(0,(1,(.k (.bool true)))),(1,(1,(.k (.str [118]))))])), .o 9 (.cD [(.bool false),(.str []),(.int .i64 0),(.int .i64 0),(.str []),(.slice .full 0 [])] 6 2 [(0,bT),(1,bS)]),(.o 10 (.build [(.int .i64 0),(.int .i64 0),(.slice .full 0 []),(.str []),(.str []),(.int .i64 0),(.int .i64 0),(.str []),(.slice .full 0 []),(.bool false),(.slice .full 0 []),(.slice .full 0 []),(.slice .full 0 [])] [(0,(1,(.k (.int .i64 2)))),(1,(1,(.k (.int .i64 4)))),(3,(1,(.k (.str [103])))),(4,(1,(.k (.str [112])))),(10,(1,cu))])),(.c 11 lg [(.k (.str [118]))]),(.o 12 (.build [(.int .i64 0),(.int .i64 0),(.slice .full 0 []),(.str []),(.str []),(.int .i64 0),(.int .i64 0),(.str []),(.slice .full 0 []),(.bool false),(.slice .full 0 []),(.slice .full 0 []),(.slice .full 0 [])] [(0,(1,(.k (.int .i64 3)))),(1,(1,(.k (.int .i64 3)))),(5,(4,bU))])),(.c 13 lg [(.k (.str [103]))]),(.o 14 (.build [(.int .i64 0),(.int .i64 0),(.slice .full 0 []),(.str []),(.str []),(.int .i64 0),(.int .i64 0),(.str []),(.slice .full 0 []),(.bool false),(.slice .full 0 []),(.slice .full 0 []),(.slice .full 0 [])] [(0,(1,(.k (.int .i64 4)))),(1,(1,(.k (.int .i64 3)))),(5,(4,bV))])), .o 15 (.cD [(.int .i64 0),(.int .i64 0),(.slice .full 0 []),(.str []),(.str []),(.int .i64 0),(.int .i64 0),(.str []),(.slice .full 0 []),(.bool false),(.slice .full 0 []),(.slice .full 0 []),(.slice .full 0 [])] 13 4 [(0,bk),(1,bD),(2,bZ),(3,bK)]),(.o 16 (.build [(.str []),(.slice .full 0 []),(.slice .full 0 []),(.slice .full 0 []),(.slice .full 0 [])] [(0,(1,(.k (.str [109,97,105,110])))),(2,(1,bO)),(3,(1,cv))])), .o 1 (.alloc [(.str []),(.slice .full 0 []),(.slice .full 0 []),(.slice .full 0 []),(.slice .full 0 [])]), .op none none (.store a7 cq 5)]
abbrev Q6K:AC:= .run [(.o 17 (.build [(.str []),(.bool false)] [(0,(1,(.k (.str [120]))))])),(.o 18 (.build [(.str []),(.bool false)] [(0,(1,(.k (.str [121])))),(1,(1,(.k (.bool true))))])), .o 19 (.cD [(.str []),(.bool false)] 2 2 [(0,cU),(1,cT)]),(.o 20 (.cD [(.str [])] 1 1 [(0,(.k (.str [101])))])),(.c 21 lg [(.k (.str [121]))]),(.c 22 lg [(.k (.str [120]))]), .c 23 uV [(.k (.int .i64 8)),dB,dI],(.o 24 (.build [(.int .i64 0),(.int .i64 0),(.slice .full 0 []),(.str []),(.str []),(.int .i64 0),(.int .i64 0),(.str []),(.slice .full 0 []),(.bool false),(.slice .full 0 []),(.slice .full 0 []),(.slice .full 0 [])] [(0,(1,(.k (.int .i64 5)))),(1,(1,(.k (.int .i64 1)))),(3,(1,(.k (.str [121])))),(5,(4,dJ))])),(.c 25 lg [(.k (.str [121]))]), .c 26 rJ [(.k (.int .i64 9))], .c 27 uV [(.k (.int .i64 12)),di,dX],(.o 28 (.build [(.int .i64 0),(.int .i64 0),(.slice .full 0 []),(.str []),(.str []),(.int .i64 0),(.int .i64 0),(.str []),(.slice .full 0 []),(.bool false),(.slice .full 0 []),(.slice .full 0 []),(.slice .full 0 [])] [(0,(1,(.k (.int .i64 7)))),(1,(1,(.k (.int .i64 10)))),(3,(1,(.k (.str [101]))))])), .o 29 (.cD [(.int .i64 0),(.int .i64 0),(.slice .full 0 []),(.str []),(.str []),(.int .i64 0),(.int .i64 0),(.str []),(.slice .full 0 []),(.bool false),(.slice .full 0 []),(.slice .full 0 []),(.slice .full 0 [])] 13 1 [(0,eP)]),(.o 30 (.build [(.int .i64 0),(.int .i64 0),(.slice .full 0 []),(.str []),(.str []),(.int .i64 0),(.int .i64 0),(.str []),(.slice .full 0 []),(.bool false),(.slice .full 0 []),(.slice .full 0 []),(.slice .full 0 [])] [(0,(1,(.k (.int .i64 6)))),(1,(1,(.k (.int .i64 5)))),(5,(4,dY)),(11,(1,eK))])),(.c 31 lg [(.k (.str [121]))]),(.o 32 (.build [(.int .i64 0),(.int .i64 0),(.slice .full 0 []),(.str []),(.str []),(.int .i64 0),(.int .i64 0),(.str []),(.slice .full 0 []),(.bool false),(.slice .full 0 []),(.slice .full 0 []),(.slice .full 0 [])] [(0,(1,(.k (.int .i64 8)))),(1,(1,(.k (.int .i64 9)))),(9,(1,(.k (.bool true)))),(5,(4,eV))])), .o 33 (.cD [(.int .i64 0),(.int .i64 0),(.slice .full 0 []),(.str []),(.str []),(.int .i64 0),(.int .i64 0),(.str []),(.slice .full 0 []),(.bool false),(.slice .full 0 []),(.slice .full 0 []),(.slice .full 0 [])] 13 3 [(0,df),(1,eU),(2,fa)]),(.o 34 (.build [(.str []),(.slice .full 0 []),(.slice .full 0 []),(.slice .full 0 []),(.slice .full 0 [])] [(0,(1,(.k (.str [112])))),(1,(1,dh)),(4,(1,dt)),(3,(1,eZ))])), .o 2 (.alloc [(.str []),(.slice .full 0 []),(.slice .full 0 []),(.slice .full 0 []),(.slice .full 0 [])]), .op none none (.store cZ fj 5)]
abbrev Q6M:AC:= .seq (.run [(.o 35 (.cD [(.str [])] 1 1 [(0,(.k (.str [103])))])), .o 36 (.load a7 true 5), .o 37 (.load cZ true 5), .o 38 (.cD [(.str []),(.slice .full 0 []),(.slice .full 0 []),(.slice .full 0 []),(.slice .full 0 [])] 5 2 [(0,fk),(1,fF)]), .o 39 (.build [(.slice .full 0 []),(.slice .full 0 [])] [(0,(1,fb)),(1,(1,fQ))]), .op none none (.store aJ fR 2)]) .ret
abbrev Q6P:AC:= .seq (.run [.o 0 (.alloc [(.slice .full 0 []),(.slice .full 0 [])])]) (.seq Q6J (.seq Q6K Q6M))
abbrev Q6T:AC:= .seq (.run [.o 1 (.box aJ),(.o 2 (.mv (.k (.val (.complex .f64 0 0)))))]) (.seq (.run [.o 3 (.aj a7 1), .o 4 (.load bO false 1), .o 5 (.rf (.ofInt .f64) dw dw), .o 6 (.aj a7 2), .o 7 (.load bX false 1), .o 8 (.rf (.ofInt .f64) bT bT), .o 9 (.rf .Jt bk bS), .m 2 cu]) .ret)
open Go.Proofs
set_option maxRecDepth 20000 in
theorem zE : Has Tryz.prog tH 61 [(2, none)] Q11 := ⟨Tryz.f6, by kernel_rfl, by kernel_rfl⟩
set_option maxRecDepth 20000 in
set_option maxRecDepth 20000 in
theorem Ic : Has Tryz.prog xu 56 [(0, none)] Q17 := ⟨Tryz.f8, by kernel_rfl, by kernel_rfl⟩
theorem vO:Has Tryz.prog lx 26 [(4,none)] Q20:=⟨Tryz.f16,by kernel_rfl,by kernel_rfl⟩
theorem EU:Has Tryz.prog qy 15 [(4,none)] Q24:=⟨Tryz.f17,by kernel_rfl,by kernel_rfl⟩
set_option maxRecDepth 20000 in
theorem Ie : Has Tryz.prog xv 7 [(2, none)] Q28 := ⟨Tryz.f18, by kernel_rfl, by kernel_rfl⟩
theorem Gh:Has Tryz.prog vz 28 [(4,none)] Q31:=⟨Tryz.f21,by kernel_rfl,by kernel_rfl⟩
theorem Ds:Has Tryz.prog wL 17 [(6,none),(7,none)] Q3B:=⟨Tryz.f22,by kernel_rfl,by kernel_rfl⟩
theorem uY:Has Tryz.prog qL 131 [(8,(some (true,5))),(9,none)] Q5I:=⟨Tryz.f23,by kernel_rfl,by kernel_rfl⟩
set_option maxRecDepth 20000 in
theorem Gi : Has Tryz.prog rG 23 [(2, (some (true, 2))), (3, (some (true, 2)))] Q5Z := ⟨Tryz.f24, by kernel_rfl, by kernel_rfl⟩
theorem BH:Has Tryz.prog zv 16 [(4,none)] Q6H:=⟨Tryz.f25,by kernel_rfl,by kernel_rfl⟩
theorem Ig:Has Tryz.prog xw 40 [(0,(some (true,2)))] Q6P:=⟨Tryz.f26,by kernel_rfl,by kernel_rfl⟩
theorem Ih:Has Tryz.prog xx 10 [(2,none)] Q6T:=⟨Tryz.f27,by kernel_rfl,by kernel_rfl⟩
abbrev Q6V:AC:= .run [.o 5 (.aj cZ 0), .o 6 (.load bk false 1), .o 7 (.aj bO 0), .o 8 (.load bT false 1), .o 9 (.bin .eql bX bS), .m 10 cu, .g 11 10 true (.aj cZ 1), .g 12 10 true (.load bU false 1), .g 13 10 true (.aj bO 1), .g 14 10 true (.load bV false 1), .g 15 10 true (.bin .eql bZ bK), .o 16 (.pick bD cv (.k (.bool false))), .m 17 cq, .g 18 17 true (.aj cZ 2), .g 19 17 true (.load cT false 1), .g 20 17 true (.aj bO 2), .g 21 17 true (.load dt false 1), .g 22 17 true (.bin .eql dh dB), .o 23 (.pick cU dI (.k (.bool false))), .m 24 dJ, .g 25 24 true (.aj cZ 3), .g 26 24 true (.load di false 1), .g 27 24 true (.aj bO 3), .g 28 24 true (.load dY false 1), .d 29 24 true lx [dX,eP], .o 30 (.pick df eK (.k (.bool false))), .m 4 eU]
abbrev Q6X:AC:= .seq (.run [.o 2 (.box aJ), .o 3 (.box a7), .o 4 (.mv (.k (.bool false)))]) (.seq Q6V .ret)
abbrev Q72:AC:= .cond bD (.seq (.run [.o 4 (.mv (.k (.bool false)))]) .ret) .skip
abbrev Q78:AC:= .par [.m 16 aJ, .m 17 bk, .o 18 (.cr cq cU 2), .o 19 (.aj cT 0), .o 20 (.load dh false 1), .m 21 a7, .m 22 bk, .o 23 (.cr dB dI 2), .o 24 (.aj dJ 0), .o 25 (.load df false 1), .o 26 (.bin .neq dt di), .m 27 dX, .g 28 27 false (.mv aJ), .g 29 27 false (.mv bk), .g 30 27 false (.cr eP eK 2), .g 31 27 false (.aj eU 1), .g 32 27 false (.load eV false 1), .g 33 27 false (.mv a7), .g 34 27 false (.mv bk), .g 35 27 false (.cr eZ fj 2), .g 36 27 false (.aj fb 1), .g 37 27 false (.load fk false 1), .d 38 27 false lx [fa,fF], .g 39 27 false (.un .not fQ), .o 40 (.pick dY (.k (.bool true)) fR)] [(0,0),(1,0),(2,0),(3,0),(4,0),(5,0),(6,0),(7,0),(8,0),(9,0),(10,0),(11,0),(12,0),(13,0),(14,0),(15,0),(16,0),(17,0),(18,0),(19,0),(20,0),(21,0),(22,0),(23,0),(24,0)]
abbrev Q7B:AC:= .cond gh (.seq (.run [.o 4 (.mv (.k (.bool false)))]) .ret) .skip
abbrev Q7H:AC:= .seq (.cond bK .skip (.exit 0)) (.seq (.block 1 (.seq (.run [.m 15 bV, .m 5 cv]) (.seq Q78 Q7B))) (.run [.o 41 (.bin .add bV (.k (.int .i64 1))), .m 13 ga]))
abbrev Q7L:AC:= .seq (.run [.m 11 aJ, .o 12 (.len bU), .o 13 (.mv (.k (.int .i64 0)))]) (.block 0 (.loop (.seq (.run [.o 14 (.bin .lss bV bZ)]) Q7H)))
abbrev Q7O:AC:= .seq Q7L (.seq (.run [.o 4 (.mv (.k (.bool true)))]) .ret)
abbrev Q7Q:AC:= .seq (.run [.o 4 (.mv (.k (.bool false)))]) (.seq (.seq (.run [.m 6 aJ, .o 7 (.len bX), .m 8 a7, .o 9 (.len bS), .o 10 (.bin .neq bT cu)]) Q72) Q7O)
abbrev Q7U:AC:= .seq (.run [(.o 7 (.build [(.int .i64 0),(.int .i64 0)] [(0,(1,(.k (.int .i64 1))))])), .op none none (.store cZ bT 2)]) .ret
abbrev Q8C:AC:= .seq (.seq (.run [.o 20 (.aj bO 0), .o 21 (.load dt false 1), .o 22 (.bin .eql dB (.k (.int .i64 0)))]) (.cond dI (.run [.o 23 (.load a7 true 2), .c 24 uh [dJ], .op none none (.store bO df 2)]) .skip)) (.seq (.run [.o 25 (.load bO true 2), .op none none (.store cZ di 2)]) .ret)
abbrev Q8D:AC:= .seq (.seq (.run [.o 15 (.aj bO 0), .o 16 (.load cv false 1), .o 17 (.bin .eql cq (.k (.int .i64 0)))]) (.cond cU (.run [.o 18 (.load a7 true 2), .c 19 vA [cT], .op none none (.store bO dh 2)]) .skip)) Q8C
abbrev Q8E:AC:= .seq (.seq (.run [.o 10 (.aj bO 0), .o 11 (.load bD false 1), .o 12 (.bin .eql bU (.k (.int .i64 0)))]) (.cond bZ (.run [.o 13 (.load a7 true 2), .c 14 qA [bV], .op none none (.store bO bK 2)]) .skip)) Q8D
abbrev Q8H:AC:= .seq (.run [.o 1 (.box aJ), .o 2 (.alloc [(.int .i64 0),(.int .i64 0)])]) (.seq (.seq (.run [.o 4 (.load a7 true 2), .c 5 rI [dw], .o 6 (.un .not bk)]) (.cond bX Q7U .skip)) (.seq (.run [.o 8 (.load a7 true 2), .c 9 lS [bS], .o 3 (.alloc [(.int .i64 0),(.int .i64 0)]), .op none none (.store bO cu 2)]) Q8E))
abbrev Q8M:AC:= .cond dJ (.seq (.run [.o 2 (.mv (.k (.bool false)))]) .ret) .skip
abbrev Q8T:AC:= .run [.o 33 (.aj bk 1), .o 34 (.load eZ false 1), .o 35 (.len fj), .o 36 (.bin .gtr fb (.k (.int .i64 8))), .m 37 fk, .g 38 37 false (.aj bk 2), .g 39 37 false (.load fQ false 1), .g 40 37 false (.len fR), .g 41 37 false (.bin .gtr gh (.k (.int .i64 16))), .o 42 (.pick fF (.k (.bool true)) ga), .m 43 gU, .g 44 43 false (.aj bk 0), .g 45 43 false (.load iF false 1), .d 46 43 false nS [jb], .g 47 43 false (.un .not jc), .o 48 (.pick gV (.k (.bool true)) jF), .m 49 iA, .g 50 49 false (.aj bk 2), .g 51 49 false (.load jG false 1), .d 52 49 false nc [jd], .g 53 49 false (.un .not je), .o 54 (.pick iO (.k (.bool true)) jf), .m 55 jH, .g 56 55 false (.aj bk 4), .g 57 55 false (.load k5 false 1), .d 58 55 false nc [lO], .g 59 55 false (.un .not lF), .o 60 (.pick jI (.k (.bool true)) kF)]
abbrev Q8W:AC:= .cond nn (.seq (.run [.o 2 (.mv (.k (.bool false)))]) .ret) .skip
abbrev Q95:AC:= .cond xD (.seq (.run [.o 2 (.mv (.k (.bool false)))]) .ret) .skip
abbrev Q9A:AC:= .seq (.block 3 (.seq (.run [.o 66 (.cr oB p8 2), .o 67 (.load sD true 2), .o 7 (.alloc [(.str []),(.bool false)]), .op none none (.store bT sE 2)]) (.seq (.run [.o 68 (.aj bT 0), .o 69 (.load rS false 1), .c 70 nS [ur], .o 71 (.un .not sF)]) Q95))) (.run [.o 72 (.bin .add p8 (.k (.int .i64 1))), .m 64 vK])
abbrev Q9E:AC:= .block 2 (.loop (.seq (.run [.o 65 (.bin .lss p8 oD)]) (.seq (.cond rR .skip (.exit 2)) Q9A)))
abbrev Q9J:AC:= .cond xG (.seq (.run [.o 2 (.mv (.k (.bool false)))]) .ret) .skip
abbrev Q9L:AC:= .seq (.seq (.run [.o 61 (.aj bk 1), .o 62 (.load oA false 1), .o 63 (.len oB), .o 64 (.mv (.k (.int .i64 0)))]) Q9E) (.seq (.run [.m 73 bO, .o 74 (.aj bk 3), .o 75 (.load xE false 1), .c 76 kD [vL,xF,(.k (.int .i64 1))], .o 77 (.un .not vM)]) Q9J)
abbrev Q9Q:AC:= .seq (.block 1 (.seq (.run [.o 31 (.cr dY eK 5), .o 32 (.load eV true 5), .o 5 (.alloc [(.str []),(.slice .full 0 []),(.slice .full 0 []),(.slice .full 0 []),(.slice .full 0 [])]), .op none none (.store bk fa 5)]) (.seq (.seq Q8T Q8W) Q9L))) (.run [.o 78 (.bin .add eK (.k (.int .i64 1))), .m 29 vN])
abbrev Q9U:AC:= .block 0 (.loop (.seq (.run [.o 30 (.bin .lss eK eP)]) (.seq (.cond eU .skip (.exit 0)) Q9Q)))
abbrev Q9Y:AC:= .seq (.seq (.run [.o 26 (.aj a7 1), .o 27 (.load dX false 1), .o 28 (.len dY), .o 29 (.mv (.k (.int .i64 0)))]) Q9U) (.seq (.run [.o 2 (.mv (.k (.bool true)))]) .ret)
abbrev QA0:AC:= .seq (.seq (.run [.o 8 (.aj a7 0), .o 9 (.load bS false 1), .o 10 (.len cu), .o 11 (.bin .gtr bD (.k (.int .i64 16))), .m 12 bU, .g 13 12 false (.aj a7 1), .g 14 12 false (.load bV false 1), .g 15 12 false (.len bK), .g 16 12 false (.bin .gtr cv (.k (.int .i64 16))), .o 17 (.pick bZ (.k (.bool true)) cq), .m 18 cU, .g 19 18 false (.aj a7 0), .g 20 18 false (.load dh false 1), .d 21 18 false nc [dt], .g 22 18 false (.un .not dB), .o 23 (.pick cT (.k (.bool true)) dI)]) Q8M) (.seq (.run [.o 24 (.build [(.int .i64 0)] []), .o 25 (.box df), .m 3 di]) Q9Y)
abbrev QA1:AC:= .seq (.run [.o 1 (.box aJ), .o 2 (.mv (.k (.bool false)))]) QA0
abbrev QA9:AC:= .par [.o 19 (.aj bX 0), .o 20 (.load dh false 1), .o 21 (.aj bX 1), .o 22 (.load dB false 1), .c 23 lE [dI], .o 24 (.aj bX 2), .o 25 (.load df false 1), .c 26 fe [di], .o 27 (.aj bX 4), .o 28 (.load dY false 1), .c 29 fe [eP], .o 30 (.build [(.str []),(.slice .full 0 []),(.slice .full 0 []),(.slice .full 0 []),(.slice .full 0 [])] [(0,(1,dt)),(1,(1,dJ)),(2,(1,dX)),(4,(1,eK))]), .o 7 (.alloc [(.str []),(.slice .full 0 []),(.slice .full 0 []),(.slice .full 0 []),(.slice .full 0 [])]), .op none none (.store bT eU 5)] [(2,0),(3,0),(4,0),(5,0),(6,1),(7,0),(8,0),(9,2),(10,0),(12,0),(0,0),(1,4),(11,0),(13,0)]
abbrev QAE:AC:= .seq (.run [.o 17 (.cr bV cv 5), .o 18 (.load cU true 5), .o 6 (.alloc [(.str []),(.slice .full 0 []),(.slice .full 0 []),(.slice .full 0 []),(.slice .full 0 [])]), .op none none (.store bX cT 5)]) (.seq QA9 (.seq (.run [.o 32 (.aj bX 3), .o 33 (.load fa false 1), .m 34 bO, .c 35 kQ [eZ,fj,(.k (.bool true))], .m 31 fb, .o 36 (.ext eV 0), .o 37 (.ext eV 1), .o 38 (.aj bT 3), .op none none (.store fQ fk 1), .m 3 fF]) (.run [.o 39 (.aj dw 1), .o 40 (.load fR false 1), .o 41 (.load bT true 5), .o 42 (.cD [(.str []),(.slice .full 0 []),(.slice .full 0 []),(.slice .full 0 []),(.slice .full 0 [])] 5 1 [(0,ga)]), .o 43 (.app 5 112 gh gU), .o 44 (.aj dw 1), .op none none (.store iF gV 1)])))
abbrev QAI:AC:= .seq (.cond cq .skip (.exit 0)) (.seq (.block 1 QAE) (.run [.o 45 (.bin .add cv (.k (.int .i64 1))), .m 15 jb]))
abbrev QAM:AC:= .seq (.run [.o 12 (.aj a7 1), .o 13 (.load bZ false 1), .o 14 (.len bV), .o 15 (.mv (.k (.int .i64 0)))]) (.block 0 (.loop (.seq (.run [.o 16 (.bin .lss cv bK)]) QAI)))
abbrev QAR:AC:= .seq (.run [.o 3 (.mv (.k (.int .i64 0)))]) (.seq (.run [.o 8 (.aj a7 0), .o 9 (.load bS false 1), .c 10 fe [cu], .o 11 (.build [(.slice .full 0 []),(.slice .full 0 [])] [(0,(1,bD))]), .o 4 (.alloc [(.slice .full 0 []),(.slice .full 0 [])]), .op none none (.store dw bU 2)]) (.seq QAM (.seq (.run [.o 46 (.load dw true 2), .op none none (.store cZ jc 2)]) .ret)))
abbrev QAS:AC:= .seq (.run [.o 1 (.box aJ), .o 2 (.alloc [(.slice .full 0 []),(.slice .full 0 [])])]) QAR
abbrev QAX:AC:= .cond dw (.seq (.run [.o 2 (.mv (.k (.slice .full 0 [])))]) .ret) .skip
abbrev QB2:AC:= .seq (.run [.o 2 (.mv (.k (.slice .full 0 [])))]) (.seq (.seq (.run [.m 3 aJ, .nil (some 4) none false bO]) QAX) (.seq (.run [.o 5 (.cD [(.str [])] 1 0 []), .m 6 aJ, .o 7 (.app 1 16 bk bX), .m 2 bT]) .ret))
abbrev QBD:AC:= .seq (.block 1 (.seq (.run [.o 11 (.cr bT cu 2), .o 12 (.load bU true 2), .o 5 (.alloc [(.str []),(.bool false)]), .op none none (.store bk bZ 2)]) (.run [.m 13 bO, .o 14 (.aj bk 0), .o 15 (.load bK false 1), .o 16 (.cD [(.str [])] 1 1 [(0,cv)]), .o 17 (.app 1 16 bV cq), .m 3 cU]))) (.run [.o 18 (.bin .add cu (.k (.int .i64 1))), .m 9 cT])
abbrev QBH:AC:= .block 0 (.loop (.seq (.run [.o 10 (.bin .lss cu bS)]) (.seq (.cond bD .skip (.exit 0)) QBD)))
abbrev QBL:AC:= .seq (.seq (.run [.o 6 (.aj a7 1), .o 7 (.load bX false 1), .o 8 (.len bT), .o 9 (.mv (.k (.int .i64 0)))]) QBH) (.seq (.run [.m 19 bO, .o 20 (.aj a7 2), .o 21 (.load dt false 1), .o 22 (.app 1 16 dh dB), .m 2 dI]) .ret)
abbrev QBN:AC:= .seq (.run [.o 1 (.box aJ), .o 2 (.mv (.k (.slice .full 0 [])))]) (.seq (.run [.o 3 (.mv (.k (.slice .full 0 [])))]) QBL)
abbrev QBR:AC:= .seq (.run [.o 1 (.box aJ), .o 2 (.mv (.k (.bool false)))]) (.seq (.run [.o 3 (.load a7 true 4), .c 4 qh [bO,(.k (.int .i64 20))], .m 2 dw]) .ret)
abbrev QC2:AC:= .cond eV (.seq (.run [.m 32 cZ, .m 33 bS, .o 34 (.cr fa eZ 1), .o 35 (.load fj false 1), .m 6 fb, .o 7 (.mv (.k (.bool true)))]) .ret) .skip
abbrev QC4:AC:= .seq (.run [.m 20 a7, .o 21 (.aj bO 2), .o 22 (.load dB false 1), .c 23 fY [dt,dI], .m 8 dJ]) (.seq (.run [.m 24 bS, .o 25 (.bin .geq df (.k (.int .i64 0))), .m 26 di, .g 27 26 true (.mv bS), .g 28 26 true (.mv cZ), .g 29 26 true (.len eP), .g 30 26 true (.bin .lss dY eK), .o 31 (.pick dX eU (.k (.bool false)))]) QC2)
abbrev QC7:AC:= .seq QC4 (.seq (.run [.o 6 (.mv (.k (.int .i64 0))), .o 7 (.mv (.k (.bool true)))]) .ret)
abbrev QCA:AC:= .cond bK (.seq (.run [.o 16 (.aj bO 1), .o 17 (.load cq false 1), .m 6 cU, .o 7 (.mv (.k (.bool true)))]) .ret) (.seq (.run [.o 19 (.bin .eql bV (.k (.int .i64 2))), .m 18 dh]) (.cond cT QC7 .skip))
abbrev QCC:AC:= .block 0 (.seq (.run [.o 15 (.bin .eql bV (.k (.int .i64 1))), .m 14 cv]) QCA)
abbrev QCI:AC:= .cond jF (.seq (.run [.o 6 (.mv (.k (.int .i64 0))), .o 7 (.mv (.k (.bool false)))]) .ret) .skip
abbrev QCS:AC:= .cond rR (.seq (.run [.o 6 (.mv (.k (.int .i64 0))), .o 7 (.mv (.k (.bool true)))]) .ret) .skip
abbrev QCX:AC:= .cond vK (.seq (.run [.o 6 (.mv (.k (.int .i64 1))), .o 7 (.mv (.k (.bool true)))]) .ret) .skip
abbrev QD3:AC:= .cond DW (.seq (.run [.o 6 (.mv (.k (.int .i64 0))), .o 7 (.mv (.k (.bool false)))]) .ret) .skip
abbrev QD9:AC:= .seq (.seq (.run [.o 66 (.aj bO 0), .o 67 (.load sD false 1), .o 68 (.bin .eql sE (.k (.int .i64 17))), .m 69 rS, .g 70 69 true (.mv cu), .d 71 69 true rK [sF], .o 72 (.pick ur xD (.k (.bool false)))]) QCX) (.seq (.run [.o 74 (.aj bO 3), .o 75 (.load xE false 1), .o 76 (.cr xF (.k (.int .i64 1)) 4), .o 77 (.load vM true 4), .m 78 a7, .m 79 cZ, .c 80 lf [xG,vN,BD], .m 73 BE, .o 81 (.ext vL 0), .o 82 (.ext vL 1), .m 11 BF, .m 10 DU]) (.seq (.seq (.run [.m 83 bD, .o 84 (.un .not DV)]) QD3) (.seq (.run [.o 85 (.aj bO 0), .o 86 (.load DX false 1), .m 87 cu, .m 88 bU, .c 89 zz [DY,DZ,D0], .o 90 (.ext zC 0), .o 91 (.ext zC 1), .m 6 BG, .m 7 D1]) .ret)))
abbrev QDA:AC:= .seq (.seq (.run [.o 58 (.aj bO 0), .o 59 (.load lF false 1), .o 60 (.bin .eql kF (.k (.int .i64 16))), .m 61 nn, .g 62 61 true (.mv cu), .d 63 61 true rK [oB], .g 64 61 true (.un .not oD), .o 65 (.pick oA p8 (.k (.bool false)))]) QCS) QD9
abbrev QDB:AC:= .seq (.seq (.run [.o 48 (.aj bO 3), .o 49 (.load iA false 1), .o 50 (.len iO), .o 51 (.bin .eql jG (.k (.int .i64 1)))]) (.cond jd (.seq (.run [.o 52 (.aj bO 0), .o 53 (.load je false 1), .m 54 cu, .c 55 zw [jf,jH], .o 56 (.ext jI 0), .o 57 (.ext jI 1), .m 6 k5, .m 7 lO]) .ret) .skip)) QDA
abbrev QDE:AC:= .seq (.seq (.run [.o 12 (.aj bO 0), .o 13 (.load bZ false 1)]) QCC) (.seq (.run [.o 37 (.aj bO 3), .o 38 (.load fF false 1), .o 39 (.cr fQ (.k (.int .i64 0)) 4), .o 40 (.load fR true 4), .m 41 a7, .m 42 cZ, .c 43 lf [gh,ga,gU], .m 36 gV, .o 44 (.ext fk 0), .o 45 (.ext fk 1), .m 9 iF, .m 10 jb]) (.seq (.seq (.run [.m 46 bD, .o 47 (.un .not jc)]) QCI) QDB))
abbrev QDF:AC:= .seq (.run [.o 3 (.box aJ), .o 6 (.mv (.k (.int .i64 0))), .o 7 (.mv (.k (.bool false)))]) QDE
abbrev QDM:AC:= .par [.m 17 bO, .m 18 bO, .o 19 (.bq cT), .o 20 (.aj dh 3), .o 21 (.load dt false 1), .m 22 bO, .o 23 (.bq dI), .o 24 (.aj dJ 2), .o 25 (.load df false 1), .o 26 (.len di), .o 27 (.bin .add dX (.k (.int .i64 1))), .o 28 (.cD [(.int .i64 0)] 1 1 [(0,dY)]), .o 29 (.app 1 8 dB eP), .o 30 (.bq cU), .o 31 (.aj eU 3), .op none none (.store eV eK 1)] [(1,0),(2,0),(3,0),(4,0),(5,0),(6,0),(7,0),(8,0),(9,0),(10,0),(11,0),(12,0),(0,0),(13,0),(14,0),(15,0)]
abbrev QDO:AC:= .par [.m 38 bO, .m 39 bO, .o 40 (.bq fR), .o 41 (.aj gh 4), .o 42 (.load ga false 1), .m 43 bO, .o 44 (.bq gV), .o 45 (.aj iF 2), .o 46 (.load jb false 1), .o 47 (.len jc), .o 48 (.bin .add jF (.k (.int .i64 1))), .o 49 (.cD [(.int .i64 0)] 1 1 [(0,iA)]), .o 50 (.app 1 8 gU iO), .o 51 (.bq fQ), .o 52 (.aj jd 4), .op none none (.store je jG 1)] [(1,0),(2,0),(3,0),(4,0),(5,0),(6,0),(7,0),(8,0),(9,0),(10,0),(11,0),(12,0),(0,0),(13,0),(14,0),(15,0)]
abbrev QDP:AC:= .seq (.run [.m 32 bO, .o 33 (.aj bk 3), .o 34 (.load eZ false 1), .m 35 dw,(.o 36 (.build [(.int .i64 0),(.int .i64 0),(.slice .full 0 []),(.str []),(.str []),(.int .i64 0),(.int .i64 0),(.str []),(.slice .full 0 []),(.bool false),(.slice .full 0 []),(.slice .full 0 []),(.slice .full 0 []),(.int .i64 0),(.int .i64 0),(.int .i64 0),(.int .i64 0)] [(13,(1,fb)),(15,(1,(.k (.int .i64 (-1)))))])), .c 37 kl [fa,fj,fk]]) QDO
abbrev QDU:AC:= .seq (.block 1 (.seq (.run [.m 14 bZ, .o 15 (.cr bD bZ 5), .o 16 (.load cv true 5), .o 5 (.alloc [(.str []),(.slice .full 0 []),(.slice .full 0 []),(.slice .full 0 []),(.slice .full 0 [])]), .m 4 bK, .op none none (.store bk cq 5)]) (.seq QDM QDP))) (.run [.o 53 (.bin .add bZ (.k (.int .i64 1))), .m 12 jf])
abbrev QDY:AC:= .block 0 (.loop (.seq (.run [.o 13 (.bin .lss bZ bU)]) (.seq (.cond bV .skip (.exit 0)) QDU)))
abbrev QE2:AC:= .seq (.seq (.run [.o 9 (.aj a7 1), .o 10 (.load cu false 1), .o 11 (.len bD), .o 12 (.mv (.k (.int .i64 0)))]) QDY) (.seq (.run [.m 54 bO, .m 2 jH]) .ret)
abbrev QE4:AC:= .seq (.run [.o 1 (.box aJ), .o 2 (.mv (.k .ek))]) (.seq (.run [.o 6 (.load a7 true 2), .o 7 (.build [(.slice .full 0 []),(.slice .full 0 []),(.slice .full 0 []),(.slice .full 0 []),(.slice .full 0 [])] [(0,(2,bX))]), .o 8 (.box bT), .m 3 bS]) QE2)
abbrev QE7:AC:= .par [.m 22 a7, .m 23 aJ, .o 24 (.bq dJ), .o 25 (.aj df 0), .o 26 (.load di false 1), .o 27 (.bq dX), .o 28 (.aj dY 0), .o 29 (.load eP true 2), .o 30 (.aj cu 0), .o 31 (.load eU false 1), .c 32 vz [eK,eV], .m 33 bO, .o 34 (.build [(.int .i64 0),(.slice .full 0 []),(.slice .full 0 []),(.int .i64 0)] [(0,(1,dI)),(1,(1,fa)),(3,(1,eZ))]), .o 35 (.box fj), .m 10 fb] [(1,0),(2,0),(3,0),(4,0),(5,0),(6,0),(7,0),(8,0),(9,0),(10,0),(0,0),(11,0),(12,0),(13,0),(14,0)]
abbrev QE8:AC:= .par [.m 36 bD, .m 37 bD, .o 38 (.bq fF), .o 39 (.aj fQ 2), .o 40 (.load fR false 1), .m 41 aJ, .o 42 (.bq ga), .o 43 (.aj gU 1), .o 44 (.load gV false 1), .o 45 (.app 1 8 gh iF), .m 46 cZ, .o 47 (.app 1 8 jb jc), .o 48 (.bq fk), .o 49 (.aj iA 2), .op none none (.store iO jF 1)] [(1,0),(2,0),(3,0),(4,0),(5,0),(6,0),(7,0),(8,0),(9,0),(10,0),(11,0),(0,0),(12,0),(13,0),(14,0)]
abbrev QEG:AC:= .seq (.cond jH .skip (.exit 0)) (.seq (.block 1 (.run [.m 55 bD, .m 56 bD, .o 57 (.bq k5), .o 58 (.aj lO 2), .o 59 (.load lF false 1), .o 60 (.alloc [(.int .i64 0)]), .o 61 (.cD [.ek] 1 1 [(0,nn)]), .o 62 (.app 1 8 kF oA), .o 63 (.bq jI), .o 64 (.aj oD 2), .op none none (.store p8 oB 1)])) (.run [.o 65 (.bin .add jf (.k (.int .i64 1))), .m 53 rR]))
abbrev QEH:AC:= .seq (.run [.o 54 (.bin .lss jf je)]) QEG
abbrev QEO:AC:= .seq (.run [.m 66 aJ, .m 67 aJ, .o 68 (.bq sE), .o 69 (.aj rS 4), .o 70 (.load ur false 1), .m 71 bD, .o 72 (.cD [.ek] 1 1 [(0,xD)]), .o 73 (.app 1 8 sF vK), .o 74 (.bq sD), .o 75 (.aj xE 4), .op none none (.store xF vL 1)]) (.seq (.run [.m 76 aJ, .o 77 (.bq vM), .o 78 (.aj xG 0), .o 79 (.load vN false 1), .m 80 a7, .c 81 pe [BD,BE], .m 8 BF]) .ret)
abbrev QEP:AC:= .seq (.seq (.run [.o 50 (.aj cu 2), .o 51 (.load jG false 1), .o 52 (.len jd), .o 53 (.mv (.k (.int .i64 0)))]) (.block 0 (.loop QEH))) QEO
abbrev QET:AC:= .seq (.run [.o 8 (.mv (.k (.int .i64 0)))]) (.seq (.run [.m 11 aJ, .o 12 (.bq bU), .o 13 (.aj bZ 0), .o 14 (.load bV false 1), .o 15 (.bq bK), .o 16 (.aj cv 0), .o 17 (.aj cq 1), .o 18 (.load cU false 1), .m 19 a7, .o 20 (.cr cT dh 5), .o 21 (.load dt true 5), .o 9 (.alloc [(.str []),(.slice .full 0 []),(.slice .full 0 []),(.slice .full 0 []),(.slice .full 0 [])]), .op none none (.store cu dB 5)]) (.seq QE7 (.seq QE8 QEP)))
abbrev QEX:AC:= .seq (.run [.o 3 (.box a7), .o 4 (.mv (.k (.int .i64 0)))]) (.seq (.run [.m 5 aJ, .o 6 (.bq bk), .o 7 (.aj bX 0), .o 8 (.aj bT 1), .o 9 (.load bS false 1), .o 10 (.uQ 93 [bO]), .c 11 gk [cu,bD], .m 4 bU]) .ret)
abbrev QF8:AC:= .seq (.run [.o 18 (.aj bT 0), .o 19 (.load cT false 1)]) (.cond dh (.seq (.run [.m 20 bk, .m 21 aJ, .o 22 (.aj bT 1), .o 23 (.load dI false 1), .c 24 iL [dB,dJ], .o 25 (.cD [.ek] 1 1 [(0,df)]), .o 26 (.app 1 8 dt di), .m 5 dX]) (.exit 1)) .skip)
abbrev QFC:AC:= .seq (.run [(.o 4 (.mv (.k (.int .i64 (-1)))))]) .ret
abbrev QFJ:AC:= .seq (.run [.m 28 aJ, .o 29 (.aj bT 2), .o 30 (.load eK true 4), .c 31 kb [eP,eU], .m 27 eV, .o 32 (.ext dY 0), .o 33 (.ext dY 1), .m 8 fa, .m 9 eZ]) (.seq (.seq (.run [.m 34 cu, .o 35 (.un .not fj)]) (.cond fb QFC .skip)) (.seq (.run [.m 36 bS, .o 10 (.alloc [(.int .i64 0)]), .op none none (.store bD fk 1)]) (.run [.m 37 bk, .o 38 (.cD [.ek] 1 1 [(0,bD)]), .o 39 (.app 1 8 fF fQ), .m 5 fR])))
abbrev QFO:AC:= .seq (.block 1 (.seq (.run [.o 16 (.cr bZ bK 6), .o 17 (.load cq true 6), .o 7 (.alloc [(.bool false),(.str []),(.int .i64 0),(.int .i64 0),(.str []),(.slice .full 0 [])]), .op none none (.store bT cU 6)]) (.seq QF8 QFJ))) (.run [.o 40 (.bin .add bK (.k (.int .i64 1))), .m 14 gh])
abbrev QFQ:AC:= .seq (.run [.o 15 (.bin .lss bK bV)]) (.seq (.cond cv .skip (.exit 0)) QFO)
abbrev QFX:AC:= .seq (.run [(.o 4 (.mv (.k (.int .i64 (-1)))))]) .ret
abbrev QFZ:AC:= .cond jc (.seq (.run [.m 47 aJ, .o 48 (.bq jF), .o 49 (.aj iA 6), .o 50 (.aj iO 0), .op none none (.store jG (.k (.int .i64 5)) 1)]) QFX) .skip
abbrev QG2:AC:= .par [.m 55 aJ, .m 56 aJ, .o 57 (.bq k5), .o 58 (.aj lO 0), .o 59 (.load lF false 1), .o 60 (.aj bO 4), .o 61 (.load nn false 1), .c 62 iE [kF,oA], .m 63 bk, .o 64 (.aj bO 0), .o 65 (.load p8 false 1), .c 66 jl [jI,oB,oD,rR], .m 4 sD] [(1,0),(2,0),(3,0),(4,0),(5,0),(6,0),(7,0),(0,0),(8,0),(9,0),(10,1),(11,0),(12,0)]
abbrev QG5:AC:= .seq (.seq (.run [.m 41 aJ, .o 42 (.bq ga), .o 43 (.aj gU 4), .o 44 (.load gV false 1), .o 45 (.len iF), .o 46 (.bin .gtr jb (.k (.int .i64 100)))]) QFZ) (.seq (.run [.m 51 aJ, .o 52 (.aj bO 0), .o 53 (.load je false 1),(.c 54 eE [jd,jf,(.k (.slice .full 0 []))])]) (.seq QG2 .ret))
abbrev QG6:AC:= .seq (.seq (.run [.o 11 (.aj bO 10), .o 12 (.load bU false 1), .o 13 (.len bZ), .o 14 (.mv (.k (.int .i64 0)))]) (.block 0 (.loop QFQ))) QG5
abbrev QG8:AC:= .seq (.run [.o 3 (.box a7), .o 4 (.mv (.k (.int .i64 0)))]) (.seq (.run [.o 5 (.mv (.k (.slice .full 0 [])))]) QG6)
abbrev QGE:AC:= .seq (.run [.m 10 aJ, .o 11 (.aj bO 0), .o 12 (.load bU false 1),(.c 13 eE [bD,bZ,(.k (.slice .full 0 []))])]) (.seq (.run [.o 4 (.mv (.k (.int .i64 0)))]) .ret)
abbrev QGO:AC:= .seq (.seq (.run [.m 21 bX]) (.cond dB (.run [.m 22 aJ, .o 23 (.aj bO 0), .o 24 (.load dJ false 1), .m 25 bk, .o 26 (.cD [(.int .i64 0)] 1 1 [(0,di)]), .c 27 eE [dI,df,dX]]) .skip)) (.seq (.run [.m 28 bk, .m 4 eP]) .ret)
abbrev QGR:AC:= .seq (.run [.o 3 (.box a7), .o 4 (.mv (.k (.int .i64 0)))]) (.seq (.seq (.run [.o 7 (.aj bO 9), .o 8 (.load bT false 1), .o 9 (.un .not bS)]) (.cond cu QGE .skip)) (.seq (.run [.m 15 aJ, .o 16 (.aj bO 5), .o 17 (.load cq true 4), .c 18 kb [cv,cU], .m 14 cT, .o 19 (.ext bK 0), .o 20 (.ext bK 1), .m 5 dh, .m 6 dt]) QGO))
abbrev QGX:AC:= .par [.m 21 aJ, .o 22 (.bq dB), .o 23 (.aj dI 0), .o 24 (.load dJ false 1), .o 25 (.bq df), .o 26 (.aj di 2), .o 27 (.load dX false 1), .o 28 (.aj bO 16), .o 29 (.load eP false 1), .o 30 (.bin .sub eK (.k (.int .i64 1))), .o 31 (.cr dY eU 17), .o 32 (.aj eV 15), .o 33 (.load fa false 1), .m 4 eZ] [(0,0),(1,0),(2,0),(3,0),(4,0),(5,0),(6,0),(7,0),(8,0),(9,0),(10,0),(11,0),(12,0),(13,0)]
abbrev QH7:AC:= .par [.m 49 aJ, .o 50 (.bq iO), .o 51 (.aj jG 0), .o 52 (.load jd false 1), .o 53 (.aj bO 13), .o 54 (.load jf false 1), .o 55 (.aj bk 3), .o 56 (.load jI false 1), .c 57 oM [je,jH,k5], .m 48 lO, .o 58 (.ext iA 0), .o 59 (.ext iA 1), .m 6 lF, .m 7 kF] [(0,0),(1,0),(2,0),(3,0),(4,0),(5,0),(6,0),(7,0),(8,0),(9,0),(10,0),(11,0),(12,0),(13,0)]
abbrev QHD:AC:= .par [.m 63 aJ, .o 64 (.bq oD), .o 65 (.aj p8 6), .o 66 (.aj rR 2), .o 67 (.load sD false 1), .m 68 aJ, .o 69 (.bq rS), .o 70 (.aj ur 2), .o 71 (.load sF false 1), .o 72 (.len xD), .o 73 (.bin .geq sE vK)] [(0,0),(1,0),(2,0),(3,0),(4,0),(5,0),(6,0),(7,0),(8,0),(9,0),(10,0)]
abbrev QHG:AC:= .seq (.run [(.o 4 (.mv (.k (.int .i64 (-1)))))]) .ret
abbrev QHI:AC:= .cond vL (.seq (.run [.m 74 aJ, .o 75 (.bq xE), .o 76 (.aj xF 6), .o 77 (.aj vM 0), .op none none (.store xG (.k (.int .i64 3)) 1)]) QHG) .skip
abbrev QHK:AC:= .par [.m 78 aJ, .o 79 (.bq vN), .o 80 (.aj BD 2), .o 81 (.load BE false 1), .m 82 aJ, .o 83 (.bq DU), .o 84 (.aj DV 6), .o 85 (.aj DW 2), .o 86 (.load DX false 1), .o 87 (.cr BF DY 1), .o 88 (.load DZ false 1), .m 8 D0] [(0,0),(1,0),(2,0),(3,0),(4,0),(5,0),(6,0),(7,0),(8,0),(9,0),(10,0),(11,0)]
abbrev QHS:AC:= .seq (.run [.m 89 aJ, .o 90 (.bq zC), .o 91 (.aj BG 6), .o 92 (.aj D1 2), .o 93 (.load Gg false 1), .o 94 (.bin .add KD (.k (.int .i64 1))), .o 95 (.bq zC), .o 96 (.aj KF 6), .o 97 (.aj Qp 2), .op none none (.store Qq KE 1)]) (.seq (.run [.m 98 aJ, .o 99 (.aj bk 3), .o 100 (.load Qs false 1), .c 101 iL [Qr,IL], .m 102 bS, .o 103 (.bq IM), .op none none (.store IP IN 1)]) (.seq (.run [.m 104 aJ, .o 105 (.aj bk 0), .o 106 (.load IS false 1), .m 107 bS, .o 108 (.cD [(.int .i64 0)] 1 1 [(0,IU)]), .c 109 eE [IQ,IT,IV]]) (.seq (.run [.o 110 (.aj bO 15), .o 111 (.load IW false 1), .m 4 IX]) .ret)))
abbrev QHX:AC:= .cond gU (.seq (.run [.m 44 aJ, .o 45 (.aj bk 0), .o 46 (.load jb false 1),(.c 47 eE [iF,jc,(.k (.slice .full 0 []))])]) (.seq QH7 (.seq (.run [.m 60 bX, .m 4 nn]) .ret))) (.seq (.run [.o 62 (.bin .eql bK (.k (.int .i64 2))), .m 61 oB]) (.cond oA (.seq (.seq QHD QHI) (.seq QHK QHS)) .skip))
abbrev QHZ:AC:= .cond fj (.seq (.run [.m 36 aJ, .o 37 (.aj bk 0), .o 38 (.load fF false 1),(.c 39 eE [fk,fQ,(.k (.slice .full 0 []))])]) (.seq (.run [.o 40 (.aj bO 16), .o 41 (.load gh false 1), .m 4 ga]) .ret)) (.seq (.run [.o 43 (.bin .eql bK (.k (.int .i64 10))), .m 42 gV]) QHX)
abbrev QI1:AC:= .cond cv (.seq (.run [.m 17 aJ, .o 18 (.aj bk 0), .o 19 (.load cT false 1),(.c 20 eE [cU,dh,(.k (.slice .full 0 []))])]) (.seq QGX .ret)) (.seq (.run [.o 35 (.bin .eql bK (.k (.int .i64 8))), .m 34 fb]) QHZ)
abbrev QI3:AC:= .block 0 (.seq (.run [.o 16 (.bin .eql bK (.k (.int .i64 7))), .m 15 cq]) QI1)
abbrev QI8:AC:= .seq (.run [(.o 4 (.mv (.k (.int .i64 (-1)))))]) .ret
abbrev QIP:AC:= .seq (.seq (.run [.m 153 cu, .o 154 (.bin .neq YR (.k (.int .i64 0)))]) (.cond YS (.seq (.run [.o 155 (.aj bk 11), .o 156 (.load YT false 1), .o 157 (.aj bO 15), .o 158 (.load YV false 1), .c 159 qi [YU,YW], .m 4 YX]) .ret) .skip)) (.seq (.run [.o 160 (.aj bk 12), .o 161 (.load YY false 1), .o 162 (.aj bO 15), .o 163 (.load Y0 false 1), .c 164 qi [YZ,Y1], .m 4 Y2]) .ret)
abbrev QIW:AC:= .cond Y3 (.seq (.run [.m 167 cu, .o 168 (.bin .neq Y5 (.k (.int .i64 0)))]) (.cond Y6 (.seq (.run [.o 169 (.aj bk 11), .o 170 (.load Y7 false 1), .o 171 (.aj bk 0), .o 172 (.load Y9 false 1), .c 173 qi [Y8,Za], .m 4 Zb]) .ret) .skip)) .skip
abbrev QIY:AC:= .cond QM QIP (.seq (.run [.o 166 (.bin .eql zD (.k (.int .i64 6))), .m 165 Y4]) QIW)
abbrev QJ0:AC:= .cond QA (.run [.m 139 aJ, .m 140 aJ, .o 141 (.bq QD), .o 142 (.aj QE 6), .o 143 (.aj QF 3), .o 144 (.load Jf false 1), .m 145 cu, .o 146 (.cD [(.int .i64 0)] 1 1 [(0,ET)]), .o 147 (.app 1 8 QG QH), .o 148 (.bq QC), .o 149 (.aj QJ 6), .o 150 (.aj QK 3), .op none none (.store QL QI 1)]) (.seq (.run [.o 152 (.bin .eql zD (.k (.int .i64 5))), .m 151 YQ]) QIY)
abbrev QJ2:AC:= .cond Jc (.run [.m 131 aJ, .o 132 (.aj bk 3), .o 133 (.load Je false 1), .c 134 iL [Qv,Qw], .m 135 cu, .o 136 (.bq Qx), .op none none (.store Qz Qy 1)]) (.seq (.run [.o 138 (.bin .eql zD (.k (.int .i64 3))), .m 137 QB]) QJ0)
abbrev QJ4:AC:= .block 1 (.seq (.run [.o 130 (.bin .eql zD (.k (.int .i64 1))), .m 129 Jd]) QJ2)
abbrev QJA:AC:= .seq (.seq (.run [.m 119 bD, .o 120 (.un .not I4)]) (.cond I5 QI8 .skip)) (.seq (.run [.m 121 aJ, .o 122 (.aj bk 0), .o 123 (.load I7 false 1), .m 124 cu, .o 125 (.cD [(.int .i64 0)] 1 1 [(0,I9)]), .c 126 eE [I6,I8,Ja]]) (.seq (.seq (.run [.o 127 (.aj bk 1), .o 128 (.load Jb false 1)]) QJ4) (.seq (.run [.o 174 (.aj bO 15), .o 175 (.load Zc false 1), .m 4 Zd]) .ret)))
abbrev QJE:AC:= .seq (.run [.o 3 (.box a7), .o 4 (.mv (.k (.int .i64 0)))]) (.seq (.run [.o 11 (.aj bO 0), .o 12 (.load bU true 13), .o 5 (.alloc [(.int .i64 0),(.int .i64 0),(.slice .full 0 []),(.str []),(.str []),(.int .i64 0),(.int .i64 0),(.str []),(.slice .full 0 []),(.bool false),(.slice .full 0 []),(.slice .full 0 []),(.slice .full 0 [])]), .op none none (.store bk bZ 13)]) (.seq (.seq (.run [.o 13 (.aj bk 1), .o 14 (.load bV false 1)]) QI3) (.seq (.run [.m 113 aJ, .o 114 (.aj bk 5), .o 115 (.load IZ true 4), .c 116 kb [IY,I0], .m 112 I1, .o 117 (.ext ES 0), .o 118 (.ext ES 1), .m 9 I2, .m 10 I3]) QJA)))
abbrev QJH:AC:= .par [.m 12 aJ, .m 13 aJ, .o 14 (.bq bV), .o 15 (.aj bK 4), .o 16 (.load cv false 1), .m 17 aJ, .o 18 (.bq cU), .o 19 (.aj cT 4), .o 20 (.load dh false 1), .o 21 (.len dt), .o 22 (.bin .sub dB (.k (.int .i64 1))), .o 23 (.Et 1 cq none (some dI)), .o 24 (.bq bZ), .o 25 (.aj df 4), .op none none (.store di dJ 1)] [(0,0),(1,0),(2,0),(3,0),(4,0),(5,0),(6,0),(7,0),(8,0),(9,0),(10,0),(11,0),(12,0),(13,0),(14,0)]
abbrev QJL:AC:= .seq (.run [(.o 4 (.mv (.k (.int .i64 (-1)))))]) .ret
abbrev QJN:AC:= .cond dY (.seq (.run [.m 28 aJ, .o 29 (.bq eP), .o 30 (.aj eK 6), .o 31 (.aj eU 0), .op none none (.store eV (.k (.int .i64 1)) 1)]) QJL) .skip
abbrev QJW:AC:= .seq (.seq (.run [.o 43 (.aj bX 0), .o 44 (.aj gV 3), .o 45 (.load iF false 1), .o 46 (.bin .neq jb (.k (.str [])))]) (.cond jc (.run [.m 47 aJ, .o 48 (.aj bX 0), .o 49 (.aj iA 3), .o 50 (.load iO false 1), .c 51 iL [jF,jG], .m 52 a7, .o 53 (.bq jd), .op none none (.store jf je 1)]) .skip)) (.seq (.run [.o 54 (.aj bX 15), .o 55 (.load jH false 1), .m 4 jI]) .ret)
abbrev QJY:AC:= .seq (.seq (.run [.m 26 bk, .o 27 (.bin .eql dX (.k (.int .i64 0)))]) QJN) (.seq (.run [.m 32 aJ, .o 33 (.bq fa), .o 34 (.aj eZ 0), .o 35 (.load fj false 1), .o 36 (.bq fb), .o 37 (.aj fk 2), .o 38 (.load fF false 1), .m 39 bk, .o 40 (.bin .sub fR (.k (.int .i64 1))), .o 41 (.cr fQ gh 17), .o 42 (.load ga true 17), .o 6 (.alloc [(.int .i64 0),(.int .i64 0),(.slice .full 0 []),(.str []),(.str []),(.int .i64 0),(.int .i64 0),(.str []),(.slice .full 0 []),(.bool false),(.slice .full 0 []),(.slice .full 0 []),(.slice .full 0 []),(.int .i64 0),(.int .i64 0),(.int .i64 0),(.int .i64 0)]), .op none none (.store bX gU 17)]) QJW)
abbrev QK1:AC:= .seq (.run [.o 4 (.mv (.k (.int .i64 0)))]) (.seq (.run [.m 7 aJ, .c 8 kU [bT], .o 9 (.bq bS), .o 10 (.aj cu 3), .o 11 (.load bD false 1), .m 5 bU]) (.seq QJH QJY))
abbrev QK5:AC:= .par [.o 16 (.build [(.slice .full 0 []),(.slice .full 0 [])] []), .o 17 (.load bk true 2), .op none none (.store cZ cq 2), .op none none (.store bO cU 2)] [(0,0),(2,0),(1,1),(3,0)]
abbrev QKC:AC:= .par [.o 29 (.build [(.slice .full 0 []),(.slice .full 0 [])] []), .m 30 bX, .o 31 (.bq eU), .o 32 (.aj eV 2), .o 33 (.load fa true 2), .op none none (.store cZ eK 2), .op none none (.store bO eZ 2)] [(0,0),(5,0),(1,0),(2,0),(3,0),(4,1),(6,0)]
abbrev QKI:AC:= .seq (.seq (.run [.m 23 bX, .o 24 (.bq dJ), .o 25 (.aj df 2), .o 26 (.aj di 0), .o 27 (.load dX false 1), .o 28 (.bin .neq dY (.k (.int .i64 0)))]) (.cond eP (.seq QKC .ret) .skip)) (.seq (.run [.o 34 (.load bT true 2), .c 35 qz [fj], .o 36 (.build [(.int .i64 0),(.int .i64 0)] []), .op none none (.store cZ fb 2), .op none none (.store bO fk 2)]) .ret)
abbrev QKL:AC:= .seq (.seq (.run [.o 13 (.aj bk 0), .o 14 (.load bV false 1), .o 15 (.bin .neq bK (.k (.int .i64 0)))]) (.cond cv (.seq QK5 .ret) .skip)) (.seq (.run [.m 18 dw, .o 19 (.build [(.slice .full 0 []),(.int .i64 0),(.int .i64 0),(.int .i64 0),(.int .i64 0)] [(0,(1,cT))]), .o 20 (.box dh), .m 6 dt]) (.seq (.run [.m 21 bX, .c 22 mw [dB], .o 7 (.alloc [(.slice .full 0 []),(.slice .full 0 [])]), .op none none (.store bT dI 2)]) QKI))
abbrev QKN:AC:= .seq (.run [.o 2 (.alloc [(.slice .full 0 []),(.slice .full 0 [])]), .o 3 (.alloc [(.int .i64 0),(.int .i64 0)])]) (.seq (.run [.m 9 aJ, .c 10 By [cu], .m 8 bD, .o 11 (.ext bS 0), .o 12 (.ext bS 1), .o 5 (.alloc [(.int .i64 0),(.int .i64 0)]), .m 4 bU, .op none none (.store bk bZ 2)]) QKL)
theorem EV:Has Tryz.prog uf 31 [(4,none)] Q6X:=⟨Tryz.f38,by kernel_rfl,by kernel_rfl⟩
theorem uJ:Has Tryz.prog rH 42 [(4,none)] Q7Q:=⟨Tryz.f39,by kernel_rfl,by kernel_rfl⟩
set_option maxRecDepth 20000 in
theorem oc : Has Tryz.prog sZ 26 [(2, (some (true, 2)))] Q8H := ⟨Tryz.f40, by kernel_rfl, by kernel_rfl⟩
theorem KH:Has Tryz.prog rI 79 [(2,none)] QA1:=⟨Tryz.f42,by kernel_rfl,by kernel_rfl⟩
theorem EW:Has Tryz.prog qz 47 [(2,(some (true,2)))] QAS:=⟨Tryz.f43,by kernel_rfl,by kernel_rfl⟩
theorem lP:Has Tryz.prog fe 8 [(2,none)] QB2:=⟨Tryz.f44,by kernel_rfl,by kernel_rfl⟩
theorem Ii:Has Tryz.prog s5 23 [(2,none)] QBN:=⟨Tryz.f45,by kernel_rfl,by kernel_rfl⟩
theorem D2:Has Tryz.prog na 5 [(2,none)] QBR:=⟨Tryz.f46,by kernel_rfl,by kernel_rfl⟩
theorem oi:Has Tryz.prog lf 92 [(6,none),(7,none)] QDF:=⟨Tryz.f47,by kernel_rfl,by kernel_rfl⟩
theorem KI:Has Tryz.prog kY 55 [(2,none)] QE4:=⟨Tryz.f48,by kernel_rfl,by kernel_rfl⟩
set_option maxRecDepth 20000 in
theorem zF : Has Tryz.prog jl 82 [(8, none)] QET := ⟨Tryz.f49, by kernel_rfl, by kernel_rfl⟩
theorem AP:Has Tryz.prog iE 12 [(4,none)] QEX:=⟨Tryz.f50,by kernel_rfl,by kernel_rfl⟩
set_option maxRecDepth 20000 in
theorem zG : Has Tryz.prog pd 67 [(4, none)] QG8 := ⟨Tryz.f51, by kernel_rfl, by kernel_rfl⟩
set_option maxRecDepth 20000 in
theorem yr : Has Tryz.prog ow 29 [(4, none)] QGR := ⟨Tryz.f52, by kernel_rfl, by kernel_rfl⟩
set_option maxRecDepth 20000 in
theorem il : Has Tryz.prog qM 176 [(4, none)] QJE := ⟨Tryz.f53, by kernel_rfl, by kernel_rfl⟩
set_option maxRecDepth 20000 in
theorem qZ : Has Tryz.prog ox 56 [(4, none)] QK1 := ⟨Tryz.f54, by kernel_rfl, by kernel_rfl⟩
theorem EX:Has Tryz.prog ug 37 [(2,(some (true,2))),(3,(some (true,2)))] QKN:=⟨Tryz.f55,by kernel_rfl,by kernel_rfl⟩
end Go.Abs
