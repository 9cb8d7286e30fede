/-
  What is proved here: part 1 of the road to the claim (Frame, Frame2, Walk, Par, Par1, Par2, Par3, Step, Wp, Types, Mir, MirTree, Cnt, MirFlat, Nums, Codes0, Have0).
  No conditions.
-/
import Derived.Test.YtiopamakecmpkaaGreatCkV0
import Derived.Attr
import Derived.Test.YtiopamakecmpkaaGreatProg
import Derived.KernelRfl

set_option linter.unusedSimpArgs false
set_option linter.unusedVariables false
namespace Go.Abs
def Tag.ok (m:Nat):Tag→Bool
 | .tok t _=>decide (t<m)
 |_=>true
def Tag.ey (ts:List Nat):Tag→Tag
 | .tok t y=>match ts[t]? with|some t'=> .tok t' y|none=> .shared
 |g=>g
mutual
def D.ok (n m:Nat):D→Bool
 | .ptr o _=>decide (o<n)
 | .eJ row _=>D.bN n m row
 | .slice g _ rows=>g.ok m && D.kc n m rows
 | .agg cs=>D.bN n m cs
 | .tuple ds=>D.bN n m ds
 | .gy _ o=>decide (o<n)
 | .iK _ cs=>D.bN n m cs
 | .iI o=>decide (o<n)
 | .kZ _ o _ _=>decide (o<n)
 | .jL o _ _=>decide (o<n)
 |_=>true
def D.bN (n m:Nat):List D→Bool
 | []=>true
 |d::r=>D.ok n m d && D.bN n m r
def D.kc (n m:Nat):List (List D)→Bool
 | []=>true
 |d::r=>D.bN n m d && D.kc n m r
end
mutual
def D.ey (os ts:List Nat):D→D
 | .ptr o off=>match os[o]? with|some o'=> .ptr o' off|none=> .junk
 | .eJ row off=> .eJ (D.iu os ts row) off
 | .slice g z rows=> .slice (g.ey ts) z (D.vI os ts rows)
 | .agg cs=> .agg (D.iu os ts cs)
 | .tuple ds=> .tuple (D.iu os ts ds)
 | .junk=> .junk
 | .int k x=> .int k x
 | .bool b=> .bool b
 | .str l=> .str l
 | .fS=> .fS
 | .val v=> .val v
 | .gy T o=>match os[o]? with|some o'=> .gy T o'|none=> .junk
 | .iK f cs=> .iK f (D.iu os ts cs)
 | .iI o=>match os[o]? with|some o'=> .iI o'|none=> .junk
 | .kZ z o g len=>match os[o]? with|some o'=> .kZ z o' g len|none=> .junk
 | .jL o g off=>match os[o]? with|some o'=> .jL o' g off|none=> .junk
 | .kQ z=> .kQ z
def D.iu (os ts:List Nat):List D→List D
 | []=> []
 |d::r=>D.ey os ts d::D.iu os ts r
def D.vI (os ts:List Nat):List (List D)→List (List D)
 | []=> []
 |d::r=>D.iu os ts d::D.vI os ts r
end
theorem gD (os ts:List Nat) : ∀ l,D.iu os ts l=l.map (D.ey os ts)
 | []=>by simp[D.iu]
 |d::r=>by simp[D.iu,gD os ts r]
theorem DP (os ts:List Nat) : ∀ l,D.vI os ts l=l.map (D.iu os ts)
 | []=>by simp[D.vI]
 |d::r=>by simp[D.vI,DP os ts r]
theorem CQ (n m:Nat) : ∀ l,D.bN n m l=l.all (D.ok n m)
 | []=>by simp[D.bN]
 |d::r=>by simp[D.bN,CQ n m r]
theorem F4 (n m:Nat) : ∀ l,D.kc n m l=l.all (D.bN n m)
 | []=>by simp[D.kc]
 |d::r=>by simp[D.kc,F4 n m r]
theorem xl {n m:Nat} {l:List D} (h:D.bN n m l=true) {i:Nat} {d:D} (e:l[i]? = some d):D.ok n m d=true:=by
 rw[CQ]at h;exact List.all_eq_true.1 h d (List.mem_of_getElem? e)
theorem abh {n m:Nat} {l:List (List D)} (h:D.kc n m l=true) {i:Nat} {d:List D} (e:l[i]? = some d):D.bN n m d=true:=by
 rw[F4]at h;exact List.all_eq_true.1 h d (List.mem_of_getElem? e)
section
variable {M M0:Map} {s s0:St} {os ts:List Nat}
theorem jE.Ku (lU : ∀ (i:Nat) t,ts[i]? = some t→M0.be i=M.be t) (ht : ∀ (i t:Nat),ts[i]? = some t→s0.aD[i]? = s.aD[t]?) (hlen:s0.aD.length=ts.length) {g:Tag} {z len cap:Nat} {base:Option (Nat×Nat)} (IZ:g.ok ts.length=true) (h:jE M s (g.ey ts) z len base cap):jE M0 s0 g z len base cap:=by
 cases g with
 |full=>exact h
 |shared=>exact h
 |tok t y=>
  have hY:t<ts.length:=by simpa[Tag.ok]using IZ
  have e:ts[t]? = some ts[t]:=List.getElem?_eq_getElem hY
  simp only[Tag.ey,e]at h
  obtain⟨h1,h2⟩:=h
  refine⟨by omega,fun n hn=>?_⟩
  rw[ht t _ e]at hn
  rw[lU t _ e]
  exact h2 n hn
theorem RD.Ku (hG:M0.G=M.G) (rU : ∀ (i:Nat) o,os[i]? = some o→M0.loc i=M.loc o) (rp:s0.az.length=os.length)
 (lU : ∀ (i:Nat) t,ts[i]? = some t→M0.be i=M.be t) (ht : ∀ (i t:Nat),ts[i]? = some t→s0.aD[i]? = s.aD[t]?) (hlen:s0.aD.length=ts.length) {d:D} {v:Value} (h:RD M s d v) :
 ∀ d0:D,d0.ey os ts=d→d0.ok os.length ts.length=true→RD M0 s0 d0 v:=by
 have pj : ∀ (i:Nat) o,os[i]? = some o→M0.mu i=M.mu o:=fun i o h=>congrArg Prod.fst (rU i o h)
 have tag:=fun {g z len cap base}=>@jE.Ku M M0 s s0 ts lU ht hlen g z len cap base
 induction h with
 | junk v=>
  intro d0 e ok
  cases d0<;>simp only[D.ey]at e<;>try (cases e;done)
  ·exact .junk v
  ·rename_i o off
   have hY:o<os.length:=by simpa[D.ok]using ok
   rw[List.getElem?_eq_getElem hY]at e;cases e
  ·rename_i T o
   have hY:o<os.length:=by simpa[D.ok]using ok
   rw[List.getElem?_eq_getElem hY]at e;cases e
  ·rename_i o
   have hY:o<os.length:=by simpa[D.ok]using ok
   rw[List.getElem?_eq_getElem hY]at e;cases e
  ·rename_i z o g len
   have hY:o<os.length:=by simpa[D.ok]using ok
   rw[List.getElem?_eq_getElem hY]at e;cases e
  ·rename_i o g off
   have hY:o<os.length:=by simpa[D.ok]using ok
   rw[List.getElem?_eq_getElem hY]at e;cases e
 |kQ z a=>intro d0 e ok;cases d0<;>simp only[D.ey]at e<;>first|(cases e;exact .kQ _ _)|(split at e<;>cases e)|cases e
 |kZ z o g len b cap A ho hm ha hl=>
  intro d0 e ok
  cases d0<;>simp only[D.ey]at e<;>first|(cases e;done)|skip
  all_goals try (split at e<;>cases e;done)
  rename_i z0 o0 g0 adW
  have hY:o0<os.length:=by simpa[D.ok]using ok
  rw[List.getElem?_eq_getElem hY]at e
  cases e
  exact RD.kZ (s:=s0) z o0 g len b cap A (by omega) ((congrArg Prod.snd (rU o0 _ (List.getElem?_eq_getElem hY))).trans hm) ha hl
 |jL z o g off b cap A ho hm ha=>
  intro d0 e ok
  cases d0<;>simp only[D.ey]at e<;>first|(cases e;done)|skip
  all_goals try (split at e<;>cases e;done)
  rename_i o0 g0 WM
  have hY:o0<os.length:=by simpa[D.ok]using ok
  rw[List.getElem?_eq_getElem hY]at e
  cases e
  exact RD.jL (s:=s0) z o0 g off b cap A (by omega) ((congrArg Prod.snd (rU o0 _ (List.getElem?_eq_getElem hY))).trans hm) ha
 |val v hv=>intro d0 e ok;cases d0<;>simp only[D.ey]at e<;>first|(cases e;exact .val _ hv)|(split at e<;>cases e)|cases e
 |gy T o v ho ht hv=>
  intro d0 e ok
  cases d0<;>simp only[D.ey]at e<;>first|(split at e<;>cases e;done)|skip
  all_goals try (cases e;done)
  rename_i T0 o0
  have hY:o0<os.length:=by simpa[D.ok]using ok
  rw[List.getElem?_eq_getElem hY]at e
  cases e
  have hl:=rU o0 _ (List.getElem?_eq_getElem hY)
  exact .gy _ o0 v (by omega) ((congrArg (fun x=>x.2.ty?) hl).trans ht) (by rw[pj o0 _ (List.getElem?_eq_getElem hY)];exact hv)
 |int k x=>intro d0 e ok;cases d0<;>simp only[D.ey]at e<;>first|(cases e;exact .int _ _)|(split at e<;>cases e)|cases e
 |bool b=>intro d0 e ok;cases d0<;>simp only[D.ey]at e<;>first|(cases e;exact .bool _)|(split at e<;>cases e)|cases e
 |str l=>intro d0 e ok;cases d0<;>simp only[D.ey]at e<;>first|(cases e;exact .str _)|(split at e<;>cases e)|cases e
 |fS=>intro d0 e ok;cases d0<;>simp only[D.ey]at e<;>first|(cases e;exact .fS)|(split at e<;>cases e)|cases e
 |iI o ho hm=>
  intro d0 e ok
  cases d0<;>simp only[D.ey]at e<;>first|(cases e;done)|skip
  all_goals try (split at e<;>cases e;done)
  rename_i o0
  have hY:o0<os.length:=by simpa[D.ok]using ok
  rw[List.getElem?_eq_getElem hY]at e
  cases e
  rw[← pj o0 _ (List.getElem?_eq_getElem hY)]
  exact RD.iI (s:=s0) o0 (by omega) ((congrArg Prod.snd (rU o0 _ (List.getElem?_eq_getElem hY))).trans hm)
 |iK f ds vs hl _ ih=>
  intro d0 e ok
  cases d0<;>simp only[D.ey]at e<;>first|(split at e<;>cases e;done)|skip
  all_goals try (cases e;done)
  rename_i f0 TC
  simp only[D.iK.injEq]at e
  obtain⟨rfl,rfl⟩:=e
  simp only[D.ok]at ok
  rw[gD]at hl ih
  refine .iK _ TC vs (by simpa using hl) (fun i d v e1 e2=>ih i _ v (by rw[List.getElem?_map,e1];rfl) e2 d rfl (xl ok e1))
 |ptr o off ho hm=>
  intro d0 e ok
  cases d0<;>simp only[D.ey]at e<;>first|(cases e;done)|skip
  all_goals try (split at e<;>cases e;done)
  rename_i o0 WM
  have hY:o0<os.length:=by simpa[D.ok]using ok
  rw[List.getElem?_eq_getElem hY]at e
  cases e
  rw[← pj o0 _ (List.getElem?_eq_getElem hY)]
  exact RD.ptr (s:=s0) o0 _ (by omega) (by rw[show M0.ob o0=_ from congrArg Prod.snd (rU o0 _ (List.getElem?_eq_getElem hY))];exact hm)
 |eJ row off b k h1 h2 ih=>
  intro d0 e ok
  cases d0<;>simp only[D.ey]at e<;>first|(split at e<;>cases e;done)|skip
  all_goals try (cases e;done)
  rename_i akQ WM
  simp only[D.eJ.injEq]at e
  obtain⟨rfl,rfl⟩:=e
  simp only[D.ok]at ok
  rw[gD]at h1 ih
  refine .eJ akQ WM b k (fun i d e=>?_) (fun i d u e eu=>?_)
  ·rw[hG];exact h1 i _ (by rw[List.getElem?_map,e];rfl)
  ·rw[hG]at eu;exact ih i _ u (by rw[List.getElem?_map,e];rfl) eu d rfl (xl ok e)
 |kR g z cap hc q6=>
  intro d0 e ok
  cases d0<;>simp only[D.ey]at e<;>first|(split at e<;>cases e;done)|skip
  all_goals try (cases e;done)
  rename_i g0 z0 wB
  simp only[D.slice.injEq]at e
  obtain⟨rfl,rfl,e⟩:=e
  have:wB = []:=by cases wB<;>simp[D.vI]at e;rfl
  subst this
  simp only[D.ok,Bool.and_eq_true]at ok
  exact .kR g0 z0 cap hc (tag ok.1 q6)
 | oV z a cap=>
  intro d0 e ok
  cases d0<;>simp only[D.ey]at e<;>first|(split at e<;>cases e;done)|skip
  all_goals try (cases e;done)
  rename_i g0 z0 wB
  simp only[D.slice.injEq]at e
  obtain⟨hg,rfl,e⟩:=e
  have:wB = []:=by cases wB<;>simp[D.vI]at e;rfl
  subst this
  simp only[D.ok,Bool.and_eq_true]at ok
  have:g0 = .shared:=by
   cases g0 with
   |tok t y=>
    have ht:t<ts.length:=by simpa[Tag.ok]using ok.1
    simp[Tag.ey,ht]at hg
   |shared=>rfl
   |_=>simp[Tag.ey]at hg
  subst this
  exact .oV _ a cap
 | slice g z rows b k cap hl hs h1 h2 q6 ih=>
  intro d0 e ok
  cases d0<;>simp only[D.ey]at e<;>first|(split at e<;>cases e;done)|skip
  all_goals try (cases e;done)
  rename_i g0 z0 wB
  simp only[D.slice.injEq]at e
  obtain⟨rfl,rfl,rfl⟩:=e
  simp only[D.ok,Bool.and_eq_true]at ok
  rw[DP]at hl hs h1 ih q6
  simp only[DP,List.length_map]at hl q6 ⊢
  have eO : ∀ (i:Nat) (row:List D),wB[i]? = some row→(wB.map (D.iu os ts))[i]? = some (D.iu os ts row):=fun i row e=>by rw[List.getElem?_map,e];rfl
  have yl : ∀ (row:List D) (j:Nat) (d:D),row[j]? = some d→(D.iu os ts row)[j]? = some (D.ey os ts d):=fun row j d e=>by rw[gD,List.getElem?_map,e];rfl
  refine .slice g0 z0 wB b k cap hl (fun row hr=>?_) (fun i row j d e1 e2=>?_) (fun i row j d u e1 e2 eu=>?_) (tag ok.1 q6)
  ·have:=hs (D.iu os ts row) (List.mem_map.2 ⟨row,hr,rfl⟩)
   rwa [gD,List.length_map]at this
  ·rw[hG];exact h1 i _ j _ (eO i row e1) (yl row j d e2)
  ·rw[hG]at eu;exact ih i _ j _ u (eO i row e1) (yl row j d e2) eu d rfl (xl (abh ok.2 e1) e2)
 |agg cells vs hl h1 _ ih=>
  intro d0 e ok
  cases d0<;>simp only[D.ey]at e<;>first|(split at e<;>cases e;done)|skip
  all_goals try (cases e;done)
  rename_i TC
  simp only[D.agg.injEq]at e
  subst e
  simp only[D.ok]at ok
  rw[gD]at hl ih
  refine .agg TC vs (by simpa using hl) h1 (fun i d v e1 e2=>ih i _ v (by rw[List.getElem?_map,e1];rfl) e2 d rfl (xl ok e1))
 |tuple ds vs hl _ ih=>
  intro d0 e ok
  cases d0<;>simp only[D.ey]at e<;>first|(split at e<;>cases e;done)|skip
  all_goals try (cases e;done)
  rename_i TC
  simp only[D.tuple.injEq]at e
  subst e
  simp only[D.ok]at ok
  rw[gD]at hl ih
  refine .tuple TC vs (by simpa using hl) (fun i d v e1 e2=>ih i _ v (by rw[List.getElem?_map,e1];rfl) e2 d rfl (xl ok e1))
theorem RD.ey (hG:M0.G=M.G) (rU : ∀ i,i<s0.az.length→∃ o,os[i]? = some o∧o<s.az.length∧M.loc o=M0.loc i)
 (lU : ∀ i,i<s0.aD.length→∃ t,ts[i]? = some t∧t<s.aD.length∧s.aD[t]? = s0.aD[i]? ∧M.be t=M0.be i) {d:D} {v:Value} (h:RD M0 s0 d v):RD M s (d.ey os ts) v:=by
 have tag : ∀ {g:Tag} {z len cap:Nat} {base:Option (Nat×Nat)},jE M0 s0 g z len base cap→jE M s (g.ey ts) z len base cap:=by
  intro g z len cap base h
  cases g with
  |full=>exact h
  |shared=>exact h
  |tok t y=>
   obtain⟨h1,h2⟩:=h
   obtain⟨t',e,hY,Er,hb⟩:=lU t h1
   simp only[Tag.ey,e]
   refine⟨hY,fun n hn=>?_⟩
   rw[hb]
   exact h2 n (Er ▸ hn)
 induction h with
 |junk v=>simp only[D.ey];exact .junk v
 |int k x=>simp only[D.ey];exact .int k x
 |bool b=>simp only[D.ey];exact .bool b
 |str l=>simp only[D.ey];exact .str l
 |fS=>simp only[D.ey];exact .fS
 |ptr o off ho hk=>
  obtain⟨o',e,hY,hm⟩:=rU o ho
  simp only[D.ey,e]
  have hb:M.ob o'=M0.ob o:=congrArg Prod.snd hm
  have hm:M.mu o'=M0.mu o:=congrArg Prod.fst hm
  rw[← hm]
  exact .ptr o' off hY (by rw[hb];exact hk)
 |iI o ho hk=>
  obtain⟨o',e,hY,hm⟩:=rU o ho
  simp only[D.ey,e]
  have hb:M.ob o'=M0.ob o:=congrArg Prod.snd hm
  have hm:M.mu o'=M0.mu o:=congrArg Prod.fst hm
  rw[← hm]
  exact .iI o' hY (by rw[hb];exact hk)
 |kQ z a=>simp only[D.ey];exact .kQ z a
 |kZ z o g len b cap A ho hk ha hl=>
  obtain⟨o',e,hY,hm⟩:=rU o ho
  simp only[D.ey,e]
  exact .kZ z o' g len b cap A hY ((congrArg Prod.snd hm).trans hk) ha hl
 |jL z o g off b cap A ho hk ha=>
  obtain⟨o',e,hY,hm⟩:=rU o ho
  simp only[D.ey,e]
  exact .jL z o' g off b cap A hY ((congrArg Prod.snd hm).trans hk) ha
 |iK f ds vs hl _ ih=>
  simp only[D.ey,gD]
  refine .iK f _ vs (by simpa using hl) (fun i d v e1 e2=>?_)
  simp only[List.getElem?_map,Option.map_eq_some_iff]at e1
  obtain⟨d',e1,rfl⟩:=e1
  exact ih i d' v e1 e2
 |val v hv=>simp only[D.ey];exact .val v hv
 |gy T o v ho ht hv=>
  obtain⟨o',e,hY,hm⟩:=rU o ho
  simp only[D.ey,e]
  have h1:M.mu o'=M0.mu o:=congrArg Prod.fst hm
  have h2:M.ty o'=M0.ty o:=congrArg (fun x=>x.2.ty?) hm
  exact .gy T o' v hY (by rw[h2];exact ht) (by rw[h1];exact hv)
 | eJ row off b k h1 h2 ih=>
  simp only[D.ey,gD]
  refine .eJ _ off b k (fun i d e=>?_) (fun i d u e eu=>?_)
  ·simp only [List.getElem?_map,Option.map_eq_some_iff]at e
   obtain⟨d',e,rfl⟩:=e
   rw[← hG];exact h1 i d' e
  ·simp only [List.getElem?_map,Option.map_eq_some_iff]at e
   obtain⟨d',e,rfl⟩:=e
   rw[← hG]at eu;exact ih i d' u e eu
 |kR g z cap hc ht=>simp only[D.ey,D.vI];exact .kR _ z cap hc (tag ht)
 |oV z a cap=>simp only[D.ey,D.vI,Tag.ey];exact .oV z a cap
 | slice g z rows b k cap hl hs h1 h2 ht ih=>
  simp only[D.ey,DP]
  have hlen:(rows.map (D.iu os ts)).length=rows.length:=by simp
  have key:=RD.slice (M:=M) (s:=s) (g.ey ts) z (rows.map (D.iu os ts)) b k cap (by rw[hlen];exact hl) (fun row hr=>by
   obtain⟨l6,h',rfl⟩:=List.mem_map.1 hr
   rw[gD,List.length_map];exact hs l6 h')
   (fun i row j d e1 e2=>by
    simp only[List.getElem?_map,Option.map_eq_some_iff]at e1
    obtain⟨l6,e1,rfl⟩:=e1
    rw[gD]at e2
    simp only[List.getElem?_map,Option.map_eq_some_iff]at e2
    obtain⟨d',e2,rfl⟩:=e2
    rw[← hG];exact h1 i l6 j d' e1 e2)
   (fun i row j d u e1 e2 eu=>by
    simp only[List.getElem?_map,Option.map_eq_some_iff]at e1
    obtain⟨l6,e1,rfl⟩:=e1
    rw[gD]at e2
    simp only[List.getElem?_map,Option.map_eq_some_iff]at e2
    obtain⟨d',e2,rfl⟩:=e2
    rw[← hG]at eu;exact ih i l6 j d' u e1 e2 eu)
   (by rw[hlen];exact tag ht)
  rw[hlen]at key
  exact key
 |agg cells vs hl h1 _ ih=>
  simp only[D.ey,gD]
  refine .agg _ vs (by simpa using hl) h1 (fun i d v e1 e2=>?_)
  simp only[List.getElem?_map,Option.map_eq_some_iff]at e1
  obtain⟨d',e1,rfl⟩:=e1
  exact ih i d' v e1 e2
 |tuple ds vs hl _ ih=>
  simp only[D.ey,gD]
  refine .tuple _ vs (by simpa using hl) (fun i d v e1 e2=>?_)
  simp only[List.getElem?_map,Option.map_eq_some_iff]at e1
  obtain⟨d',e1,rfl⟩:=e1
  exact ih i d' v e1 e2
def lK {α:Type} : List Nat→List α→List α→List α
 | [],new,l=>l++new
 |_::_,[],l=>l
 |o::os,x::xs,l=>lK os xs (l.set o x)
def lF (os:List Nat) (n k:Nat):List Nat:=os++(List.range k).map (n + ·)
theorem zj {α:Type} : ∀ (os:List Nat) (xs l:List α),os.length≤xs.length→(lK os xs l).length=l.length+(xs.length - os.length)
 | [],xs,l,_=>by simp[lK]
 |o::os,[],l,h=>by simp at h
 |o::os,x::xs,l,h=>by
  simp only[lK]
  rw[zj os xs _ (by simpa using h)]
  simp
theorem E4 {α:Type} : ∀ (os:List Nat) (xs l:List α),os.length≤xs.length→os.Nodup→(∀ o∈os,o<l.length)→
 (∀ (i:Nat) (o:Nat),os[i]? = some o→(lK os xs l)[o]? = xs[i]?)∧(∀ o,o<l.length→o∉os→(lK os xs l)[o]? = l[o]?)∧
 (∀ k,(lK os xs l)[l.length+k]? = xs[os.length+k]?)
 | [],xs,l,_,_,_=>by
  refine⟨by simp,fun o ho _=>by simp only[lK];rw[List.getElem?_append_left ho],fun k=>by simp only[lK];rw[List.getElem?_append_right (by omega)];simp⟩
 |o::os,[],l,h,_,_=>by simp at h
 | o::os,x::xs,l,h,hn,hY=>by
  simp only[List.nodup_cons]at hn
  have Eu : ∀ q∈os,q<(l.set o x).length:=fun q hq=>by simpa using hY q (by simp[hq])
  obtain⟨h1,h2,h3⟩:=E4 os xs (l.set o x) (by simpa using h) hn.2 Eu
  have ho:o<l.length:=hY o (by simp)
  simp only[lK]
  refine⟨fun i q e=>?_,fun q hq iQ=>?_,fun k=>?_⟩
  ·cases i with
   |zero=>
    simp only[List.getElem?_cons_zero,Option.some.injEq]at e
    subst e
    rw[h2 o (by simpa using ho) hn.1]
    simp[ho]
   |succ i=>simpa using h1 i q (by simpa using e)
  ·have xi:q≠o:=fun e=>iQ (by simp [e])
   rw[h2 q (by simpa using hq) (fun h=>iQ (by simp[h])),List.getElem?_set_ne (Ne.symm xi)]
  ·have:=h3 k
   simp only[List.length_set]at this
   rw[this]
   simp only[List.length_cons]
   rw[show os.length+1+k=(os.length+k)+1 by omega];simp
theorem Ev (os:List Nat) (n k i:Nat):(lF os n k)[i]? = if i<os.length then os[i]? else if i<os.length+k then some (n+(i - os.length))else none:=by
 unfold lF
 split
 ·rename_i h;rw[List.getElem?_append_left h]
 ·rename_i h
  rw[List.getElem?_append_right (by omega)]
  split
  ·rename_i h2
   rw[List.getElem?_map,List.getElem?_range (by omega)];rfl
  ·rename_i h2
   rw[List.getElem?_eq_none]
   simp;omega
def posOf:List Nat→Nat→Option Nat
 | [],_=>none
 |x::r,o=>if x=o then some 0 else(posOf r o).map (· + 1)
theorem jG : ∀ {l:List Nat} {o i:Nat},posOf l o=some i→l[i]? = some o
 | x::r,o,i,h=>by
  simp only[posOf]at h
  split at h
  ·rename_i e;cases h;simp[e]
  ·cases hp:posOf r o with
   |none=>rw[hp]at h;cases h
   |some j=>rw[hp]at h;cases h;simpa using jG hp
theorem nE : ∀ {l:List Nat} {o i:Nat},l.Nodup→l[i]? = some o→posOf l o=some i
 | x::r,o,i,hn,h=>by
  simp only[List.nodup_cons]at hn
  simp only[posOf]
  cases i with
  |zero=>simp at h;simp[h]
  |succ i=>
   simp at h
   have:x≠o:=fun e=>hn.1 (by rw[e];exact List.mem_of_getElem? h)
   rw[if_neg this,nE hn.2 h];rfl
end
end Go.Abs
namespace Go.Abs
theorem B1 {l:List Nat} {n k:Nat} (h:l.Nodup) (hl : ∀ o∈l,o<n):(lF l n k).Nodup:=by
 unfold lF
 rw[List.nodup_append]
 refine⟨h, ?_,fun a ha b hb=>?_⟩
 ·rw [List.nodup_iff_pairwise_ne,List.pairwise_map]
  exact List.Pairwise.imp (fun h=>by omega) (List.nodup_iff_pairwise_ne.1 List.nodup_range)
 ·obtain⟨c,hc,rfl⟩:=List.mem_map.1 hb
  have:=hl a ha
  omega
def lV (M:Map) (os ts:List Nat):Map:=⟨M.G,fun i=>M.loc (os.getD i 0),fun i=>M.be (ts.getD i 0)⟩
def zY (M M0:Map) (os ts:List Nat):Map:=
 ⟨M0.G,fun o=>match posOf os o with|some i=>M0.loc i|none=>M.loc o,fun t=>match posOf ts t with|some i=>M0.be i|none=>M.be t⟩
section
variable {P:Program} {M:Map} {s s0:St} {w:World} {os ts:List Nat}
theorem DQ {l:List Nat} {i o:Nat} (h:l[i]? = some o):l.getD i 0=o:=by simp[List.getD,h]
theorem Rel.sub (r:Rel M s w) (I0:os.Nodup) (OZ:ts.Nodup) (rp : ∀ o∈os,o<s.az.length)
 (ho:s0.az.length=os.length) (WN : ∀ (i o:Nat) (ds:List D),os[i]? = some o→s0.az[i]? = some ds→s.az[o]? = some (D.iu os ts ds)∧D.bN os.length ts.length ds=true)
 (ht:s0.aD.length=ts.length) (vD : ∀ (i t:Nat),ts[i]? = some t→s0.aD[i]? = s.aD[t]?):Rel (lV M os ts) s0 w:=by
 have nth : ∀ i,i<s0.az.length→∃ o,os[i]? = some o∧o<s.az.length:=fun i hi=>⟨os[i],List.getElem?_eq_getElem (by omega),rp _ (List.getElem_mem _)⟩
 have loc : ∀ (i:Nat) o,os[i]? = some o→(lV M os ts).loc i=M.loc o:=fun i o h=>by simp only[lV,DQ h]
 have mu : ∀ (i:Nat) o,os[i]? = some o→(lV M os ts).mu i=M.mu o:=fun i o h=>congrArg Prod.fst (loc i o h)
 have be : ∀ (i:Nat) t,ts[i]? = some t→(lV M os ts).be i=M.be t:=fun i t h=>by simp only[lV,DQ h]
 have ZI : ∀ t,s0.live t→∃ t',ts[t]? = some t'∧s.live t':=fun t ⟨n,hn⟩=>by
  have hY:=(List.getElem?_eq_some_iff.1 hn).1
  have e:ts[t]? = some ts[t]:=List.getElem?_eq_getElem (by omega)
  exact⟨_,e,n,by rw[← vD t _ e];exact hn⟩
 refine⟨r.comm,fun i ds e=>?_,fun i hi off=>?_,fun i i' hi jd e=>?_,fun t n e=>?_,fun t b c z i hl e hi=>?_,fun t t' b c z c' z' h h' e e'=>?_⟩
 ·obtain⟨o,h1,_⟩:=nth i (List.getElem?_eq_some_iff.1 e).1
  obtain⟨h2,h3⟩:=WN i o ds h1 e
  obtain⟨vs,T,g1,g2,g3,g4⟩:=r.obj o _ h2
  refine⟨vs,T,by rw[loc i o h1];exact g1,by rw[gD]at g2;simpa using g2,⟨g3.1,by rw[show(lV M os ts).ty i=M.ty o from congrArg (fun x=>x.2.ty?) (loc i o h1)];exact g3.2⟩,fun j d v e1 e2=>?_⟩
  exact RD.Ku (M:=M) (M0:=lV M os ts) (s:=s) rfl loc ho be vD ht (g4 j (d.ey os ts) v (by rw[gD,List.getElem?_map,e1];rfl) e2) d rfl (xl h3 e1)
 ·obtain⟨o,h1,h2⟩:=nth i hi
  rw[mu i o h1];exact r.lj o h2 off
 ·obtain⟨o,h1,h2⟩:=nth i hi
  obtain⟨o',lW,zZ⟩:=nth i' jd
  rw[mu i o h1,mu i' o' lW]at e
  have:=r.inj o o' h2 zZ e
  subst this
  have a:=nE I0 h1
  have b:=nE I0 lW
  rw[a]at b;cases b;rfl
 ·obtain⟨t',h1,h2⟩:=ZI t ⟨n,e⟩
  rw[be t t' h1]
  exact r.tok t' n (by rw[← vD t t' h1];exact e)
 ·obtain⟨t',h1,h2⟩:=ZI t hl
  obtain⟨o,h3,h4⟩:=nth i hi
  rw[be t t' h1]at e
  rw[mu i o h3]
  exact r.fG t' b c z o h2 e h4
 ·obtain⟨q,h1,h2⟩:=ZI t h
  obtain⟨q',lW,zZ⟩:=ZI t' h'
  rw[be t q h1]at e
  rw[be t' q' lW]at e'
  have:=r.gQ q q' b c z c' z' h2 zZ e e'
  subst this
  have a:=nE OZ h1
  have b:=nE OZ lW
  rw[a]at b;cases b;rfl
end
def St.back (s:St) (os ts:List Nat) (s':St):St:=
 ⟨lK os (s'.az.map (D.iu (lF os s.az.length (s'.az.length - os.length)) (lF ts s.aD.length (s'.aD.length - ts.length)))) s.az,lK ts s'.aD s.aD⟩
def D.back (s:St) (os ts:List Nat) (s':St) (d:D):D:=
 d.ey (lF os s.az.length (s'.az.length - os.length)) (lF ts s.aD.length (s'.aD.length - ts.length))
theorem fh.frame {P:Program} {f:FuncId} {Qp args:List D} {s s0:St} {Q0 Q:D→St→Prop} (os ts:List Nat) (h:fh P f Qp s0 Q0) (I0:os.Nodup) (OZ:ts.Nodup) (rp : ∀ o∈os,o<s.az.length) (IM : ∀ t∈ts,t<s.aD.length)
 (ho:s0.az.length=os.length) (WN : ∀ (i o:Nat) (ds:List D),os[i]? = some o→s0.az[i]? = some ds→s.az[o]? = some (D.iu os ts ds)∧D.bN os.length ts.length ds=true)
 (ht:s0.aD.length=ts.length) (vD : ∀ (i t:Nat),ts[i]? = some t→s0.aD[i]? = s.aD[t]?)
 (l7:args=D.iu os ts Qp) (IZ:D.bN os.length ts.length Qp=true) (k : ∀ d s',Q0 d s'→Q (d.back s os ts s') (s.back os ts s')):fh P f args s Q:=by
 intro M w ik r mY ew ha
 have r0:=r.sub I0 OZ rp ho WN ht vD
 have loc : ∀ (i:Nat) o,os[i]? = some o→(lV M os ts).loc i=M.loc o:=fun i o h=>by simp only[lV,DQ h]
 have mu : ∀ (i:Nat) o,os[i]? = some o→(lV M os ts).mu i=M.mu o:=fun i o h=>congrArg Prod.fst (loc i o h)
 have be : ∀ (i:Nat) t,ts[i]? = some t→(lV M os ts).be i=M.be t:=fun i t h=>by simp only[lV,DQ h]
 subst l7
 have adX:Laid (lV M os ts) s0 w:=by
  intro g cs hg
  obtain⟨h1,h2,h3⟩:=mY g cs hg
  refine⟨h1,fun o hY=>?_,fun t c z hl hb=>?_⟩
  ·obtain⟨o',oP⟩ : ∃ o',os[o]? = some o':=⟨_,List.getElem?_eq_getElem (by omega)⟩
   rw[mu o o' oP]
   exact h2 o' (rp o' (List.mem_of_getElem? oP))
  ·obtain⟨n,hn⟩:=hl
   have hY:=(List.getElem?_eq_some_iff.1 hn).1
   obtain⟨t',TD⟩ : ∃ t',ts[t]? = some t':=⟨_,List.getElem?_eq_getElem (by omega)⟩
   rw[be t t' TD]at hb
   exact h3 t' c z ⟨n,by rw[← vD t t' TD];exact hn⟩ hb
 have hc:=h (lV M os ts) w ik r0 adX (by rw[ew,gD,List.length_map]) (fun i d v e1 e2=>
  RD.Ku (M:=M) (M0:=lV M os ts) (s:=s) rfl loc ho be vD ht (ha i (d.ey os ts) v (by rw[gD,List.getElem?_map,e1];rfl) e2) d rfl (xl IZ e1))
 refine hc.mono ?_
 rintro en w' ⟨z6,d,v,s',rfl,hq,e,r',hv⟩
 have Lq:=e.le.n
 have Cu:=e.le.t
 generalize Qq:lF os s.az.length (s'.az.length - os.length)=nj
 generalize Qr:lF ts s.aD.length (s'.aD.length - ts.length)=qp
 have nd:nj.Nodup:=by rw[← Qq];exact B1 I0 rp
 have ndt:qp.Nodup:=by rw[← Qr];exact B1 OZ IM
 have Qs : ∀ i,nj[i]? = if i<os.length then os[i]? else if i<s'.az.length then some (s.az.length+(i - os.length))else none:=fun i=>by
  rw[← Qq,Ev];split
  ·rfl
  ·rw[show os.length+(s'.az.length - os.length)=s'.az.length by omega]
 have Qt : ∀ i,qp[i]? = if i<ts.length then ts[i]? else if i<s'.aD.length then some (s.aD.length+(i - ts.length))else none:=fun i=>by
  rw[← Qr,Ev];split
  ·rfl
  ·rw[show ts.length+(s'.aD.length - ts.length)=s'.aD.length by omega]
 have hsb:s.back os ts s' = ⟨lK os (s'.az.map (D.iu nj qp)) s.az,lK ts s'.aD s.aD⟩:=by simp only[St.back,Qq,Qr]
 have hdb:d.back s os ts s'=d.ey nj qp:=by simp only[D.back,Qq,Qr]
 have q5:=k d s' hq
 rw[hsb,hdb]at q5
 obtain⟨p1,p2,p3⟩:=E4 os (s'.az.map (D.iu nj qp)) s.az (by simp;omega) I0 rp
 obtain⟨q1,q2,q3⟩:=E4 ts s'.aD s.aD (by omega) OZ IM
 have Lv:=zj os (s'.az.map (D.iu nj qp)) s.az (by simp;omega)
 have Lw:=zj ts s'.aD s.aD (by omega)
 simp only[List.length_map]at Lv
 generalize OU:(⟨lK os (s'.az.map (D.iu nj qp)) s.az,lK ts s'.aD s.aD⟩:St)=s2 at q5
 have so:s2.az=lK os (s'.az.map (D.iu nj qp)) s.az:=by rw[← OU]
 have st:s2.aD=lK ts s'.aD s.aD:=by rw[← OU]
 -- the framed objects
 have fo : ∀ (i o:Nat),nj[i]? = some o→o<s2.az.length∧s2.az[o]? = (s'.az[i]?).map (D.iu nj qp)∧i<s'.az.length∧(i<os.length→o<s.az.length∧os[i]? = some o)∧(os.length≤i→s.az.length≤o):=by
  intro i o hi
  rw[Qs]at hi
  split at hi
  ·rename_i h1
   have hY:=rp o (List.mem_of_getElem? hi)
   refine⟨by rw[so,Lv];omega,by rw[so,p1 i o hi,List.getElem?_map],by omega,fun _=>⟨hY,hi⟩,fun h=>by omega⟩
  ·split at hi
   ·rename_i h1 h2
    cases hi
    refine⟨by rw[so,Lv];omega, ?_,h2,fun h=>by omega,fun _=>by omega⟩
    rw[so,p3,List.getElem?_map,show os.length+(i - os.length)=i by omega]
   ·cases hi
 have ft : ∀ (i t:Nat),qp[i]? = some t→t<s2.aD.length∧s2.aD[t]? = s'.aD[i]? ∧i<s'.aD.length∧(i<ts.length→t<s.aD.length∧ts[i]? = some t)∧(ts.length≤i→s.aD.length≤t):=by
  intro i t hi
  rw[Qt]at hi
  split at hi
  ·rename_i h1
   have hY:=IM t (List.mem_of_getElem? hi)
   refine⟨by rw[st,Lw];omega,by rw[st,q1 i t hi],by omega,fun _=>⟨hY,hi⟩,fun h=>by omega⟩
  ·split at hi
   ·rename_i h1 h2
    cases hi
    refine⟨by rw[st,Lw];omega, ?_,h2,fun h=>by omega,fun _=>by omega⟩
    rw[st,q3,show ts.length+(i - ts.length)=i by omega]
   ·cases hi
 -- all others
 have uo : ∀ o,o<s2.az.length→posOf nj o=none→o<s.az.length∧o∉os∧s2.az[o]? = s.az[o]? :=by
  intro o hY hp
  have qq : ∀ i,nj[i]? ≠some o:=fun i hi=>by rw[nE nd hi]at hp;cases hp
  have h1:o<s.az.length:=by
   rcases Nat.lt_or_ge o s.az.length with h|h
   ·exact h
   ·exfalso
    rw[so,Lv]at hY
    refine qq (os.length+(o - s.az.length)) ?_
    rw[Qs,if_neg (by omega),if_pos (by omega)]
    congr 1;omega
  have h2:o∉os:=fun hm=>by
   obtain⟨i,hi⟩:=List.mem_iff_getElem?.1 hm
   have rr:=(List.getElem?_eq_some_iff.1 hi).1
   exact qq i (by rw[Qs,if_pos rr];exact hi)
  exact⟨h1,h2,by rw[so,p2 o h1 h2]⟩
 have ut : ∀ t,t<s2.aD.length→posOf qp t=none→t<s.aD.length∧t∉ts∧s2.aD[t]? = s.aD[t]? :=by
  intro t hY hp
  have qq : ∀ i,qp[i]? ≠some t:=fun i hi=>by rw[nE ndt hi]at hp;cases hp
  have h1:t<s.aD.length:=by
   rcases Nat.lt_or_ge t s.aD.length with h|h
   ·exact h
   ·exfalso
    rw[st,Lw]at hY
    refine qq (ts.length+(t - s.aD.length)) ?_
    rw[Qt,if_neg (by omega),if_pos (by omega)]
    congr 1;omega
  have h2:t∉ts:=fun hm=>by
   obtain⟨i,hi⟩:=List.mem_iff_getElem?.1 hm
   have rr:=(List.getElem?_eq_some_iff.1 hi).1
   exact qq i (by rw[Qt,if_pos rr];exact hi)
  exact⟨h1,h2,by rw[st,q2 t h1 h2]⟩
 generalize TF:zY M z6 nj qp=M2
 have mG:z6.G=M2.G:=by rw[← TF];rfl
 have lo : ∀ (i o:Nat),nj[i]? = some o→M2.loc o=z6.loc i:=fun i o hi=>by rw[← TF];simp only[zY,nE nd hi]
 have ZJ : ∀ o,posOf nj o=none→M2.loc o=M.loc o:=fun o hp=>by rw[← TF];simp only[zY,hp]
 have mo : ∀ (i o:Nat),nj[i]? = some o→M2.mu o=z6.mu i:=fun i o hi=>congrArg Prod.fst (lo i o hi)
 have Ly : ∀ o,posOf nj o=none→M2.mu o=M.mu o:=fun o hp=>congrArg Prod.fst (ZJ o hp)
 have mt : ∀ (i t:Nat),qp[i]? = some t→M2.be t=z6.be i:=fun i t hi=>by rw[← TF];simp only[zY,nE ndt hi]
 have Lz : ∀ t,posOf qp t=none→M2.be t=M.be t:=fun t hp=>by rw[← TF];simp only[zY,hp]
 have le:Le M s M2 s2:=by
  refine⟨fun b o v hg=>by rw[← mG];exact e.le.G b o v hg,by rw[so,Lv];omega,fun o hY=>?_,by rw[st,Lw];omega,fun t n' hY jW=>?_⟩
  ·cases hp:posOf nj o with
   |none=>rw[ZJ o hp];exact .refl _
   | some i=>
    have hi:=jG hp
    rw[lo i o hi]
    obtain⟨_,_,_,h1,h2⟩:=fo i o hi
    have rr:i<os.length:=by
     rcases Nat.lt_or_ge i os.length with h|h
     ·exact h
     ·have:=h2 h;omega
    have h3:=e.le.loc i (by omega)
    rw[loc i o (h1 rr).2]at h3
    exact h3
  ·cases hp:posOf qp t with
   |none=>
    obtain⟨_,_,h3⟩:=ut t (by rw[st,Lw];omega) hp
    rw[h3]at jW
    exact⟨n',jW,Nat.le_refl _,fun _=>Lz t hp⟩
   | some i=>
    have hi:=jG hp
    obtain⟨_,g1,_,h1,h2⟩:=ft i t hi
    have rr:i<ts.length:=by
     rcases Nat.lt_or_ge i ts.length with h|h
     ·exact h
     ·have:=h2 h;omega
    rw[g1]at jW
    obtain⟨n,h3,h4,h5⟩:=e.le.tk i n' (by omega) jW
    refine⟨n,by rw[← vD i t (h1 rr).2];exact h3,h4,fun eq=>?_⟩
    rw[mt i t hi,h5 eq,be i t (h1 rr).2]
 have adY : ∀ {d:D} {v:Value},RD z6 s' d v→RD M2 s2 (d.ey nj qp) v:=fun hd=>RD.ey mG
  (fun i hi=>by
   obtain⟨o,ho⟩ : ∃ o,nj[i]? = some o:=by
    rw[Qs];split
    ·rename_i h1;exact⟨_,List.getElem?_eq_getElem h1⟩
    ·exact⟨_,rfl⟩
   exact⟨o,ho,(fo i o ho).1,lo i o ho⟩)
  (fun i hi=>by
   obtain⟨t,ht⟩ : ∃ t,qp[i]? = some t:=by
    rw[Qt];split
    ·rename_i h1;exact⟨_,List.getElem?_eq_getElem h1⟩
    ·exact⟨_,rfl⟩
   exact⟨t,ht,(ft i t ht).1,(ft i t ht).2.1,mt i t ht⟩) hd
 -- blocks that the callee did not know
 have Kv : ∀ i,s0.live i→∃ t,ts[i]? = some t∧s.live t:=fun i ⟨n,hn⟩=>by
  have hY:=(List.getElem?_eq_some_iff.1 hn).1
  have e1:ts[i]? = some ts[i]:=List.getElem?_eq_getElem (by omega)
  exact⟨_,e1,n,by rw[← vD i _ e1];exact hn⟩
 have Qu : ∀ b,b<w.heap.size→(∀ (i o:Nat),os[i]? = some o→M.mu o≠b)→(∀ (i t:Nat) c z,ts[i]? = some t→s.live t→M.be t≠some (b,c,z))→
  w'.heap[b]? = w.heap[b]? ∧∀ off,z6.G b off=M.G b off:=by
  intro b hb h1 h2
  refine⟨e.kept b hb (fun i hi=>?_) (fun i c z hl=>?_),fun off=>?_⟩
  ·have e1:os[i]? = some os[i]:=List.getElem?_eq_getElem (by omega)
   rw[mu i _ e1];exact h1 i _ e1
  ·obtain⟨t,e1,hY⟩:=Kv i hl
   rw[be i t e1];exact h2 i t c z e1 hY
  ·apply Classical.byContradiction
   intro eB
   rcases e.vB b off eB with h3|⟨i,c,z,hl,h3⟩
   ·omega
   ·obtain⟨t,e1,hY⟩:=Kv i hl
    rw[be i t e1]at h3
    exact h2 i t c z e1 hY h3
 have ZK : ∀ o,o<s.az.length→o∉os→w'.heap[M.mu o]? = w.heap[M.mu o]? ∧∀ off,z6.G (M.mu o) off=M.G (M.mu o) off:=fun o hY qq=>
  Qu _ (r.rK hY) (fun i o' h1 h2=>qq (by rw[← r.inj o' o (rp o' (List.mem_of_getElem? h1)) hY h2];exact List.mem_of_getElem? h1))
   (fun i t c z _ hl h2=>r.fG t _ c z o hl h2 hY rfl)
 have aho : ∀ t b c z,s.live t→t∉ts→M.be t=some (b,c,z)→w'.heap[b]? = w.heap[b]? ∧∀ off,z6.G b off=M.G b off:=fun t b c z hl qq hb=>
  Qu b (r.uw hl hb) (fun i o h1=>r.fG t b c z o hl hb (rp o (List.mem_of_getElem? h1)))
   (fun i t' c' z' h1 pw h2=>qq (by rw[r.gQ t t' b c z c' z' hl pw hb h2];exact List.mem_of_getElem? h1))
 have lv : ∀ t,s2.live t→(∃ i,qp[i]? = some t∧s'.live i)∨(posOf qp t=none∧s.live t∧t∉ts):=by
  rintro t ⟨n,hn⟩
  cases hp:posOf qp t with
  |none=>
   obtain⟨h1,h2,h3⟩:=ut t (List.getElem?_eq_some_iff.1 hn).1 hp
   exact .inr ⟨rfl,⟨n,by rw[← h3];exact hn⟩,h2⟩
  |some i=>
   have hi:=jG hp
   exact .inl ⟨i,hi,n,by rw[← (ft i t hi).2.1];exact hn⟩
 -- where a framed object lies
 have ZL : ∀ (i o:Nat),nj[i]? = some o→(o<s.az.length∧o∈os∧z6.mu i=M.mu o)∨w.heap.size≤z6.mu i:=by
  intro i o hi
  obtain⟨_,_,h1,h2,h3⟩:=fo i o hi
  rcases e.mo h1 with ⟨h4,h5⟩|h4
  ·have h:i<os.length:=by omega
   exact .inl ⟨(h2 h).1,List.mem_of_getElem? (h2 h).2,by rw[h5,mu i o (h2 h).2]⟩
  ·exact .inr h4
 have ZM : ∀ (i t b c z:Nat),qp[i]? = some t→s'.live i→z6.be i=some (b,c,z)→(s.live t∧t∈ts∧∃ c' z',M.be t=some (b,c',z'))∨w.heap.size≤b:=by
  intro i t b c z hi hl hb
  rcases e.sA i b c z hl hb with ⟨h1,c',z',h2⟩|h1
  ·obtain⟨t',e1,hY⟩:=Kv i h1
   have rr:=(List.getElem?_eq_some_iff.1 e1).1
   obtain⟨_,_,_,h3,_⟩:=ft i t hi
   have:=(h3 rr).2
   rw[e1]at this;cases this
   rw[be i _ e1]at h2
   exact .inl ⟨hY,List.mem_of_getElem? e1,c',z',h2⟩
  ·exact .inr h1
 refine⟨M2,d.ey nj qp,v,s2,rfl,q5, ?_, ?_,adY hv⟩
 ·-- Ext
  refine⟨le,fun b hb h1 h2=>?_,fun o h1 h2=>?_,fun t b c z hl hb=>?_,fun b off eB=>?_,e.size,e.os,e.tape,e.output⟩
  ·exact(Qu b hb (fun i o h3=>h1 o (rp o (List.mem_of_getElem? h3))) (fun i t c z _ hl=>h2 t c z hl)).1
  ·cases hp:posOf nj o with
   |none=>
    have:=(uo o h2 hp).1
    rcases h1 with h1|h1
    ·omega
    ·exact(h1 (Ly o hp)).elim
   | some i=>
    have hi:=jG hp
    rw[mo i o hi]at h1 ⊢
    rcases ZL i o hi with ⟨h3,_,h5⟩|h3
    ·rcases h1 with h1 | h1
     ·omega
     ·exact(h1 h5).elim
    ·exact h3
  ·rcases lv t hl with ⟨i,hi,pw⟩ | ⟨hp,pw,_⟩
   ·rw [mt i t hi]at hb
    rcases ZM i t b c z hi pw hb with ⟨h1,_,h2⟩|h1
    ·exact .inl ⟨h1,h2⟩
    ·exact .inr h1
   ·rw [Lz t hp]at hb
    exact .inl ⟨pw,c,z,hb⟩
  ·rw [← mG]at eB
   rcases e.vB b off eB with h1|⟨i,c,z,hl,hb⟩
   ·exact .inl h1
   ·obtain⟨t,e1,hY⟩:=Kv i hl
    rw[be i t e1]at hb
    exact .inr ⟨t,c,z,hY,hb⟩
 ·-- Rel
  refine⟨fun b o v hg=>r'.comm b o v (by rw[mG];exact hg),fun o ds F2=>?_,fun o hY off=>?_,fun o o' hY Eu heq=>?_,fun t n hn=>?_,fun t b c z o hl hb hY=>?_,fun t t' b c z c' z' hl pw hb tH=>?_⟩
  ·cases hp:posOf nj o with
   |some i=>
    have hi:=jG hp
    obtain⟨_,g1,_⟩:=fo i o hi
    rw[g1]at F2
    obtain⟨pW,h1,rfl⟩:=Option.map_eq_some_iff.1 F2
    obtain⟨vs,T,h2,h3,h4,h5⟩:=r'.obj i pW h1
    refine⟨vs,T,by rw[lo i o hi];exact h2,by rw[gD];simpa using h3,⟨h4.1,by rw[show M2.ty o=z6.ty i from congrArg (fun x=>x.2.ty?) (lo i o hi)];exact h4.2⟩,fun j d v e1 e2=>?_⟩
    rw[gD]at e1
    simp only[List.getElem?_map,Option.map_eq_some_iff]at e1
    obtain⟨d',e1,rfl⟩:=e1
    exact adY (h5 j d' v e1 e2)
   |none=>
    obtain⟨h1,h2,h3⟩:=uo o (List.getElem?_eq_some_iff.1 F2).1 hp
    rw[h3]at F2
    obtain⟨vs,T,g1,g2,g3,g4⟩:=r.obj o ds F2
    exact⟨vs,T,by rw[ZJ o hp];exact g1.keep (ZK o h1 h2).1,g2,⟨g3.1,by rw[show M2.ty o=M.ty o from congrArg (fun x=>x.2.ty?) (ZJ o hp)];exact g3.2⟩,fun j d v e1 e2=>(g4 j d v e1 e2).mono le⟩
  ·cases hp:posOf nj o with
   |some i=>
    have hi:=jG hp
    rw[mo i o hi, ← mG];exact r'.lj i (fo i o hi).2.2.1 off
   |none=>
    obtain⟨h1,h2,h3⟩:=uo o hY hp
    rw[Ly o hp, ← mG,(ZK o h1 h2).2 off];exact r.lj o h1 off
  ·cases hp:posOf nj o with
   | some i=>
    have hi:=jG hp
    rw[mo i o hi]at heq
    cases oe:posOf nj o' with
    |some i'=>
     have jd:=jG oe
     rw[mo i' o' jd]at heq
     have:=r'.inj i i' (fo i o hi).2.2.1 (fo i' o' jd).2.2.1 heq
     subst this
     rw[hi]at jd;cases jd;rfl
    | none=>
     obtain⟨h1,h2,_⟩:=uo o' Eu oe
     rw[Ly o' oe]at heq
     rcases ZL i o hi with ⟨h3,h4,h5⟩|h3
     ·rw [h5]at heq
      have:=r.inj o o' h3 h1 heq
      subst this;exact(h2 h4).elim
     ·have:=r.rK h1;omega
   | none=>
    obtain⟨h1,h2,_⟩:=uo o hY hp
    rw[Ly o hp]at heq
    cases oe:posOf nj o' with
    | some i'=>
     have jd:=jG oe
     rw[mo i' o' jd]at heq
     rcases ZL i' o' jd with ⟨h3,h4,h5⟩|h3
     ·rw [h5]at heq
      have:=r.inj o o' h1 h3 heq
      subst this;exact(h2 h4).elim
     ·have:=r.rK h1;omega
    |none=>
     obtain⟨lW,_,_⟩:=uo o' Eu oe
     rw[Ly o' oe]at heq
     exact r.inj o o' h1 lW heq
  ·rcases lv t ⟨n,hn⟩with ⟨i,hi,hl⟩ | ⟨hp,hl,qq⟩
   ·rw [mt i t hi, ← mG]
    exact r'.tok i n (by rw[← (ft i t hi).2.1];exact hn)
   ·obtain⟨_,_,h3⟩:=ut t (List.getElem?_eq_some_iff.1 hn).1 hp
    rw[h3]at hn
    rw[Lz t hp]
    rcases r.tok t n hn with h4|⟨b,cap,size,vs,T,g1,g2,g3,g4,g5⟩
    ·exact .inl h4
    ·obtain⟨k1,k2⟩:=aho t b cap size hl qq g1
     exact .inr ⟨b,cap,size,vs,T,g1,by rw[k1];exact g2,g3,g4,fun off ho=>by rw[← mG,k2 off];exact g5.1 off ho,g5.2⟩
  ·rcases lv t hl with ⟨i,hi,pw⟩ | ⟨hp,pw,qq⟩
   ·rw [mt i t hi]at hb
    cases LA:posOf nj o with
    |some j=>
     have hj:=jG LA
     rw[mo j o hj]
     exact r'.fG i b c z j pw hb (fo j o hj).2.2.1
    |none=>
     obtain⟨h1,h2,_⟩:=uo o hY LA
     rw[Ly o LA]
     rcases ZM i t b c z hi pw hb with ⟨h3,_,c',z',h4⟩|h3
     ·exact r.fG t b c' z' o h3 h4 h1
     ·have:=r.rK h1;omega
   ·rw [Lz t hp]at hb
    cases LA:posOf nj o with
    |some j=>
     have hj:=jG LA
     rw[mo j o hj]
     rcases ZL j o hj with ⟨h3,_,h5⟩|h3
     ·rw[h5];exact r.fG t b c z o pw hb h3
     ·have:=r.uw pw hb;omega
    |none=>
     obtain⟨h1,_,_⟩:=uo o hY LA
     rw[Ly o LA];exact r.fG t b c z o pw hb h1
  ·rcases lv t hl with ⟨i,hi,B2⟩ | ⟨hp,hY,qq⟩
   ·rw [mt i t hi]at hb
    rcases lv t' pw with ⟨i',jd,WQ⟩|⟨oe,Eu,ZN⟩
    ·rw [mt i' t' jd]at tH
     have:=r'.gQ i i' b c z c' z' B2 WQ hb tH
     subst this
     rw[hi]at jd;cases jd;rfl
    ·rw [Lz t' oe]at tH
     rcases ZM i t b c z hi B2 hb with ⟨h3,h4,c2,z2,h5⟩|h3
     ·have:=r.gQ t t' b c2 z2 c' z' h3 Eu h5 tH
      subst this;exact(ZN h4).elim
     ·have:=r.uw Eu tH;omega
   ·rw [Lz t hp]at hb
    rcases lv t' pw with ⟨i',jd,WQ⟩|⟨oe,Eu,ZN⟩
    ·rw [mt i' t' jd]at tH
     rcases ZM i' t' b c' z' jd WQ tH with ⟨h3,h4,c2,z2,h5⟩|h3
     ·have:=r.gQ t t' b c z c2 z2 hY h3 hb h5
      subst this;exact(qq h4).elim
     ·have:=r.uw hY hb;omega
    ·rw [Lz t' oe]at tH
     exact r.gQ t t' b c z c' z' hY Eu hb tH
end Go.Abs
namespace Go.Abs
def Wk (d d':D):Prop:=∀ (M:Map) (s:St) (v:Value),RD M s d v→RD M s d' v
inductive oo:List D→List D→Prop where
 |nil:oo [] []
 |cons {d d':D} {l l':List D} (h:Wk d d') (t:oo l l'):oo (d::l) (d'::l')
inductive jw:List (List D)→List (List D)→Prop where
 |nil:jw [] []
 |cons {r r':List D} {l l':List (List D)} (h:oo r r') (t:jw l l'):jw (r::l) (r'::l')
theorem Wk.refl (d:D):Wk d d:=fun _ _ _ h=>h
theorem Wk.trans {a b c:D} (h:Wk a b) (k:Wk b c):Wk a c:=fun M s v r=>k M s v (h M s v r)
theorem Wk.junk (d:D):Wk d .junk:=fun _ _ v _=> .junk v
theorem oo.refl : ∀ l,oo l l
 | []=> .nil
 |d::l=> .cons (Wk.refl d) (oo.refl l)
theorem jw.refl : ∀ l,jw l l
 | []=> .nil
 |d::l=> .cons (oo.refl d) (jw.refl l)
theorem oo.len {l l':List D} (h:oo l l'):l.length=l'.length:=by
 induction h with
 |nil=>rfl
 |cons _ _ ih=>simp[ih]
theorem jw.len {l l':List (List D)} (h:jw l l'):l.length=l'.length:=by
 induction h with
 |nil=>rfl
 |cons _ _ ih=>simp[ih]
theorem oo.get {l l':List D} (h:oo l l') : ∀ {i:Nat} {d':D},l'[i]? = some d'→∃ d,l[i]? = some d∧Wk d d':=by
 induction h with
 |nil=>intro i d' e;simp at e
 |cons hd _ ih=>
  intro i d' e
  cases i with
  |zero=>simp at e;subst e;exact⟨_,rfl,hd⟩
  |succ i=>simp at e;simpa using ih e
theorem jw.get {l l':List (List D)} (h:jw l l') : ∀ {i:Nat} {d':List D},l'[i]? = some d'→∃ d,l[i]? = some d∧oo d d':=by
 induction h with
 |nil=>intro i d' e;simp at e
 |cons hd _ ih=>
  intro i d' e
  cases i with
  |zero=>simp at e;subst e;exact⟨_,rfl,hd⟩
  |succ i=>simp at e;simpa using ih e
theorem jw.append {a a' b b':List (List D)} (h:jw a a') (k:jw b b'):jw (a++b) (a'++b'):=by
 induction h with
 |nil=>exact k
 |cons hd _ ih=>exact .cons hd ih
theorem Wk.agg {l l':List D} (h:oo l l'):Wk (.agg l) (.agg l'):=by
 intro M s v r
 cases r with
 |agg _ vs hl h1 hr=>
  refine .agg _ vs (by rw[← hl,h.len]) h1 fun i d' u e e2=>?_
  obtain⟨d,e1,hw⟩:=h.get e
  exact hw M s u (hr i d u e1 e2)
theorem Wk.tuple {l l':List D} (h:oo l l'):Wk (.tuple l) (.tuple l'):=by
 intro M s v r
 cases r with
 |tuple _ vs hl hr=>
  refine .tuple _ vs (by rw[← hl,h.len]) fun i d' u e e2=>?_
  obtain⟨d,e1,hw⟩:=h.get e
  exact hw M s u (hr i d u e1 e2)
theorem Wk.rows {g:Tag} {z:Nat} {l l':List (List D)} (h:jw l l'):Wk (.slice g z l) (.slice g z l'):=by
 intro M s v r
 cases r with
 |kR _ _ cap hc ht=>cases h;exact .kR _ _ _ hc ht
 |oV _ a cap=>cases h;exact .oV _ a cap
 | slice _ _ _ b k cap hl hs h1 h2 ht=>
  rw[h.len]
  refine .slice g z l' b k cap (by rw[← h.len];exact hl) (fun row hm=>?_) (fun i row j d e e2=>?_) (fun i row j d u e e2 eu=>?_) (by rw[← h.len];exact ht)
  ·obtain⟨i,hi,he⟩:=List.mem_iff_getElem.1 hm
   obtain⟨r0,g1,g2⟩:=h.get (i:=i) (by rw[List.getElem?_eq_getElem hi,he])
   rw[← g2.len];exact hs r0 (List.mem_of_getElem? g1)
  ·obtain⟨r0,g1,g2⟩:=h.get e
   obtain⟨d0,g3,_⟩:=g2.get e2
   exact h1 i r0 j d0 g1 g3
  ·obtain⟨r0,g1,g2⟩:=h.get e
   obtain⟨d0,g3,g4⟩:=g2.get e2
   exact g4 M s u (h2 i r0 j d0 u g1 g3 eu)
theorem Wk.shared (g:Tag) (z:Nat) (l:List (List D)):Wk (.slice g z l) (.slice .shared z l):=by
 intro M s v r
 cases r with
 |kR _ _ cap hc ht=>exact .kR _ _ _ hc trivial
 |oV _ a cap=>exact .oV _ a cap
 |slice _ _ _ b k cap hl hs h1 h2 ht=>exact .slice _ _ _ b k cap hl hs h1 h2 trivial
theorem Wk.slice {g:Tag} {z:Nat} {l l':List (List D)} (h:jw l l'):Wk (.slice g z l) (.slice .shared z l'):=(Wk.shared g z l).trans (Wk.rows h)
theorem Wk.nil (g:Tag) (z z':Nat):Wk (.slice g z []) (.slice .shared z' []):=by
 intro M s v r
 cases r with
 |kR _ _ cap hc ht=>exact .kR _ _ _ hc trivial
 |oV _ a cap=>exact .oV _ a cap
 |slice _ _ _ b k cap hl hs h1 h2 ht=>exact .slice _ _ [] b k cap hl (by simp) (by simp) (by simp) trivial
theorem Wk.akR (z z':Nat):Wk (.slice .full z []) (.slice .full z' []):=by
 intro M s v r
 cases r with
 |kR _ _ cap hc ht=>exact .kR _ _ _ hc ht
 |slice _ _ _ b k cap hl hs h1 h2 ht=>exact .slice _ _ [] b k cap hl (by simp) (by simp) (by simp) ht
theorem Rel.CR {M:Map} {s:St} {w:World} {az:List (List D)} (r:Rel M s w) (h:jw s.az az):Rel M ⟨az,s.aD⟩ w∧Le M s M ⟨az,s.aD⟩:=by
 have le:Le M s M ⟨az,s.aD⟩:=⟨fun _ _ _ h=>h,Nat.le_of_eq h.len,fun _ _=> .refl _,Nat.le_refl _,fun t n' _ e=>⟨n',e,Nat.le_refl _,fun _=>rfl⟩⟩
 have hl:=h.len
 refine⟨⟨r.comm,fun o ds e=>?_,fun o ho=>r.lj o (by rw[hl];exact ho),fun o o' ho oP=>r.inj o o' (by rw[hl];exact ho) (by rw[hl];exact oP),r.tok,
  fun t b c z o hv e ho=>r.fG t b c z o hv e (by rw[hl];exact ho),r.gQ⟩,le⟩
 obtain⟨ds0,g1,g2⟩:=h.get e
 obtain⟨vs,T,h1,h2,h3,h4⟩:=r.obj o ds0 g1
 refine⟨vs,T,h1,by rw[h2,g2.len],h3,fun i d v e1 e2=>?_⟩
 obtain⟨d0,k1,k2⟩:=g2.get e1
 exact(k2 _ _ _ (h4 i d0 v k1 e2)).mono le
theorem Rel.blank {M:Map} {s:St} {w:World} (r:Rel M s w) :
 Rel (M.fq s.aD.length none) {s with aD:=s.aD++ [some 0]} w∧Le M s (M.fq s.aD.length none) {s with aD:=s.aD++ [some 0]}:=by
 have jm : ∀ t,St.live {s with aD:=s.aD++ [some 0]} t→s.live t∨t=s.aD.length:=by
  rintro t ⟨k,hk⟩
  rcases Nat.lt_or_ge t s.aD.length with h|h
  ·rw[List.getElem?_append_left h]at hk;exact .inl ⟨k,hk⟩
  ·have:=(List.getElem?_eq_some_iff.1 hk).1
   simp at this;exact .inr (by omega)
 have hY : ∀ t,s.live t→t<s.aD.length:=fun t ⟨k,hk⟩=>(List.getElem?_eq_some_iff.1 hk).1
 have hold : ∀ t,t<s.aD.length→(M.fq s.aD.length none).be t=M.be t:=fun t h=>by simp[Map.fq];omega
 have eK:(M.fq s.aD.length none).be s.aD.length=none:=by simp[Map.fq]
 have le:Le M s (M.fq s.aD.length none) {s with aD:=s.aD++ [some 0]}:=
  ⟨fun _ _ _ h=>h,Nat.le_refl _,fun _ _=> .refl _,by simp,fun t k h e=>by
   rw[List.getElem?_append_left h]at e
   exact⟨k,e,Nat.le_refl _,fun _=>hold t h⟩⟩
 refine⟨⟨r.comm,fun o ds e=>?_,r.lj,r.inj,fun t k e=>?_,fun t b' c z o hl e oP=>?_,fun t t' b' c z c' z' h h' e e'=>?_⟩,le⟩
 ·obtain⟨gb,T',h3,h4,h5,h6⟩:=r.obj o ds e
  exact⟨gb,T',h3,h4,h5,fun i d v e1 e2=>(h6 i d v e1 e2).mono le⟩
 ·rcases Nat.lt_or_ge t s.aD.length with h | h
  ·rw [List.getElem?_append_left h]at e
   rw[hold t h];exact r.tok t k e
  ·have:=(List.getElem?_eq_some_iff.1 e).1
   simp at this
   have:t=s.aD.length:=by omega
   subst this
   simp at e;subst e
   exact .inl ⟨eK,rfl⟩
 ·rcases jm t hl with h | h
  ·rw[hold t (hY t h)]at e;exact r.fG t b' c z o h e oP
  ·subst h;rw[eK]at e;cases e
 ·rcases jm t h with h | h <;> rcases jm t' h' with h' | h'
  ·rw[hold t (hY t h)]at e;rw[hold t' (hY t' h')]at e';exact r.gQ t t' b' c z c' z' h h' e e'
  ·subst h';rw[eK]at e';cases e'
  ·subst h;rw[eK]at e;cases e
  ·omega
theorem RD.own {M:Map} {s:St} {z z':Nat} {v:Value} (h:RD M s (.slice .full z []) v):RD (M.fq s.aD.length none) {s with aD:=s.aD++ [some 0]} (.slice (.tok s.aD.length) z' []) v:=by
 have key : ∀ base:Option (Nat×Nat),jE (M.fq s.aD.length none) {s with aD:=s.aD++ [some 0]} (.tok s.aD.length) z' 0 base 0:=by
  intro base
  refine⟨by simp,fun n e=>?_⟩
  simp at e
  subst e
  exact⟨Nat.le_refl _,fun _=> .inl ⟨by simp[Map.fq],rfl,fun h=>by cases h⟩⟩
 cases h with
 |kR _ _ cap hc ht=>subst hc;exact .kR _ _ _ rfl (key none)
 |slice _ _ _ b k cap hl hs h1 h2 ht=>
  have:cap=0:=ht
  subst this
  exact .slice _ _ [] b k 0 (Nat.le_refl _) (by simp) (by simp) (by simp) (key _)
section
variable {P:Program} {B:fZ} {nt:Nat} {Q:Exit→Tm→St→Prop} {tm:Tm} {s:St}
theorem CS {M0 M:Map} {s0 s:St} {w0 w:World} (e:Ext M0 s0 w0 M s w) (le:Le M s (M.fq s.aD.length none) {s with aD:=s.aD++ [some 0]}) :
 Ext M0 s0 w0 (M.fq s.aD.length none) {s with aD:=s.aD++ [some 0]} w:=by
 refine e.trans ⟨le,fun _ _ _ _=>rfl,fun o h1 h2=>h1.elim (fun h1=>absurd h2 (Nat.not_lt.2 h1)) (fun h1=>(h1 rfl).elim),fun t b c z hl eq=>?_,fun _ _ h=>(h rfl).elim,Nat.le_refl _,rfl,rfl,rfl⟩
 obtain⟨k,hk⟩:=hl
 rcases Nat.lt_or_ge t s.aD.length with h|h
 ·refine .inl ⟨⟨k,by rw [List.getElem?_append_left h]at hk;exact hk⟩,c,z, ?_⟩
  have:(M.fq s.aD.length none).be t=M.be t:=by simp[Map.fq];omega
  rw[← this];exact eq
 ·have:=(List.getElem?_eq_some_iff.1 hk).1
  simp at this
  have:t=s.aD.length:=by omega
  subst this
  simp[Map.fq]at eq
theorem Sem.oZ {ac:AC} (t z':Nat) {z:Nat} (hw:tm.get t = .slice .full z []) (h:Sem P B nt ac Q (tm.set t (.slice (.tok s.aD.length) z' [])) {s with aD:=s.aD++ [some 0]}):Sem P B nt ac Q tm s:=by
 intro c hc act w ⟨M,e,r,ht,h1,h2⟩
 obtain⟨r',le⟩:=r.blank
 refine h c hc act w ⟨_,CS e le,r',fun k=>?_,h1,h2⟩
 rw[Tm.DL]
 split
 ·rename_i hk;subst hk;have:=ht k;rw[hw]at this;exact this.own
 ·exact(ht k).mono le
end
def aA (P:Program) (f:Nat) (args:List D) (s:St) (d:D) (s':St):Prop:=fh P f args s fun x y=>x=d∧y=s'
def jO (n m:Nat) (res:List (Nat×Option (Bool×Nat))) (d:D) (s':St):Exit→Tm→St→Prop
 | .normal,tm,s| .ret,tm,s=>∃ l,cj res tm s=some l∧Wk ((cr l).fg n m) d∧jw (s.cut n m).az s'.az∧(s.cut n m).aD=s'.aD
 |_,_,_=>False
theorem fh.CR {P:Program} {f:FuncId} {args pY:List D} {s:St} {Q:D→St→Prop} (ha:oo args pY) (h:fh P f pY s Q):fh P f args s Q:=
 fun M w ik r mY hl hr=>h M w ik r mY (by rw[hl,ha.len]) fun i d v e1 e2=>by
  obtain⟨d0,g1,g2⟩:=ha.get e1
  exact g2 _ _ _ (hr i d0 v g1 e2)
theorem fh.ZO {P:Program} {f:FuncId} {args:List D} {s:St} {Q Q':D→St→Prop} (h:fh P f args s Q) (hq : ∀ d s1,Q d s1→∃ d' s',Wk d d'∧jw s1.az s'.az∧s1.aD=s'.aD∧Q' d' s'):fh P f args s Q':=
 fun M w ik r mY hl ha=>(h M w ik r mY hl ha).mono fun _ _ ⟨M',d,v,s1,h1,h2,h3,h4,h5⟩=>by
  obtain⟨d',s',g1,g2,g3,g4⟩:=hq d s1 h2
  obtain⟨r',le⟩:=h4.CR g2
  have hs:(⟨s'.az,s1.aD⟩:St)=s':=by rw[g3]
  rw[hs]at r' le
  refine⟨M',d',v,s',h1,g4,h3.trans ⟨le,fun _ _ _ _=>rfl,fun o h1 h2=>?_,fun t b c z hl e=> .inl ⟨by obtain⟨n,hn⟩:=hl;exact⟨n,by rw[g3];exact hn⟩,c,z,e⟩,fun _ _ h=>(h rfl).elim,Nat.le_refl _,rfl,rfl,rfl⟩,r',(g1 _ _ _ h5).mono le⟩
  rw[← g2.len]at h2
  exact h1.elim (fun h1=>absurd h2 (Nat.not_lt.2 h1)) fun h1=>(h1 rfl).elim
theorem aA.intro {P:Program} {f:FuncId} {af:AF} {args:List D} {s:St} {d:D} {s':St} (h0 : ∃ fn,P.funcs[f]? = some fn∧cF P fn=some af) (hl:args.length≤af.ntmps)
 (h : ∀ B:fZ,B.s=s→Sem P B af.ntmps af.body (jO s.az.length s.aD.length af.results d s') (pX 0 args) s):aA P f args s d s':=by
 obtain⟨fn,hf,hc⟩:=h0
 refine fh.ZO (fh.intro (Q:=fun d1 s1=>Wk d1 d∧jw s1.az s'.az∧s1.aD=s'.aD) hf hc hl fun B hB=>(h B hB).mono fun e tm s1 hr=>?_) fun d1 s1 ⟨h1,h2,h3⟩=>⟨d,s',h1,h2,h3,rfl,rfl⟩
 subst hB
 cases e with
 |normal=>obtain⟨l,h1,h2,h3,h4⟩:=hr;exact⟨l,h1,_,_,Nat.le_refl _,Nat.le_refl _,h2,h3,h4⟩
 |ret=>obtain⟨l,h1,h2,h3,h4⟩:=hr;exact⟨l,h1,_,_,Nat.le_refl _,Nat.le_refl _,h2,h3,h4⟩
 |exit id=>exact hr.elim
 |goto l=>exact hr.elim
 |panic ch=>exact hr.elim
 |outgrown=>exact hr.elim
theorem aA.use {P:Program} {f:FuncId} {args:List D} {s:St} {d:D} {s':St} {Q:D→St→Prop} (h:aA P f args s d s') (hq:Q d s'):fh P f args s Q:=
 fh.mono h fun x y ⟨h1,h2⟩=>by subst h1;subst h2;exact hq
mutual
theorem tW (os ts:List Nat) : ∀ d,D.ok 0 0 d=true→D.ey os ts d=d
 | .junk,_=>by simp[D.ey]
 | .int k n,_=>by simp[D.ey]
 | .bool b,_=>by simp[D.ey]
 | .str l,_=>by simp[D.ey]
 | .fS,_=>by simp[D.ey]
 | .val v,_=>by simp[D.ey]
 | .gy T o,h=>by simp[D.ok]at h
 | .iI o,h=>by simp[D.ok]at h
 | .kZ z o g len,h=>by simp[D.ok]at h
 | .jL o g off,h=>by simp[D.ok]at h
 | .kQ z,_=>by simp[D.ey]
 | .iK f cs,h=>by
  simp only[D.ok]at h
  simp only[D.ey,fX os ts cs h]
 | .ptr o f,h=>by simp[D.ok]at h
 | .eJ r f,h=>by
  simp only[D.ok]at h
  simp only[D.ey,fX os ts r h]
 | .slice g z rows,h=>by
  simp only[D.ok,Bool.and_eq_true]at h
  simp only[D.ey,kD os ts rows h.2]
  cases g with
  |tok t y=>simp[Tag.ok]at h
  |full=>rfl
  |shared=>rfl
 | .agg cs,h=>by
  simp only[D.ok]at h
  simp only[D.ey,fX os ts cs h]
 | .tuple cs,h=>by
  simp only[D.ok]at h
  simp only[D.ey,fX os ts cs h]
theorem fX (os ts:List Nat) : ∀ l,D.bN 0 0 l=true→D.iu os ts l=l
 | [],_=>by simp[D.iu]
 |d::r,h=>by
  simp only[D.bN,Bool.and_eq_true]at h
  simp only[D.iu,tW os ts d h.1,fX os ts r h.2]
theorem kD (os ts:List Nat) : ∀ l,D.kc 0 0 l=true→D.vI os ts l=l
 | [],_=>by simp[D.vI]
 |d::r,h=>by
  simp only[D.kc,Bool.and_eq_true]at h
  simp only[D.vI,fX os ts d h.1,kD os ts r h.2]
end
mutual
theorem HO {n m n' m':Nat} (hn:n≤n') (hm:m≤m') : ∀ d,D.ok n m d=true→D.ok n' m' d=true
 | .junk,_=>rfl
 | .int k n,_=>rfl
 | .bool b,_=>rfl
 | .str l,_=>rfl
 | .fS,_=>rfl
 | .val v,_=>rfl
 | .gy T o,h=>by simp[D.ok]at h ⊢;omega
 | .iI o,h=>by simp[D.ok]at h ⊢;omega
 | .kZ z o g len,h=>by simp[D.ok]at h ⊢;omega
 | .jL o g off,h=>by simp[D.ok]at h ⊢;omega
 | .kQ z,_=>rfl
 | .iK f cs,h=>by
  simp only[D.ok]at h ⊢
  exact jf hn hm cs h
 | .ptr o f,h=>by simp only[D.ok,decide_eq_true_eq]at h ⊢;omega
 | .eJ r f,h=>by
  simp only[D.ok]at h ⊢
  exact jf hn hm r h
 | .slice g z rows,h=>by
  simp only[D.ok,Bool.and_eq_true]at h ⊢
  refine⟨?_,o6 hn hm rows h.2⟩
  cases g with
  |tok t y=>simp only[Tag.ok,decide_eq_true_eq]at h ⊢;omega
  |full=>rfl
  |shared=>rfl
 | .agg cs,h=>by
  simp only[D.ok]at h ⊢
  exact jf hn hm cs h
 | .tuple cs,h=>by
  simp only[D.ok]at h ⊢
  exact jf hn hm cs h
theorem jf {n m n' m':Nat} (hn:n≤n') (hm:m≤m') : ∀ l,D.bN n m l=true→D.bN n' m' l=true
 | [],_=>rfl
 |d::r,h=>by
  simp only[D.bN,Bool.and_eq_true]at h ⊢
  exact⟨HO hn hm d h.1,jf hn hm r h.2⟩
theorem o6 {n m n' m':Nat} (hn:n≤n') (hm:m≤m') : ∀ l,D.kc n m l=true→D.kc n' m' l=true
 | [],_=>rfl
 |d::r,h=>by
  simp only[D.kc,Bool.and_eq_true]at h ⊢
  exact⟨jf hn hm d h.1,o6 hn hm r h.2⟩
end
def S0:St:=⟨[],[]⟩
section
variable {P:Program} {f:Nat}
theorem aA.pure {args:List D} {d:D} (h:aA P f args S0 d S0) (ha:D.bN 0 0 args=true) (hd:D.ok 0 0 d=true) (s:St):aA P f args s d s:=by
 refine fh.frame [] [] h List.nodup_nil List.nodup_nil (by simp) (by simp) rfl (by simp) rfl (by simp) (by rw[fX _ _ _ ha]) ha ?_
 rintro _ _ ⟨rfl,rfl⟩
 refine⟨tW _ _ _ hd, ?_⟩
 simp[St.back,lK,S0]
theorem aA.lL {args row l6:List D} {d:D} (h:aA P f (.ptr 0 0::args) ⟨[row],[]⟩ d ⟨[l6],[]⟩) (ha:D.bN 0 0 args=true) (hr:D.bN 0 0 row=true) (Lc:D.bN 0 0 l6=true) (hd:D.ok 0 0 d=true)
 {s:St} {o:Nat} (ho:s.az[o]? = some row):aA P f (.ptr o 0::args) s d ⟨s.az.set o l6,s.aD⟩:=by
 refine fh.frame [o] [] h (by simp) List.nodup_nil (by simpa using (List.getElem?_eq_some_iff.1 ho).1) (by simp) rfl (fun i o' ds e1 e2=>?_) rfl (by simp) (by simp[D.iu,D.ey,fX _ _ _ ha])
  (by simp[D.bN,D.ok,jf (Nat.zero_le 1) (Nat.le_refl 0) _ ha]) ?_
 ·cases i with
  |zero=>simp at e1 e2;subst e1;subst e2;exact⟨by rw[fX _ _ _ hr];exact ho,jf (Nat.zero_le 1) (Nat.le_refl 0) _ hr⟩
  |succ i=>simp at e1
 ·rintro _ _ ⟨rfl,rfl⟩
  refine⟨tW _ _ _ hd, ?_⟩
  simp[St.back,lK,fX _ _ _ Lc]
end
end Go.Abs
namespace Go.Abs
theorem X.cz {x:X} {tm bU:Tm} (h : ∀ t∈x.reads,tm.get t=bU.get t):x.ev tm=x.ev bU:=by
 cases x with
 |s t=>exact h t (by simp[X.reads])
 |k d=>rfl
theorem sK {t:Nat} {x:X} : ∀ {l:List X},x∈l→t∈x.reads→t∈pg l
 | [],h,_=>by cases h
 |y::r,h,ht=>by
  simp only[pg,List.mem_append]
  rcases List.mem_cons.1 h with rfl|h
  ·exact .inl ht
  ·exact .inr (sK h ht)
theorem yu {x:Option X} {tm bU:Tm} (h : ∀ t∈Cr x,tm.get t=bU.get t):x.map (·.ev tm)=x.map (·.ev bU):=by
 cases x with
 |none=>rfl
 |some y=>simp only[Option.map_some];rw[X.cz h]
theorem Ew {o:AO} {tm bU:Tm} {s:St} (h : ∀ t∈o.reads,tm.get t=bU.get t):a8 o tm s=a8 o bU s:=by
 cases o with
 |mv x=>
  have hx:x.ev tm=x.ev bU:=X.cz fun t ht=>h t (by simp[AO.reads,ht])
  simp only[a8,hx]
 |pick c a b=>
  have hc:c.ev tm=c.ev bU:=X.cz fun t ht=>h t (by simp[AO.reads,ht])
  have ha:a.ev tm=a.ev bU:=X.cz fun t ht=>h t (by simp[AO.reads,ht])
  have hb:b.ev tm=b.ev bU:=X.cz fun t ht=>h t (by simp[AO.reads,ht])
  simp only[a8,hc,ha,hb]
 |alloc z=>
  rfl
 |uW z T=>rfl
 |Cp x T=>
  have hx:x.ev tm=x.ev bU:=X.cz fun t ht=>h t (by simp[AO.reads,ht])
  simp only[a8,hx]
 |Cq x y=>
  have hx:x.ev tm=x.ev bU:=X.cz fun t ht=>h t (by simp[AO.reads,ht])
  have hy:y.ev tm=y.ev bU:=X.cz fun t ht=>h t (by simp[AO.reads,ht])
  simp only[a8,hx,hy]
 |apps x y=>
  have hx:x.ev tm=x.ev bU:=X.cz fun t ht=>h t (by simp[AO.reads,ht])
  have hy:y.ev tm=y.ev bU:=X.cz fun t ht=>h t (by simp[AO.reads,ht])
  simp only[a8,hx,hy]
 |box x=>
  have hx:x.ev tm=x.ev bU:=X.cz fun t ht=>h t (by simp[AO.reads,ht])
  simp only[a8,hx]
 |Co x=>
  have hx:x.ev tm=x.ev bU:=X.cz fun t ht=>h t (by simp[AO.reads,ht])
  simp only[a8,hx]
 |load x g n=>
  have hx:x.ev tm=x.ev bU:=X.cz fun t ht=>h t (by simp[AO.reads,ht])
  simp only[a8,hx]
 |store p x n=>
  have hp:p.ev tm=p.ev bU:=X.cz fun t ht=>h t (by simp[AO.reads,ht])
  have hx:x.ev tm=x.ev bU:=X.cz fun t ht=>h t (by simp[AO.reads,ht])
  simp only[a8,hp,hx]
 |dN x=>
  have hx:x.ev tm=x.ev bU:=X.cz fun t ht=>h t (by simp[AO.reads,ht])
  simp only[a8,hx]
 |bin op x y=>
  have hx:x.ev tm=x.ev bU:=X.cz fun t ht=>h t (by simp[AO.reads,ht])
  have hy:y.ev tm=y.ev bU:=X.cz fun t ht=>h t (by simp[AO.reads,ht])
  simp only[a8,hx,hy]
 |BW n x y=>
  have hx:x.ev tm=x.ev bU:=X.cz fun t ht=>h t (by simp[AO.reads,ht])
  have hy:y.ev tm=y.ev bU:=X.cz fun t ht=>h t (by simp[AO.reads,ht])
  simp only[a8,hx,hy]
 |eqs n ks x y=>
  have hx:x.ev tm=x.ev bU:=X.cz fun t ht=>h t (by simp[AO.reads,ht])
  have hy:y.ev tm=y.ev bU:=X.cz fun t ht=>h t (by simp[AO.reads,ht])
  simp only[a8,hx,hy]
 |IL n x y=>
  have hx:x.ev tm=x.ev bU:=X.cz fun t ht=>h t (by simp[AO.reads,ht])
  have hy:y.ev tm=y.ev bU:=X.cz fun t ht=>h t (by simp[AO.reads,ht])
  simp only[a8,hx,hy]
 |un op x=>
  have hx:x.ev tm=x.ev bU:=X.cz fun t ht=>h t (by simp[AO.reads,ht])
  simp only[a8,hx]
 |conv k x=>
  have hx:x.ev tm=x.ev bU:=X.cz fun t ht=>h t (by simp[AO.reads,ht])
  simp only[a8,hx]
 |AX x=>
  have hx:x.ev tm=x.ev bU:=X.cz fun t ht=>h t (by simp[AO.reads,ht])
  simp only[a8,hx]
 |zO x=>
  have hx:x.ev tm=x.ev bU:=X.cz fun t ht=>h t (by simp[AO.reads,ht])
  simp only[a8,hx]
 |ah x n=>
  have hx:x.ev tm=x.ev bU:=X.cz fun t ht=>h t (by simp[AO.reads,ht])
  simp only[a8,hx]
 |uV x n g m=>
  have hx:x.ev tm=x.ev bU:=X.cz fun t ht=>h t (by simp[AO.reads,ht])
  simp only[a8,hx]
 |bE x i n=>
  have hx:x.ev tm=x.ev bU:=X.cz fun t ht=>h t (by simp[AO.reads,ht])
  have hi:i.ev tm=i.ev bU:=X.cz fun t ht=>h t (by simp[AO.reads,ht])
  simp only[a8,hx,hi]
 |qf x i=>
  have hx:x.ev tm=x.ev bU:=X.cz fun t ht=>h t (by simp[AO.reads,ht])
  have hi:i.ev tm=i.ev bU:=X.cz fun t ht=>h t (by simp[AO.reads,ht])
  simp only[a8,hx,hi]
 |ext x i=>
  have hx:x.ev tm=x.ev bU:=X.cz fun t ht=>h t (by simp[AO.reads,ht])
  simp only[a8,hx]
 |len x=>
  have hx:x.ev tm=x.ev bU:=X.cz fun t ht=>h t (by simp[AO.reads,ht])
  simp only[a8,hx]
 |nk x=>
  have hx:x.ev tm=x.ev bU:=X.cz fun t ht=>h t (by simp[AO.reads,ht])
  simp only[a8,hx]
 |app a b x y=>
  have hx:x.ev tm=x.ev bU:=X.cz fun t ht=>h t (by simp[AO.reads,ht])
  have hy:y.ev tm=y.ev bU:=X.cz fun t ht=>h t (by simp[AO.reads,ht])
  simp only[a8,hx,hy]
 |mm b x y=>
  have hx:x.ev tm=x.ev bU:=X.cz fun t ht=>h t (by simp[AO.reads,ht])
  have hy:y.ev tm=y.ev bU:=X.cz fun t ht=>h t (by simp[AO.reads,ht])
  simp only[a8,hx,hy]
 | build z ps=>
  have hp:(ps.map fun p=>(p.1,p.2.1,p.2.2.ev tm))=ps.map fun p=>(p.1,p.2.1,p.2.2.ev bU):=List.map_congr_left fun p hp=>by
   have:p.2.2.ev tm=p.2.2.ev bU:=X.cz fun t ht=>h t (by simp only[AO.reads];exact sK (List.mem_map_of_mem hp) ht)
   rw[this]
  simp only[a8,hp]
 | c9 z m n ps=>
  have hp:(ps.map fun p=>(p.1,p.2.ev tm))=ps.map fun p=>(p.1,p.2.ev bU):=List.map_congr_left fun p hp=>by
   have:p.2.ev tm=p.2.ev bU:=X.cz fun t ht=>h t (by simp only[AO.reads];exact sK (List.mem_map_of_mem hp) ht)
   rw[this]
  simp only[a8,hp]
 | w9 z m n ps=>
  have hp:(ps.map fun p=>(p.1,p.2.ev tm))=ps.map fun p=>(p.1,p.2.ev bU):=List.map_congr_left fun p hp=>by
   have:p.2.ev tm=p.2.ev bU:=X.cz fun t ht=>h t (by simp only[AO.reads];exact sK (List.mem_map_of_mem hp) ht)
   rw[this]
  simp only[a8,hp]
 |KZ n x lo hi=>
  have hx:x.ev tm=x.ev bU:=X.cz fun t ht=>h t (by simp[AO.reads,ht])
  have hl:lo.map (·.ev tm)=lo.map (·.ev bU):=yu fun t ht=>h t (by simp[AO.reads,ht])
  have hh:hi.map (·.ev tm)=hi.map (·.ev bU):=yu fun t ht=>h t (by simp[AO.reads,ht])
  simp only[a8,hx,hl,hh]
 |AY x lo hi=>
  have hx:x.ev tm=x.ev bU:=X.cz fun t ht=>h t (by simp[AO.reads,ht])
  have hl:lo.map (·.ev tm)=lo.map (·.ev bU):=yu fun t ht=>h t (by simp[AO.reads,ht])
  have hh:hi.map (·.ev tm)=hi.map (·.ev bU):=yu fun t ht=>h t (by simp[AO.reads,ht])
  simp only[a8,hx,hl,hh]
 |wx f xs=>
  have hp:(xs.map fun x=>x.ev tm)=xs.map fun x=>x.ev bU:=List.map_congr_left fun x hx=>X.cz fun t ht=>h t (by simp only[AO.reads];exact sK hx ht)
  simp only[a8,hp]
 |wy=>rfl
 |AZ m k v=>
  have hm:m.ev tm=m.ev bU:=X.cz fun t ht=>h t (by simp[AO.reads,ht])
  have hk:k.ev tm=k.ev bU:=X.cz fun t ht=>h t (by simp[AO.reads,ht])
  have hv:v.ev tm=v.ev bU:=X.cz fun t ht=>h t (by simp[AO.reads,ht])
  simp only[a8,hm,hk,hv]
 |HF a b z l c=>
  have hl:l.ev tm=l.ev bU:=X.cz fun t ht=>h t (by simp[AO.reads,ht])
  have hk:c.ev tm=c.ev bU:=X.cz fun t ht=>h t (by simp[AO.reads,ht])
  simp only[a8,hl,hk]
 |yg m k z=>
  have hm:m.ev tm=m.ev bU:=X.cz fun t ht=>h t (by simp[AO.reads,ht])
  have hk:k.ev tm=k.ev bU:=X.cz fun t ht=>h t (by simp[AO.reads,ht])
  simp only[a8,hm,hk]
theorem NT {x d:D} {agg:Bool} {size:Nat} {s s':St} (h:DI x agg size s=some (d,s')):s'=s:=by
 unfold DI at h
 (repeat' (split at h))<;>first|(cases h;rfl)|cases h
theorem NU {o:AO} (ho:iA o.kind=false) {tm:Tm} {s s':St} {d:D} (h:a8 o tm s=some (d,s')):s'=s:=by
 cases o<;>simp only[AO.kind,iA]at ho<;>first|cases ho|skip
 all_goals
  simp only[a8]at h
  first
   |(cases h;rfl)
   |(repeat' (split at h))<;>first|exact NT h|(cases h;rfl)|cases h
theorem Qv {o:AO} (ho:o.kind = .pure) {tm:Tm} {s s':St} : (a8 o tm s).map (·.1)=(a8 o tm s').map (·.1):=by
 cases o<;>simp only[AO.kind]at ho<;>first|cases ho|skip
 all_goals
  simp only[a8]
  first
   |rfl
   |(repeat' split)<;>rfl
def kL (ai:AI) (tm:Tm) (s:St):Option D:=
 match ai with
 | .op _ none o=>(a8 o tm s).map (·.1)
 | .op _ (some (t,want)) o=>
  match tm.get t with
  | .bool b=>if b=want then(a8 o tm s).map (·.1)else some (.tuple [])
  | .tuple _=>some (.tuple [])
  |_=>none
 |_=>none
def uB (P:Program) (ai:AI) (tm:Tm) (s:St) (d:D) (s':St):Prop:=
 match ai with
 | .op _ g o=>guarded g tm (a8 o tm s=some (d,s')) (d = .tuple []∧s'=s)
 | .call _ g f xs=>guarded g tm (fh P f (xs.map (·.ev tm)) s fun x y=>x=d∧y=s') (d = .tuple []∧s'=s)
 | .nil .. =>False
 | .kg .. =>False
def l8 (P:Program) (is:List AI) (K:Tm→St→Prop):List (Nat×Nat)→List St→Tm→St→Prop
 | [],_,tm,s=>K tm s
 | (q,b)::r,bK,tm,s=>
  match is[q]? with
  |none=>False
  |some ai=>
   match iA ai.kind with
   |true=>∃ d s',uB P ai tm s d s'∧l8 P is K r (s::bK) (tm.put ai.dst d) s'
   |false=>∃ d,kL ai tm s=some d∧(ai.kind = .load→∀ s'∈bK.take b,kL ai tm s'=some d)∧l8 P is K r bK (tm.put ai.dst d) s
def Tm.eqv (a b:Tm):Prop:=∀ t,a.get t=b.get t
theorem Tm.mF (tm:Tm) (dst:Option Nat) (d:D) (t:Nat):(tm.put dst d).get t=if dst=some t then d else tm.get t:=by
 cases dst with
 |none=>simp[Tm.put]
 |some u=>
  simp only[Tm.put,Tm.DL,Option.some.injEq]
  by_cases h:t=u
  ·subst h;simp
  ·rw[if_neg h,if_neg (fun e=>h e.symm)]
theorem Tm.eqv.put {a b:Tm} (h:a.eqv b) (dst:Option Nat) (d:D):(a.put dst d).eqv (b.put dst d):=fun t=>by
 rw[Tm.mF,Tm.mF,h t]
theorem Tm.LB (tm:Tm) {x y:Option Nat} (h : ∀ t,x=some t→y≠some t) (d e:D):((tm.put x d).put y e).eqv ((tm.put y e).put x d):=fun t=>by
 simp only[Tm.mF]
 by_cases h1:x=some t
 ·simp only[h1,h t h1,if_true,if_false]
 ·simp only[h1,if_false]
theorem B3 {g:Option (Nat×Bool)} {tm bU:Tm} {A A' C:Prop} (h : ∀ t∈xa g,tm.get t=bU.get t) (ha:A→A') (hh:guarded g tm A C):guarded g bU A' C:=by
 cases g with
 |none=>exact ha hh
 | some p=>
  obtain⟨t,want⟩:=p
  unfold guarded at *
  simp only at *
  rw[← h t (by simp[xa])]
  split
  ·rename_i b hb
   rw[hb]at hh
   exact⟨fun e=>ha (hh.1 e),hh.2⟩
  ·rename_i hb
   rw[hb]at hh
   exact hh
  ·rename_i x h1 h2
   split at hh
   ·exact h1 _ ‹_›
   ·exact h2 _ ‹_›
   ·exact hh
theorem I1 {tm bU:Tm} : ∀ {l:List X},(∀ t∈pg l,tm.get t=bU.get t)→l.map (·.ev tm)=l.map (·.ev bU)
 | [],_=>rfl
 |x::r,h=>by
  simp only[List.map_cons]
  rw[X.cz fun t ht=>h t (by simp[pg,ht]),I1 (l:=r) fun t ht=>h t (by simp[pg,ht])]
theorem zk {P:Program} {ai:AI} {tm bU:Tm} {s s':St} {d:D} (h : ∀ t∈ai.reads,tm.get t=bU.get t) (hh:uB P ai tm s d s'):uB P ai bU s d s':=by
 cases ai with
 |op dst g o=>
  simp only[AI.reads,List.mem_append]at h
  exact B3 (fun t ht=>h t (.inl ht)) (fun e=>by rw[← Ew fun t ht=>h t (.inr ht)];exact e) hh
 |call dst g f xs=>
  simp only[AI.reads,List.mem_append]at h
  exact B3 (fun t ht=>h t (.inl ht)) (fun e=>by rw[← I1 fun t ht=>h t (.inr ht)];exact e) hh
 |nil dst g n x=>exact hh
 |kg dst g t xs=>exact hh
theorem sh {ai:AI} {tm bU:Tm} {s:St} (h : ∀ t∈ai.reads,tm.get t=bU.get t):kL ai tm s=kL ai bU s:=by
 cases ai with
 | op dst g o=>
  simp only[AI.reads,List.mem_append]at h
  have he:=Ew (s:=s) fun t ht=>h t (.inr ht)
  cases g with
  |none=>simp only[kL,he]
  |some p=>
   obtain⟨t,want⟩:=p
   simp only[kL,he,h t (.inl (by simp[xa]))]
 |call dst g f xs=>rfl
 |nil dst g n x=>rfl
 |kg dst g t xs=>rfl
theorem O0 {dst:Option Nat} {g:Option (Nat×Bool)} {o:AO} (h:iA (AI.op dst g o).kind=false):(AI.op dst g o).kind=o.kind:=by
 unfold AI.kind at *
 split at h
 ·cases h
 ·rename_i heq;cases heq;rfl
 ·cases h
theorem WR {ai:AI} (hk:ai.kind = .pure) {tm:Tm} {s s':St} : kL ai tm s=kL ai tm s':=by
 cases ai with
 |op dst g o=>
  have ho:o.kind = .pure:=by rw[← hk];exact(O0 (by rw[hk];rfl)).symm
  have he:=Qv ho (tm:=tm) (s:=s) (s':=s')
  cases g with
  |none=>simp only[kL,he]
  |some p=>simp only[kL,he]
 |call dst g f xs=>rfl
 |nil dst g n x=>rfl
 |kg dst g t xs=>rfl
theorem apart_spec {a q:AI} (h:a.apart q=true):(∀ t,a.dst=some t→t∉q.reads)∧(∀ t,q.dst=some t→t∉a.reads)∧(∀ t,a.dst=some t→q.dst≠some t):=by
 unfold AI.apart at h
 simp only[Bool.and_eq_true]at h
 obtain⟨⟨h1,h2⟩,h3⟩:=h
 refine⟨fun t e=>?_,fun t e=>?_,fun t e e'=>?_⟩
 ·rw[e]at h1;simpa[FL]using h1
 ·rw[e]at h2;simpa[FL]using h2
 ·rw[e,e']at h3;simp at h3
theorem uC {tm:Tm} {dst:Option Nat} {d:D} {l:List Nat} (h : ∀ t,dst=some t→t∉l) : ∀ t∈l,tm.get t=(tm.put dst d).get t:=fun t ht=>by
 rw[Tm.mF,if_neg fun e=>h t e ht]
section
variable {P:Program} {is:List AI} {K:Tm→St→Prop}
theorem uD (hK : ∀ tm bU s,Tm.eqv tm bU→K tm s→K bU s) : ∀ (R:List (Nat×Nat)) (bK:List St) (tm bU:Tm) (s:St),tm.eqv bU→l8 P is K R bK tm s→l8 P is K R bK bU s
 | [],_,tm,bU,s,e,h=>hK tm bU s e h
 | (q,b)::R,bK,tm,bU,s,e,h=>by
  unfold l8 at *
  split at h
  ·exact h.elim
  ·rename_i ai yr
   split at h
   ·rename_i hc
    obtain⟨d,s',h1,h2⟩:=h
    exact⟨d,s',zk (fun t _=>e t) h1,uD hK R _ _ _ _ (e.put _ d) h2⟩
   ·rename_i hc
    obtain⟨d,h1,h2,h3⟩:=h
    refine⟨d, ?_,fun hl s' qj=>?_,uD hK R _ _ _ _ (e.put _ d) h3⟩
    ·rw[← sh fun t _=>e t];exact h1
    ·rw[← sh fun t _=>e t];exact h2 hl s' qj
theorem LC (i:Nat) (l:List Nat):kv is (i::l)=(if iA (ki is i)then 1 else 0)+kv is l:=by
 unfold kv
 rw[List.filter_cons]
 split<;>simp<;>omega
theorem zl (hK : ∀ tm bU s,Tm.eqv tm bU→K tm s→K bU s) {q b:Nat} {ai:AI} (hq:is[q]? = some ai) (hm:iA ai.kind=false) (Y:List (Nat×Nat)) :
 ∀ (X:List (Nat×Nat)) (bK:List St) (tm:Tm) (s:St),(∀ a∈X,mB is a.1 q=true)→(ai.kind = .load→kv is (X.map (·.1))≤b)→
  l8 P is K (X++(q,b)::Y) bK tm s→
  ∃ d,kL ai tm s=some d∧(ai.kind = .load→∀ s'∈bK.take (b - kv is (X.map (·.1))),kL ai tm s'=some d)∧l8 P is K (X++Y) bK (tm.put ai.dst d) s
 | [],bK,tm,s,_,_,h=>by
  simp only[List.nil_append,l8,hq,hm]at h
  obtain⟨d,h1,h2,h3⟩:=h
  exact⟨d,h1,fun hl s' qj=>h2 hl s' (by simpa[kv]using qj),h3⟩
 | (a,c)::X,bK,tm,s,hO,hb,h=>by
  have Qw:=hO (a,c) (by simp)
  unfold mB at Qw
  split at Qw
  ·rename_i ia iq hia wb
   rw[hq]at wb
   cases wb
   obtain⟨p1,p2,p3⟩:=apart_spec Qw
   have IV:ki is a=ia.kind:=by simp[ki,hia]
   have Kt : ∀ x∈X,mB is x.1 q=true:=fun x hx=>hO x (List.mem_cons_of_mem _ hx)
   rw[List.map_cons,LC,IV]at hb ⊢
   simp only[List.cons_append,l8,hia]at h ⊢
   cases hc:iA ia.kind
   ·simp only [hc,Bool.false_eq_true,if_false,Nat.zero_add]at h hb ⊢
    obtain⟨d,h1,h2,h3⟩:=h
    obtain⟨e,g1,g2,g3⟩:=zl hK hq hm Y X bK _ s Kt hb h3
    have cg : ∀ s,kL ai tm s=kL ai (tm.put ia.dst d) s:=fun s=>sh (uC p1)
    have Ey : ∀ s,kL ia tm s=kL ia (tm.put ai.dst e) s:=fun s=>sh (uC p2)
    refine⟨e,by rw[cg];exact g1,fun hl s' qj=>by rw[cg];exact g2 hl s' qj,d,by rw[← Ey];exact h1,fun hl s' qj=>by rw[← Ey];exact h2 hl s' qj, ?_⟩
    exact uD hK _ _ _ _ _ (Tm.LB tm p3 d e) g3
   ·simp only [hc,if_true]at h hb ⊢
    obtain⟨d,s1,h1,h3⟩:=h
    obtain⟨e,g1,g2,g3⟩:=zl hK hq hm Y X (s::bK) _ s1 Kt (fun hl=>by have:=hb hl;omega) h3
    have cg : ∀ s,kL ai tm s=kL ai (tm.put ia.dst d) s:=fun s=>sh (uC p1)
    have rN:kL ai tm s=some e:=by
     cases hk:ai.kind with
     |pure=>rw[cg,WR hk (s':=s1)];exact g1
     |load=>
      have:=hb hk
      rw[cg]
      refine g2 hk s ?_
      rw[show b - kv is (X.map (·.1))=(b - (1+kv is (X.map (·.1))))+1 by omega,List.take_succ_cons]
      exact List.mem_cons_self
     |alloc=>rw[hk]at hm;cases hm
     |core=>rw[hk]at hm;cases hm
    refine⟨e,rN,fun hl s' qj=>?_,d,s1,zk (uC p2) h1,uD hK _ _ _ _ _ (Tm.LB tm p3 d e) g3⟩
    have:=hb hl
    rw[cg]
    refine g2 hl s' ?_
    rw[show b - kv is (X.map (·.1))=(b - (1+kv is (X.map (·.1))))+1 by omega,List.take_succ_cons]
    exact List.mem_cons_of_mem _ qj
  ·cases Qw
end
end Go.Abs
namespace Go.Abs
section
variable {P:Program}
theorem TH {o:Oper} {z:List D} (h:FO P o=some (.alloc z)) : ∃ t,o.op = .alloc t∧zeroOf P t=some z:=by
 obtain⟨dst,op,type,pos,after,guard⟩:=o
 unfold FO at h
 simp only at h
 split at h
 case h_4 t=>
  split at h
  ·obtain⟨z',h1,h2⟩:=map_some h;cases h2
  ·obtain⟨z',h1,h2⟩:=map_some h;cases h2;exact⟨t,rfl,h1⟩
 all_goals
  first
   |(rw[Option.map_eq_some_iff]at h;obtain⟨_,_,h⟩:=h;cases h)
   |skip
 all_goals
  (repeat' (split at h))<;>first|(cases h;done)|(rw[Option.map_eq_some_iff]at h;obtain⟨_,_,h⟩:=h;cases h)
theorem CT {nt:Nat} {ops:Array Oper} {o:Oper} {ai:AI} (h:cI P nt ops o=some ai) :
 ∃ g,xb ops o.guard=some g∧(∀ t,o.dst=some t→t<nt)∧uv P ops o g=some ai:=by
 have h2:=zX h
 unfold cI at h
 split at h
 ·cases h
 ·rename_i g hg
  split at h
  ·exact⟨g,hg,h2,h⟩
  ·cases h
theorem vd {ops:Array Oper} {o:Oper} {g:Option (Nat×Bool)} {ai:AI} (h:uv P ops o g=some ai):ai.dst=o.dst:=by
 unfold uv at h
 split at h
 ·split at h
  ·obtain⟨xs,_,rfl⟩:=map_some h;rfl
  ·cases h
 ·obtain⟨xs,_,rfl⟩:=map_some h;rfl
 ·split at h
  ·cases h;rfl
  ·split at h
   ·cases h;rfl
   ·cases h;rfl
   ·cases h
theorem ve {nt:Nat} {ops:Array Oper} {o:Oper} {ai:AI} (h:cI P nt ops o=some ai):ai.dst=o.dst:=by
 obtain⟨g,_,_,h⟩:=CT h
 exact vd h
theorem zm {nt:Nat} {ops:Array Oper} {i:Nat} {o:Oper} {ai:AI} (hi:ops[i]? = some o) (hc:cI P nt ops o=some ai)
 {M:Map} {s:St} {w:World} {tm:Tm} {act:Act} (r:Rel M s w) (mY:Laid M s w) (ht:nA M s tm act.tmps) {K':Tm→St→Prop} (h:jK P [ai] K' tm s)
 {K:Act→World→Prop} {Q:Exit→Act→World→Prop}
 (hK : ∀ d v s1 w1 M1,K' (tm.put ai.dst d) s1→Ext M s w M1 s1 w1→Rel M1 s1 w1→RD M1 s1 d v→K (act.put o.dst v) w1):wpOp P ops Q i K act w:=by
 obtain⟨g,hg,_,hb⟩:=CT hc
 rw[vd hb]at hK
 simp only[wpOp,hi]
 have skip:K' (tm.put o.dst (.tuple [])) s→K (act.put o.dst Go.undef) w:=fun hk=>hK _ _ _ _ _ hk (Ext.refl M s w) r .undef
 unfold uv at hb
 split at hb
 ·rename_i f args px k7
  split at hb
  ·rename_i Bb
   obtain⟨xs,mO,rfl⟩:=map_some hb
   simp only[jK]at h
   rcases k8 hg ht h with ⟨hw,hA⟩|⟨hw,hB⟩
   ·simp only [hw,if_true]
    left
    have hex:(execOp act.eval o).run P w = .ok (.enter f (args.map act.eval)) w:=by
     obtain⟨dst,op,type,pos,after,guard⟩:=o
     simp only at k7
     subst k7
     exact zi act.eval dst f args px type pos after guard rfl Bb w
    obtain⟨c1,c2⟩:=yq ht mO
    unfold Oper.wp
    rw[hex,Oper.upon_enter]
    refine(hA M w (args.map act.eval) r mY (by simp[c1]) (fun i d v e1 e2=>c2 i d v e1 (by simpa using e2))).mono ?_
    rintro en w' ⟨M',d,v,s',rfl,hk,e',r',hv⟩
    exact hK _ _ _ _ _ hk e' r' hv
   ·simp only [hw]
    exact skip hB
  ·cases hb
 ·rename_i t args px k7
  obtain⟨xs,mO,rfl⟩:=map_some hb
  simp only[jK]at h
  rcases k8 hg ht h with ⟨hw,hA⟩|⟨hw,hB⟩
  ·simp only [hw,if_true]
   left
   split at hA
   ·rename_i f oU zW
    obtain⟨Bb,hA⟩:=hA
    have Ty:=ht t
    rw[zW]at Ty
    obtain⟨vs,ql,hlen,F3⟩:=Ty.OQ
    have hex:(execOp act.eval o).run P w = .ok (.enter f (args.map act.eval++vs)) w:=by
     obtain⟨dst,op,type,pos,after,guard⟩:=o
     simp only at k7
     subst k7
     exact CK act.eval dst (.tmp t) f vs args px type pos after guard ql Bb w
    have cc:=IX mO ht hlen F3
    unfold Oper.wp
    rw[hex,Oper.upon_enter]
    refine(hA M w (args.map act.eval++vs) r mY cc.1 cc.2).mono ?_
    rintro en w' ⟨M',d,v,s',rfl,hk,e',r',hv⟩
    exact hK _ _ _ _ _ hk e' r' hv
   ·exact hA.elim
  ·simp only [hw]
   exact skip hB
 ·split at hb
  ·rename_i neg x CN
   cases hb
   simp only[jK]at h
   rcases k8 hg ht h with ⟨hw,hA⟩|⟨hw,hB⟩
   ·simp only [hw,if_true]
    left
    split at hA
    ·rename_i g' z rows hx
     obtain⟨b,hb,hex⟩:=B0 (w:=w) CN ht hx
     unfold Oper.wp
     rw[hex,Oper.upon_value]
     exact hK _ _ _ _ _ (hA b hb) (Ext.refl M s w) r (.bool _)
    ·exact hA.elim
   ·simp only [hw]
    exact skip hB
  ·have fin : ∀ ao,ai = .op o.dst g ao→(∀ d s',a8 ao tm s=some (d,s')→dE P M s w (execOp act.eval o) d s')→
    (if Region.wanted o (yielded ops act.tmps)=true then o.wp P act w K Q∨(o.asks P act w∧LetsOut Q)else K (act.put o.dst Go.undef) w):=by
    intro ao yr hdo
    subst yr
    simp only[jK]at h
    rcases k8 hg ht h with ⟨hw,hA⟩|⟨hw,hB⟩
    ·simp only [hw,if_true]
     left
     split at hA
     ·rename_i d s' sf
      obtain⟨v,w',M',dt,r',hv,e'⟩:=hdo d s' sf
      unfold Oper.wp
      rcases dt with dt|⟨dt,rfl⟩
      ·rw [dt,Oper.upon_value]
       exact hK _ _ _ _ _ hA e' r' hv
      ·rw [dt,Oper.upon_skip]
       exact hK _ _ _ _ _ hA e' r' hv
     ·exact hA.elim
    ·simp only [hw]
     exact skip hB
   split at hb
   ·rename_i z k n ps py
    cases hb
    refine fin _ rfl (fun d s' sf=>?_)
    split at sf
    ·exact Ba py r ht sf
    ·exact uz py r ht sf
   ·rename_i ao py
    cases hb
    exact fin _ rfl (fun d s' sf=>uz py r ht sf)
   ·cases hb
structure O1 (M:Map) (s:St) (b:Nat):Prop where
 o : ∀ o,o<s.az.length→M.mu o≠b
 t : ∀ t c z,s.live t→M.be t≠some (b,c,z)
 g : ∀ off,M.G b off=none
theorem O1.mono {M M':Map} {s s':St} {w w':World} {b:Nat} (h:O1 M s b) (e:Ext M s w M' s' w') (hb:b<w.heap.size):O1 M' s' b:=by
 refine⟨fun o ho=>?_,fun t c z hl he=>?_,fun off=>?_⟩
 ·rcases e.mo ho with ⟨h1,h2⟩ | h1
  ·rw[h2];exact h.o o h1
  ·omega
 ·rcases e.sA t b c z hl he with ⟨h1,c',z',h2⟩ | h1
  ·exact h.t t c' z' h1 h2
  ·omega
 ·by_cases hg:M'.G b off=M.G b off
  ·rw[hg];exact h.g off
  ·rcases e.vB b off hg with h1 | ⟨t,c,z,h1,h2⟩
   ·omega
   ·exact(h.t t c z h1 h2).elim
theorem Rel.idle {M:Map} {s:St} {w:World} (r:Rel M s w) (x:Obj):Rel M s (w.alloc x)∧Ext M s w M s (w.alloc x)∧O1 M s w.heap.size:=by
 refine⟨⟨fun b o v e=>?_,fun o ds e=>?_,r.lj,r.inj,fun t n e=>?_,r.fG,r.gQ⟩, ?_,⟨fun o ho=>?_,fun t c z hl e=>?_,fun off=>r.PT (Nat.le_refl _) off⟩⟩
 ·obtain⟨h3,h4⟩:=r.comm b o v e
  refine⟨?_,h4⟩
  rw[World.cell?_alloc_lt]
  ·exact h3
  ·exact r.EU e
 ·obtain⟨vs,T,h3,h4,h5,h6⟩:=r.obj o ds e
  exact⟨vs,T,h3.keep (heap_alloc_old w _ _ h3.lt),h4,h5,h6⟩
 ·rcases r.tok t n e with h3 | ⟨b,cap,size,gb,T',h3,h4,h5⟩
  ·exact .inl h3
  ·exact .inr ⟨b,cap,size,gb,T',h3,by rw[heap_alloc_old w _ _ (l5 h4)];exact h4,h5⟩
 ·exact⟨Le.refl M s,fun b hb _ _=>heap_alloc_old w _ b hb,fun o h3 h4=>by rcases h3 with h3|h3;omega;exact(h3 rfl).elim,fun t b c z h e=> .inl ⟨h,c,z,e⟩,fun _ _ h=>(h rfl).elim,by simp,rfl,rfl,rfl⟩
 ·have:=r.rK ho;omega
 ·have:=r.uw hl e;omega
theorem Rel.ahp {M:Map} {s:St} {w:World} (r:Rel M s w) {B:fZ} (e:Ext B.M B.s B.w M s w) {b:Nat} (u:O1 M s b) (hb:B.w.heap.size≤b)
 (ds:List D) (vs:Array Value) (T:TypeId) (hh:w.heap[b]? = some (.cells vs T (0,0))) (hl:vs.size=ds.length) (h1 : ∀ v∈vs,v.oneCell'=true)
 (h2 : ∀ (i:Nat) (d:D) (v:Value),ds[i]? = some d→vs[i]? = some v→RD M s d v) :
 Rel (M.eH s.az.length b) {s with az:=s.az++ [ds]} w∧Ext B.M B.s B.w (M.eH s.az.length b) {s with az:=s.az++ [ds]} w∧
 Le M s (M.eH s.az.length b) {s with az:=s.az++ [ds]}:=by
 have le:=tP (M:=M) s b ds
 have pj : ∀ o,o<s.az.length→(M.eH s.az.length b).mu o=M.mu o:=fun o ho=>congrArg Prod.fst (uX M b .any ho)
 have eK:(M.eH s.az.length b).mu s.az.length=b:=by simp[Map.eH,Map.mu]
 refine⟨⟨r.comm,fun o pW e'=>?_,fun o ho off=>?_,fun o o' ho oP e'=>?_,r.tok,fun t b' c z o hl e' ho=>?_,r.gQ⟩, ?_,le⟩
 ·rcases Nat.lt_or_ge o s.az.length with ho | ho
  ·rw [List.getElem?_append_left ho]at e'
   obtain⟨gb,T',h3,h4,h5,h6⟩:=r.obj o pW e'
   refine⟨gb,T', ?_,h4,⟨h5.1,by rw[le.ty o ho];exact h5.2⟩,fun i d v e1 e2=>(h6 i d v e1 e2).mono le⟩
   rw[uX M b .any ho];exact h3
  ·rw [List.getElem?_append_right ho]at e'
   have:o=s.az.length:=by
    have:=(List.getElem?_eq_some_iff.1 e').1
    simp at this;omega
   subst this
   simp at e';subst e'
   refine⟨vs,T, ?_,hl,⟨h1,fun T' h=>by simp[Map.eH,Map.ty,Ob.ty?]at h⟩,fun i d v e1 e2=>(h2 i d v e1 e2).mono le⟩
   have hl:(M.eH s.az.length b).loc s.az.length=(b, .any):=by simp[Map.eH]
   rw[hl];exact jl.of hh trivial
 ·simp at ho
  rcases Nat.lt_or_ge o s.az.length with h3|h3
  ·rw[pj o h3];exact r.lj o h3 off
  ·have:o=s.az.length:=by omega
   subst this
   rw[eK];exact u.g off
 ·simp at ho oP
  rcases Nat.lt_or_ge o s.az.length with h3|h3<;>rcases Nat.lt_or_ge o' s.az.length with h4|h4
  ·rw[pj o h3,pj o' h4]at e';exact r.inj o o' h3 h4 e'
  ·have:o'=s.az.length:=by omega
   subst this
   rw[pj o h3,eK]at e'
   exact(u.o o h3 e').elim
  ·have:o=s.az.length:=by omega
   subst this
   rw[pj o' h4,eK]at e'
   exact(u.o o' h4 e'.symm).elim
  ·omega
 ·simp at ho
  rcases Nat.lt_or_ge o s.az.length with h3|h3
  ·rw[pj o h3];exact r.fG t b' c z o hl e' h3
  ·have:o=s.az.length:=by omega
   subst this
   rw[eK]
   intro he
   subst he
   exact u.t t c z hl e'
 ·refine⟨e.le.trans le,e.kept,fun o h3 h4=> ?_,e.sA,e.vB,e.size,e.os,e.tape,e.output⟩
  simp at h4
  rcases Nat.lt_or_ge o s.az.length with h5|h5
  ·rw[pj o h5]at h3 ⊢;exact e.wZ o h3 h5
  ·have:o=s.az.length:=by omega
   subst this
   rw[eK];exact hb
theorem NV {nt:Nat} {ops:Array Oper} {i:Nat} {o:Oper} {t:Nat} {z:List D} (hi:ops[i]? = some o) (hc:cI P nt ops o=some (.op (some t) none (.alloc z)))
 {w:World} {act:Act} {K:Act→World→Prop} {Q:Exit→Act→World→Prop}
 (hK : ∀ vs T,vs.size=z.length→(∀ v∈vs,v.oneCell'=true)→(∀ (M:Map) (s:St) (i:Nat) (d:D) (v:Value),z[i]? = some d→vs[i]? = some v→RD M s d v)→
  K (act.put (some t) (.pointer (some ⟨w.heap.size,0,none⟩))) (w.alloc (.cells vs T))):wpOp P ops Q i K act w:=by
 obtain⟨g,hg,_,hb⟩:=CT hc
 have rW:=vd hb
 simp only[AI.dst]at rW
 simp only[wpOp,hi]
 have k7:g=none∧FO P o=some (.alloc z):=by
  unfold uv at hb
  split at hb
  ·split at hb
   ·obtain⟨xs,_,h⟩:=map_some hb;cases h
   ·cases hb
  ·obtain⟨xs,_,h⟩:=map_some hb;cases h
  ·split at hb
   ·cases hb
   ·split at hb
    ·rename_i py
     simp only[Option.some.injEq,AI.op.injEq]at hb
     obtain⟨_,_,h⟩:=hb
     split at h<;>cases h
    ·rename_i ao py
     simp only[Option.some.injEq,AI.op.injEq]at hb
     obtain⟨_,h1,h2⟩:=hb
     subst h2
     exact⟨h1,py⟩
    ·cases hb
 obtain⟨rfl,py⟩:=k7
 obtain⟨T,hT,hz⟩:=TH py
 have hw:Region.wanted o (yielded ops act.tmps)=true:=by
  have:o.guard=none:=by
   cases IP:o.guard with
   |none=>rfl
   |some p=>
    obtain⟨j,b⟩:=p
    rw[IP]at hg
    unfold xb at hg
    simp only at hg
    split at hg<;>cases hg
  simp[Region.wanted,this]
 simp only[hw,if_true]
 left
 unfold zeroOf at hz
 split at hz
 ·rename_i inf Ql
  split at hz
  ·rename_i v hv
   split at hz
   ·have dt:(execOp act.eval o).run P w = .ok (.value (.pointer (some ⟨w.heap.size,0,none⟩))) (w.alloc (.cells v.cells T)):=by
     obtain⟨dst,op,type,pos,after,guard⟩:=o
     simp only at hT
     subst hT
     simp[execOp,Instr.alloc,zeroValue,gH P Ql,hv,newVar,newRow]
    have h3:=fun M s=>mE (M:=M) (s:=s) hz
    obtain⟨h1,h2,_⟩:=h3 ⟨fun _ _=>none,fun _=>(0, .any),fun _=>none⟩ ⟨[],[]⟩
    unfold Oper.wp
    rw[dt,Oper.upon_value, ← rW]
    exact hK _ _ (by rw[h1];simp) (fun u hu=>h2 u (by simpa using hu)) (fun M s i d u e1 e2=>(h3 M s).2.2 i d u e1 (by simpa using e2))
   ·cases hz
  ·cases hz
 ·cases hz
end
end Go.Abs
namespace Go.Abs
section
variable {is:List AI} {af pt:List (List Nat)}
theorem B4 {pq:List Nat} {l l':List Nat} (h:l'.Sublist l) (hb:mj is pq l=true):mj is pq l'=true:=by
 induction h with
 |slnil=>rfl
 |cons a h ih=>
  simp only[mj,Bool.and_eq_true]at hb
  exact ih hb.2
 |cons_cons a h ih=>
  simp only[mj,Bool.and_eq_true,Bool.or_eq_true]at hb ⊢
  refine⟨hb.1.imp id fun h1=>?_,ih hb.2⟩
  rw[List.all_eq_true]at h1 ⊢
  exact fun x hx=>h1 x (h.subset hx)
theorem DR {f:Nat→Bool} {l l':List Nat} (h:l'.Sublist l) (ha:l.all f=true):l'.all f=true:=by
 rw[List.all_eq_true]at ha ⊢
 exact fun x hx=>ha x (h.subset hx)
theorem NY {l l':List Nat} (h:l'.Sublist l):kv is l'≤kv is l:=(h.filter _).length_le
theorem Qx {pre HP:List Nat} {q b:Nat} (h:HP.Sublist pre) (hs:qg is pt pre q b=true):qg is pt HP q b=true:=by
 unfold qg at *
 split at hs
 ·exact DR h hs
 ·exact DR h hs
 ·simp only [Bool.and_eq_true]at hs ⊢
  exact⟨DR h hs.1,B4 h hs.2⟩
 ·simp only [Bool.and_eq_true,decide_eq_true_eq]at hs ⊢
  exact⟨⟨DR h hs.1.1,B4 h hs.1.2⟩,Nat.le_trans (NY (h.filter _)) hs.2⟩
theorem LD : ∀ {R:List (Nat×Nat)} {pre HP:List Nat},HP.Sublist pre→vZ is af pt pre R=true→vZ is af pt HP R=true
 | [],_,_,_,_=>rfl
 |(q,b)::R,pre,HP,h,ho=>by
  simp only[vZ,Bool.and_eq_true,Bool.not_eq_true']at ho ⊢
  obtain⟨⟨⟨h1,h2⟩,h3⟩,h4⟩:=ho
  refine⟨⟨⟨Qx h h1, ?_⟩,h3⟩,LD (h.cons_cons q) h4⟩
  rw[← Bool.not_eq_true,List.contains_iff_mem]at h2 ⊢
  exact fun hm=>h2 (h.subset hm)
theorem HQ : ∀ {X:List (Nat×Nat)} {e:Nat×Nat} {Y:List (Nat×Nat)} {pre:List Nat},vZ is af pt pre (X++e::Y)=true→vZ is af pt pre (X++Y)=true
 | [],(q,b),Y,pre,h=>by
  simp only[List.nil_append,vZ,Bool.and_eq_true]at h
  exact LD (List.sublist_cons_self q pre) h.2
 |(a,c)::X,e,Y,pre,h=>by
  simp only[List.cons_append,vZ,Bool.and_eq_true]at h ⊢
  obtain⟨⟨⟨h1,h2⟩,h3⟩,h4⟩:=h
  refine⟨⟨⟨h1,h2⟩, ?_⟩,HQ h4⟩
  rw[List.all_eq_true]at h3 ⊢
  intro j hj
  have:=h3 j hj
  simp only[Bool.and_eq_true,Bool.not_eq_true']at this ⊢
  refine⟨this.1, ?_⟩
  have h5:=this.2
  rw[← Bool.not_eq_true,List.contains_iff_mem]at h5 ⊢
  refine fun hm=>h5 ?_
  simp only[List.map_append,List.map_cons,List.mem_append,List.mem_cons]at hm ⊢
  exact hm.imp id .inr
theorem vf : ∀ {X:List (Nat×Nat)} {q b:Nat} {Y:List (Nat×Nat)} {pre:List Nat},vZ is af pt pre (X++(q,b)::Y)=true→
 qg is pt ((X.map (·.1)).reverse++pre) q b=true∧q∉X.map (·.1)∧q∉pre∧(∀ j∈iP af q,j≠q∧j∉Y.map (·.1))∧vZ is af pt (q::((X.map (·.1)).reverse++pre)) Y=true
 | [],q,b,Y,pre,h=>by
  simp only[List.nil_append,vZ,Bool.and_eq_true,Bool.not_eq_true']at h
  obtain⟨⟨⟨h1,h2⟩,h3⟩,h4⟩:=h
  rw[← Bool.not_eq_true,List.contains_iff_mem]at h2
  refine⟨h1,by simp,h2,fun j hj=>?_,h4⟩
  rw[List.all_eq_true]at h3
  have:=h3 j hj
  simp only[Bool.and_eq_true,bne_iff_ne,Bool.not_eq_true', ← Bool.not_eq_true,List.contains_iff_mem]at this
  exact this
 |(a,c)::X,q,b,Y,pre,h=>by
  simp only[List.cons_append,vZ,Bool.and_eq_true]at h
  obtain⟨_,h4⟩:=h
  obtain⟨g1,g2,g3,g4,g5⟩:=vf h4
  simp only[List.map_cons,List.reverse_cons,List.append_assoc,List.singleton_append]
  refine⟨g1, ?_,fun h=>g3 (List.mem_cons_of_mem _ h),g4,g5⟩
  intro hm
  rcases List.mem_cons.1 hm with rfl|hm
  ·exact g3 (by simp)
  ·exact g2 hm
theorem DS : ∀ {Y:List (Nat×Nat)} {pre:List Nat},vZ is af pt pre Y=true→∀ x∈Y,x.1∉pre∧(ki is x.1 = .alloc→∀ a∈pre,mB is a x.1=true)
 | [],_,_,x,hx=>by cases hx
 | (q,b)::Y,pre,h,x,hx=>by
  simp only[vZ,Bool.and_eq_true,Bool.not_eq_true']at h
  obtain⟨⟨⟨h1,h2⟩,_⟩,h4⟩:=h
  rw[← Bool.not_eq_true,List.contains_iff_mem]at h2
  rcases List.mem_cons.1 hx with rfl|hx
  ·refine⟨h2,fun hk a ha=> ?_⟩
   unfold qg at h1
   simp only[hk]at h1
   rw[List.all_eq_true]at h1
   exact h1 a ha
  ·obtain⟨g1,g2⟩:=DS h4 x hx
   exact⟨fun h=>g1 (List.mem_cons_of_mem _ h),fun hk a ha=>g2 hk a (List.mem_cons_of_mem _ ha)⟩
theorem Ez : ∀ {n:Nat},zP af pt n=true→∀ i,i<n→∀ j∈iP pt i,j∈iP af i∨∃ k∈iP af i,j∈iP pt k
 | 0,_,i,hi=>by omega
 | n+1,h,i,hi=>by
  simp only[zP,Bool.and_eq_true]at h
  rcases Nat.lt_or_ge i n with h1|h1
  ·exact Ez h.2 i h1
  ·have:i=n:=by omega
   subst this
   intro j hj
   have:=h.1
   rw[List.all_eq_true]at this
   have:=this j hj
   simp only[Bool.or_eq_true,List.contains_iff_mem,List.any_eq_true]at this
   exact this
theorem z7 {pq:List Nat} : ∀ {l:List Nat},mj is pq l=true→∀ (x:Nat) (l1 l2:List Nat),l=l1++x::l2→ki is x = .alloc→x∈pq→∀ y∈l2,y∈pq
 | [],_,x,l1,l2,h=>by simp at h
 | a::l,hb,x,l1,l2,h=>by
  simp only[mj,Bool.and_eq_true,Bool.or_eq_true,Bool.not_eq_true',Bool.and_eq_false_iff]at hb
  intro hk hx y hy
  cases l1 with
  | nil=>
   simp only[List.nil_append,List.cons.injEq]at h
   obtain⟨rfl,rfl⟩:=h
   rcases hb.1 with h1|h1
   ·rcases h1 with h1 | h1
    ·simp[hk]at h1
    ·rw [← Bool.not_eq_true,List.contains_iff_mem]at h1
     exact(h1 hx).elim
   ·rw [List.all_eq_true]at h1
    have:=h1 y hy
    rwa [List.contains_iff_mem]at this
  |cons b l1=>
   simp only[List.cons_append,List.cons.injEq]at h
   exact z7 hb.2 x l1 l2 h.2 hk hx y hy
end
structure Pd where
 q:Nat
 t:Nat
 z:List D
 b:Nat
structure adZ (is:List AI) (R:List (Nat×Nat)) (B:fZ) (M:Map) (s:St) (act:Act) (w:World) (p:Pd):Prop where
 mem:p.q∈R.map (·.1)
 ai:is[p.q]? = some (.op (some p.t) none (.alloc p.z))
 cells : ∃ (vs:Array Value) (T:TypeId),w.heap[p.b]? = some (.cells vs T (0,0))∧vs.size=p.z.length∧(∀ v∈vs,v.oneCell'=true)∧
  ∀ (M:Map) (s:St) (i:Nat) (d:D) (v:Value),p.z[i]? = some d→vs[i]? = some v→RD M s d v
 unk:O1 M s p.b
 base:B.w.heap.size≤p.b
 slot:act.tmps.getD p.t Go.undef = .pointer (some ⟨p.b,0,none⟩)
def Be (P:Program) (is:List AI) (K:Tm→St→Prop) (B:fZ) (nt:Nat) (R:List (Nat×Nat)) (e9:List Pd) (act:Act) (w:World):Prop:=
 ∃ (M:Map) (s:St) (tm vg:Tm) (bK:List St),Ext B.M B.s B.w M s w∧Rel M s w∧nA M s vg act.tmps∧(∀ t,(∀ p∈e9,p.t≠t)→vg.get t=tm.get t)∧
  act.tmps.size=nt∧act.defers = []∧l8 P is K R bK tm s∧(∀ p∈e9,adZ is R B M s act w p)∧
  (∀ p∈e9,∀ p'∈e9,p.q=p'.q∨p.t=p'.t∨p.b=p'.b→p=p')
structure sL (is:List AI) (af pt:List (List Nat)) (dI:Array Bool) (R:List (Nat×Nat)) (e9:List Pd):Prop where
 ok:vZ is af pt [] R=true
 I2 : ∀ i,i<is.length→(dI.getD i false=true↔(i∉R.map (·.1)∨∃ p∈e9,p.q=i))
 cl : ∀ i,i<is.length→dI.getD i false=true→∀ j∈iP pt i,dI.getD j false=true
 size:dI.size=is.length
 lt : ∀ x∈R,x.1<is.length
section
variable {P:Program} {is:List AI} {af pt:List (List Nat)} {K:Tm→St→Prop} {B:fZ} {nt:Nat}
theorem ad0 {dI:Array Bool} {q b:Nat} {R:List (Nat×Nat)} {e9:List Pd} {act:Act} {w:World} (hs:sL is af pt dI ((q,b)::R) e9) (h:Be P is K B nt ((q,b)::R) e9 act w)
 {p:Pd} (hp:p∈e9) (wc:p.q=q) :
 sL is af pt dI R (e9.filter fun p'=>decide (p'.q≠q))∧Be P is K B nt R (e9.filter fun p'=>decide (p'.q≠q)) act w:=by
 have iW : ∀ p',p'∈(e9.filter fun p'=>decide (p'.q≠q))↔p'∈e9∧p'.q≠q:=fun p'=>by simp
 constructor
 ·have IZ:=hs.ok
  have E5:=vf (X:= []) IZ
  refine⟨HQ (X:= []) IZ,fun i hi=>?_,hs.cl,hs.size,fun x hx=>hs.lt x (List.mem_cons_of_mem _ hx)⟩
  rw[hs.I2 i hi]
  simp only[List.map_cons,List.mem_cons,not_or]
  have hqR:q∉R.map (·.1):=fun hm=>by
   obtain⟨x,hx,rfl⟩:=List.mem_map.1 hm
   exact(DS E5.2.2.2.2 x hx).1 (by simp)
  constructor
  ·rintro(⟨h1,h2⟩ | ⟨p',h1,h2⟩)
   ·exact .inl h2
   ·by_cases hq:i=q
    ·subst hq;exact .inl hqR
    ·exact .inr ⟨p',(iW p').2 ⟨h1,by rw[h2];exact hq⟩,h2⟩
  ·rintro(h1 | ⟨p',h1,h2⟩)
   ·by_cases hq:i=q
    ·subst hq;exact .inr ⟨p,hp,wc⟩
    ·exact .inl ⟨hq,h1⟩
   ·exact .inr ⟨p',((iW p').1 h1).1,h2⟩
 ·obtain⟨M,s,tm,vg,bK,e,r,ht,rN,hn,hd,hg,yv,uE⟩:=h
  have hk:=yv p hp
  obtain⟨vs,T,hh,hl,h1,h2⟩:=hk.cells
  have yr:=hk.ai
  rw[wc]at yr
  simp only[l8,yr,AI.kind,iA]at hg
  obtain⟨d,s',uY,hg⟩:=hg
  have sf:a8 (.alloc p.z) tm s=some (d,s'):=uY
  simp only[a8,Option.some.injEq,Prod.mk.injEq]at sf
  obtain⟨rfl,rfl⟩:=sf
  obtain⟨r',e',le⟩:=r.ahp e hk.unk hk.base p.z vs T hh hl h1 (h2 M s)
  refine⟨_,_,_,vg.put (some p.t) (.ptr s.az.length 0),_,e',r',fun u=>?_,fun t htn=>?_,hn,hd,hg,fun p' oe=>?_,fun p1 h1 p2 h2=>uE p1 ((iW p1).1 h1).1 p2 ((iW p2).1 h2).1⟩
  ·rw [Tm.mF]
   split
   ·rename_i heq
    cases heq
    rw[hk.slot]
    have:(M.eH s.az.length p.b).mu s.az.length=p.b:=by simp[Map.eH,Map.mu]
    have h5:=RD.ptr (M:=M.eH s.az.length p.b) (s:= {s with az:=s.az++ [p.z]}) s.az.length 0 (by simp) (by simp[Map.eH,Map.ob,Ob.plain])
    rw[this]at h5
    exact h5
   ·exact(ht u).mono le
  ·simp only [AI.dst]
   rw[Tm.mF,Tm.mF]
   split
   ·rfl
   ·rename_i eB
    refine rN t fun p' oe=>?_
    by_cases hq:p'.q=q
    ·have:=uE p' oe p hp (.inl (hq.trans wc.symm))
     subst this
     exact fun h=>eB (by rw[h])
    ·exact htn p' ((iW p').2 ⟨oe,hq⟩)
  ·obtain⟨hp1,tJ⟩:=(iW p').1 oe
   have BU:=yv p' hp1
   refine⟨?_,BU.ai,BU.cells,⟨fun o ho=>?_,BU.unk.t,BU.unk.g⟩,BU.base,BU.slot⟩
   ·have:=BU.mem
    simp only[List.map_cons,List.mem_cons]at this
    exact this.resolve_left tJ
   ·simp at ho
    rcases Nat.lt_or_ge o s.az.length with h5|h5
    ·rw[show(M.eH s.az.length p.b).mu o=M.mu o from congrArg Prod.fst (uX M p.b .any h5)];exact BU.unk.o o h5
    ·have:o=s.az.length:=by omega
     subst this
     have:(M.eH s.az.length p.b).mu s.az.length=p.b:=by simp[Map.eH,Map.mu]
     rw[this]
     intro hb
     have:=uE p hp p' hp1 (.inr (.inr hb))
     subst this
     exact tJ wc
theorem norm {dI:Array Bool} {act:Act} {w:World} : ∀ (R:List (Nat×Nat)) (e9:List Pd),sL is af pt dI R e9→Be P is K B nt R e9 act w→
 ∃ R' yw,sL is af pt dI R' yw∧Be P is K B nt R' yw act w∧∀ x l,R'=x::l→∀ p∈yw,p.q≠x.1
 | [],e9,hs,h=>⟨[],e9,hs,h,fun _ _ he=>by cases he⟩
 | (q,b)::R,e9,hs,h=>by
  by_cases hp : ∃ p∈e9,p.q=q
  ·obtain⟨p,hp,wc⟩:=hp
   obtain⟨h1,h2⟩:=ad0 hs h hp wc
   exact norm R _ h1 h2
  ·refine⟨(q,b)::R,e9,hs,h,fun x l he p hpm wc=>hp ⟨p,hpm, ?_⟩⟩
   cases he
   exact wc
theorem ZP {ops:Array Oper} {q:Nat} {o:Oper} {ai:AI} (hi:ops[q]? = some o) (hc:cI P nt ops o=some ai) {R R':List (Nat×Nat)} {e9:List Pd} {act:Act} {w:World} {M:Map} {s s1:St} {tm vg:Tm} {d:D} {ZQ:List St}
 (e:Ext B.M B.s B.w M s w) (r:Rel M s w) (ht:nA M s vg act.tmps) (rN : ∀ t,(∀ p∈e9,p.t≠t)→vg.get t=tm.get t) (hn:act.tmps.size=nt) (hd:act.defers = [])
 (yv : ∀ p∈e9,adZ is R B M s act w p) (uE : ∀ p∈e9,∀ p'∈e9,p.q=p'.q∨p.t=p'.t∨p.b=p'.b→p=p')
 (hv:jK P [ai] (fun a b=>a=vg.put ai.dst d∧b=s1) vg s) (hg:l8 P is K R' ZQ (tm.put ai.dst d) s1)
 (iW : ∀ p∈e9,p.q∈R'.map (·.1)) (rW : ∀ p∈e9,ai.dst≠some p.t) {Q:Exit→Act→World→Prop} :
 wpOp P ops Q q (Be P is K B nt R' e9) act w:=by
 refine zm hi hc r (B.laid.ext e) ht hv fun d' v s2 w1 M1 hk e1 r1 lk=>?_
 obtain⟨xd,rfl⟩:=hk
 have hde:=ve hc
 have hY : ∀ t,o.dst=some t→t<act.tmps.size:=fun t h=>by rw[hn];exact zX hc t h
 refine⟨M1,s2,tm.put ai.dst d,vg.put ai.dst d,ZQ,e.trans e1,r1, ?_,fun t htn=>?_, ?_, ?_,hg,fun p hp=>?_,uE⟩
 ·rw [← xd,hde]
  exact(ht.mono e1.le).put hY lk
 ·rw[Tm.mF,Tm.mF,rN t htn]
 ·cases ho:o.dst<;>simp[Act.put,hn]
 ·cases ho:o.dst<;>simp[Act.put,hd]
 ·have hk:=yv p hp
  obtain⟨vs,T,hh,hl,h1,h2⟩:=hk.cells
  have hb:=l5 hh
  refine⟨iW p hp,hk.ai,⟨vs,T,by rw[e1.kept p.b hb hk.unk.o hk.unk.t];exact hh,hl,h1,h2⟩,hk.unk.mono e1 hb,hk.base, ?_⟩
  rw[← hk.slot]
  have:=rW p hp
  rw[hde]at this
  cases ho:o.dst with
  |none=>rfl
  |some t=>
   rw[ho]at this
   have eB:t≠p.t:=fun h=>this (by rw[h])
   simp[Act.put,Array.getElem?_setIfInBounds_ne eB]
theorem Qy {ai:AI} (hm:iA ai.kind=false) {tm:Tm} {s:St} {d:D} (h:kL ai tm s=some d):jK P [ai] (fun a b=>a=tm.put ai.dst d∧b=s) tm s:=by
 cases ai with
 | op dst g o=>
  have hko:=O0 hm
  have key : ∀ {d},(a8 o tm s).map (·.1)=some d→a8 o tm s=some (d,s):=by
   intro d h
   cases he:a8 o tm s with
   |none=>rw[he]at h;cases h
   |some p=>
    obtain⟨d',s'⟩:=p
    rw[he]at h
    simp only[Option.map_some,Option.some.injEq]at h
    subst h
    rw[NU (by rw[← hko];exact hm) he]
  simp only[jK,AI.dst]
  cases g with
  |none=>
   simp only[kL]at h
   simp only[guarded,key h,and_self]
  | some p=>
   obtain⟨t,want⟩:=p
   simp only[kL]at h
   simp only[guarded]
   split at h
   ·rename_i b hb
    simp only[hb]
    split at h
    ·rename_i heq
     refine⟨fun _=>by simp only[key h,and_self],fun eB=>?_⟩
     subst heq
     cases b<;>cases eB
    ·rename_i eB
     cases h
     exact⟨fun heq=>(eB heq).elim,fun _=>by simp⟩
   ·rename_i ds hb
    cases h
    simp only[hb,and_self]
   ·cases h
 |call dst g f xs=>cases hm
 |nil dst g n x=>cases hm
 |kg dst g t xs=>cases hm
theorem CW {g:Option (Nat×Bool)} {tm:Tm} {A A' C C':Prop} (ha:A→A') (hc:C→C') (hh:guarded g tm A C):guarded g tm A' C':=by
 cases g with
 |none=>exact ha hh
 | some p=>
  obtain⟨t,want⟩:=p
  unfold guarded at *
  simp only at *
  split
  ·rename_i b hb;rw[hb]at hh;exact⟨fun e=>ha (hh.1 e),fun e=>hc (hh.2 e)⟩
  ·rename_i hb;rw[hb]at hh;exact hc hh
  ·rename_i x h1 h2
   split at hh
   ·exact h1 _ ‹_›
   ·exact h2 _ ‹_›
   ·exact hh
theorem LF {ai:AI} {tm:Tm} {s s1:St} {d:D} (h:uB P ai tm s d s1):jK P [ai] (fun a b=>a=tm.put ai.dst d∧b=s1) tm s:=by
 cases ai with
 |op dst g o=>
  refine CW (fun e=>?_) (fun e=>?_) h
  ·rw[e];exact⟨rfl,rfl⟩
  ·obtain⟨rfl,rfl⟩:=e;exact⟨rfl,rfl⟩
 |call dst g f xs=>
  refine CW (fun e=>?_) (fun e=>?_) h
  ·exact e.mono fun x y hxy=>by obtain⟨rfl,rfl⟩:=hxy;exact⟨rfl,rfl⟩
  ·obtain⟨rfl,rfl⟩:=e;exact⟨rfl,rfl⟩
 |nil dst g n x=>exact h.elim
 |kg dst g t xs=>exact h.elim
end
end Go.Abs
namespace Go.Abs
section
variable {P:Program} {is:List AI} {af pt:List (List Nat)} {K:Tm→St→Prop} {B:fZ} {nt:Nat}
theorem DT {ops:Array Oper} : ∀ {ol:List Oper} {is:List AI},sD P nt ops ol=some is→is.length=ol.length∧∀ (i:Nat) (o:Oper),ol[i]? = some o→∃ ai,is[i]? = some ai∧cI P nt ops o=some ai
 | [],is,h=>by cases h;exact⟨rfl,by simp⟩
 | o::ol,is,h=>by
  unfold sD at h
  split at h
  ·rename_i ai Tx h1 h2
   cases h
   obtain⟨g1,g2⟩:=DT h2
   refine⟨by simp[g1],fun i o' ho=>?_⟩
   cases i with
   |zero=>simp at ho;subst ho;exact⟨ai,rfl,h1⟩
   |succ i=>exact g2 i o' (by simpa using ho)
  ·cases h
theorem uF {dI:Array Bool} {i:Nat} (h:i<dI.size):dI.getD i true=dI.getD i false:=by
 simp[h]
theorem sL.done {dI:Array Bool} {X Y:List (Nat×Nat)} {q b:Nat} {e9:List Pd} (hs:sL is af pt dI (X++(q,b)::Y) e9) (hq:q<is.length)
 (we : ∀ j∈iP pt q,dI.getD j false=true):sL is af pt (dI.setIfInBounds q true) (X++Y) e9:=by
 obtain⟨g1,g2,g3,g4,g5⟩:=vf hs.ok
 have hqY:q∉Y.map (·.1):=fun hm=>by
  obtain⟨x,hx,rfl⟩:=List.mem_map.1 hm
  exact(DS g5 x hx).1 (by simp)
 refine⟨HQ hs.ok,fun i hi=>?_,fun i hi hl j hj=>?_,by simp[hs.size],fun x hx=>hs.lt x (by simp at hx ⊢;exact hx.imp id .inr)⟩
 ·by_cases wb:i=q
  ·subst wb
   have:i<dI.size:=by rw[hs.size];exact hq
   simp only[List.map_append,List.mem_append,g2,hqY,or_self,not_false_eq_true,true_or,iff_true]
   simp[this]
  ·rw [getD_set_ne false (Ne.symm wb),hs.I2 i hi]
   simp[wb]
 ·by_cases wb:i=q
  ·subst wb;exact getD_set_true (we j hj)
  ·rw [getD_set_ne false (Ne.symm wb)]at hl
   exact getD_set_true (hs.cl i hi hl j hj)
theorem sL.flag {dI:Array Bool} {R:List (Nat×Nat)} {e9:List Pd} (hs:sL is af pt dI R e9) {p:Pd} (hq:p.q<is.length)
 (we : ∀ j∈iP pt p.q,dI.getD j false=true):sL is af pt (dI.setIfInBounds p.q true) R (p::e9):=by
 refine⟨hs.ok,fun i hi=>?_,fun i hi hl j hj=>?_,by simp[hs.size],hs.lt⟩
 ·by_cases wb:i=p.q
  ·subst wb
   have:p.q<dI.size:=by rw[hs.size];exact hq
   simp[this]
  ·rw [getD_set_ne false (Ne.symm wb),hs.I2 i hi]
   have eB:p.q≠i:=fun h=>wb h.symm
   simp[eB]
 ·by_cases wb:i=p.q
  ·subst wb;exact getD_set_true (we j hj)
  ·rw [getD_set_ne false (Ne.symm wb)]at hl
   exact getD_set_true (hs.cl i hi hl j hj)
theorem Qz {ai:AI} (h:ai.kind = .alloc) : ∃ t z,ai = .op (some t) none (.alloc z):=by
 cases ai with
 | op dst g o=>
  unfold AI.kind at h
  split at h
  ·rename_i heq;cases heq;exact⟨_,_,rfl⟩
  ·rename_i heq
   cases heq
   exfalso
   revert h
   cases o<;>simp[AO.kind]
  ·cases h
 |call dst g f xs=>cases h
 |nil dst g n x=>cases h
 |kg dst g t xs=>cases h
theorem QA {ops:Array Oper} (zn:sD P nt ops ops.toList=some is) (QB:zP af pt is.length=true)
 (hK : ∀ tm bU s,Tm.eqv tm bU→K tm s→K bU s) {dI:Array Bool} {R:List (Nat×Nat)} {e9:List Pd} {act:Act} {w:World} (hs:sL is af pt dI R e9) (h:Be P is K B nt R e9 act w)
 (ahq : ∀ x l,R=x::l→∀ p∈e9,p.q≠x.1) {q:Nat} (hq:q<is.length) (F6:dI.getD q false=false) (lk : ∀ j∈iP af q,j<is.length∧dI.getD j false=true)
 {Q:Exit→Act→World→Prop} {K2:Act→World→Prop} (hK2 : ∀ R' yw a' w',sL is af pt (dI.setIfInBounds q true) R' yw→Be P is K B nt R' yw a' w'→K2 a' w'):wpOp P ops Q q K2 act w:=by
 obtain⟨hlen,hZ⟩:=DT zn
 have xi:q<ops.size:=by rw[hlen]at hq;simpa using hq
 obtain⟨ai,yr,TJ⟩:=hZ q ops[q] (by simp[xi])
 have hi:ops[q]? = some ops[q]:=by simp[xi]
 have we : ∀ j∈iP pt q,dI.getD j false=true:=fun j hj=>by
  rcases Ez QB q hq j hj with h1|⟨k,h1,h2⟩
  ·exact(lk j h1).2
  ·exact hs.cl k (lk k h1).1 (lk k h1).2 j h2
 have TK : ∀ p∈e9,p.q≠q:=fun p hp wc=>by
  have:=(hs.I2 q hq).2 (.inr ⟨p,hp,wc⟩)
  rw[F6]at this;cases this
 have hqR:q∈R.map (·.1):=by
  by_cases hm:q∈R.map (·.1)
  ·exact hm
  ·have:=(hs.I2 q hq).2 (.inl hm)
   rw[F6]at this;cases this
 obtain⟨⟨q',b⟩,hx,hqq⟩:=List.mem_map.1 hqR
 simp only at hqq
 subst hqq
 obtain⟨X,Y,rfl⟩:=List.append_of_mem hx
 obtain⟨g1,g2,g3,g4,g5⟩:=vf hs.ok
 rw[List.append_nil]at g1 g5
 obtain⟨M,s,tm,vg,bK,e,r,ht,rN,hn,hd,hg,yv,uE⟩:=h
 have TL:ki is q'=ai.kind:=by simp[ki,yr]
 -- what must have come up ahead of it, is not here any more, but for what was allocated early
 have ZR : ∀ a∈X.map (·.1),a∈iP pt q'→∃ p∈e9,p.q=a:=fun a ha hO=>by
  have h1:=we a hO
  obtain⟨x,hxX,rfl⟩:=List.mem_map.1 ha
  rcases(hs.I2 x.1 (hs.lt x (by simp[hxX]))).1 h1 with h2|h2
  ·exact(h2 (by simp;exact .inl ⟨x.2,hxX⟩)).elim
  ·exact h2
 have ZS : ∀ x l,X=x::l→x.1∉iP pt q':=fun x l hX hxp=>by
  obtain⟨p,hp,wc⟩:=ZR x.1 (by simp[hX]) hxp
  exact ahq x (l++(q',b)::Y) (by simp[hX]) p hp wc
 have hpk : ∀ p∈e9,ki is p.q = .alloc:=fun p hp=>by simp[ki,(yv p hp).ai,AI.kind]
 have E5 : ∀ p∈e9,(p.q∈X.map (·.1)→mB is p.q q'=true)→(∀ t,ai.dst=some t→t≠p.t)∧p.t∉ai.reads:=fun p hp hX=>by
  have hk:=yv p hp
  have hm:=hk.mem
  simp only[List.map_append,List.map_cons,List.mem_append,List.mem_cons]at hm
  rcases hm with hm|hm|hm
  ·have:=hX hm
   simp only[mB,hk.ai,yr]at this
   obtain⟨p1,p2,p3⟩:=apart_spec this
   exact⟨fun t ht he=>p3 p.t rfl (by rw[ht,he]),p1 p.t rfl⟩
  ·exact(TK p hp hm).elim
  ·obtain⟨x,hxY,ZT⟩:=List.mem_map.1 hm
   have:=(DS g5 x hxY).2 (by rw[ZT];exact hpk p hp) q' (by simp)
   rw[ZT]at this
   simp only[mB,hk.ai,yr]at this
   obtain⟨p1,p2,p3⟩:=apart_spec this
   exact⟨fun t ht he=>p3 t ht (by rw[he];rfl),p2 p.t rfl⟩
 have TN:(∀ p∈e9,p.t∉ai.reads)→∀ t∈ai.reads,tm.get t=vg.get t:=fun hp t ht=>(rN t fun p hpm he=>hp p hpm (by rw[he];exact ht)).symm
 have ZU : ∀ p∈e9,p.q∈(X++Y).map (·.1):=fun p hp=>by
  have hm:=(yv p hp).mem
  have:=TK p hp
  simp only[List.map_append,List.map_cons,List.mem_append,List.mem_cons]at hm ⊢
  rcases hm with hm|hm|hm
  ·exact .inl hm
  ·exact(this hm).elim
  ·exact .inr hm
 by_cases ry:ai.kind = .alloc
 ·-- an allocation
  obtain⟨t,z,rfl⟩:=Qz ry
  have hO : ∀ a∈X.map (·.1),mB is a q'=true:=fun a ha=>by
   unfold qg at g1
   rw[TL,ry]at g1
   simp only[List.all_reverse,List.all_eq_true]at g1
   exact g1 a ha
  have I3:=fun p hp=>E5 p hp (hO p.q)
  refine NV hi TJ fun vs T hl h1 h2=>?_
  obtain⟨r1,e1,u1⟩:=r.idle (.cells vs T)
  have ad6:t<act.tmps.size:=by
   rw[hn]
   exact zX TJ t (by rw[← ve TJ];rfl)
  have:=hs.flag (p:=⟨q',t,z,w.heap.size⟩) hq we
  refine hK2 _ _ _ _ this ⟨M,s,tm,vg.put (some t) .junk,bK,e.trans e1,r1,nA.put ht (dst:=some t) (fun u hu=>by cases hu;exact ad6) (.junk _),fun u hu=>?_,by simp[Act.put,hn],by simp[Act.put,hd],hg,fun p hp=>?_,fun p hp p' oe he=>?_⟩
  ·have h3:=hu ⟨q',t,z,w.heap.size⟩ (by simp)
   rw[Tm.mF,if_neg (by simpa using h3)]
   exact rN u fun p hp=>hu p (List.mem_cons_of_mem _ hp)
  ·rcases List.mem_cons.1 hp with rfl | hp
   ·refine⟨by simp,yr,⟨vs,T,heap_alloc_new w _,hl,h1,h2⟩,u1,e.size, ?_⟩
    simp[Act.put,ad6]
   ·have hk:=yv p hp
    obtain⟨gb,T',kC,pw,lW,zZ⟩:=hk.cells
    refine⟨hk.mem,hk.ai,⟨gb,T',by rw[heap_alloc_old w _ _ (l5 kC)];exact kC,pw,lW,zZ⟩,hk.unk,hk.base, ?_⟩
    rw[← hk.slot]
    have eB:t≠p.t:=(I3 p hp).1 t rfl
    simp[Act.put,Array.getElem?_setIfInBounds_ne eB]
  ·have eK : ∀ p∈e9,¬ (q'=p.q∨t=p.t∨w.heap.size=p.b):=fun p hp h=>by
    rcases h with h|h|h
    ·exact TK p hp h.symm
    ·exact(I3 p hp).1 t rfl h
    ·obtain⟨gb,T',kC,_⟩:=(yv p hp).cells
     have:=l5 kC
     omega
   rcases List.mem_cons.1 hp with rfl|hp<;>rcases List.mem_cons.1 oe with rfl|oe
   ·rfl
   ·exact(eK p' oe he).elim
   ·exact(eK p hp (he.imp Eq.symm (Or.imp Eq.symm Eq.symm))).elim
   ·exact uE p hp p' oe he
 ·by_cases py:iA ai.kind=true
  ·-- a step that changes something: it stands first
   have hkc:ai.kind = .core:=by
    cases hk:ai.kind<;>simp_all [iA]
   have hX:X = []:=by
    cases X with
    |nil=>rfl
    |cons x l=>
     refine(ZS x l rfl ?_).elim
     unfold qg at g1
     rw[TL,hkc]at g1
     simp only[List.all_reverse,List.all_eq_true]at g1
     have:=g1 x.1 (by simp)
     rwa [List.contains_iff_mem]at this
   subst hX
   have I3:=fun p hp=>E5 p hp (fun h=>by simp at h)
   simp only[List.nil_append,l8,yr,py]at hg
   obtain⟨d,s1,uY,hg⟩:=hg
   have akS:=zk (TN fun p hp=>(I3 p hp).2) uY
   refine wpOp_mono (fun a' w' hr=>hK2 _ _ _ _ (hs.done hq we) hr) ?_
   exact ZP hi TJ e r ht rN hn hd yv uE (LF akS) hg ZU (fun p hp he=>(I3 p hp).1 _ he rfl)
  ·-- a step that changes nothing
   have hm:iA ai.kind=false:=by simpa using py
   have qq : ∀ a∈X.map (·.1),a∉iP pt q':=fun a ha hO=>by
    obtain⟨p,hp,wc⟩:=ZR a ha hO
    have IV:ki is a = .alloc:=by rw[← wc];exact hpk p hp
    have lU:mj is (iP pt q') (X.map (·.1)).reverse=true:=by
     unfold qg at g1
     rw[TL]at g1
     cases hk:ai.kind with
     |pure=>simp only[hk,Bool.and_eq_true]at g1;exact g1.2
     |load=>simp only[hk,Bool.and_eq_true]at g1;exact g1.1.2
     |alloc=>exact(ry hk).elim
     |core=>rw[hk]at hm;cases hm
    cases X with
    |nil=>simp at ha
    | cons x l=>
     have ha2:a∈((x::l).map (·.1)).reverse:=List.mem_reverse.2 ha
     obtain⟨l1,l2,EA⟩:=List.append_of_mem ha2
     have zo:=z7 lU a l1 l2 EA IV hO
     refine ZS x l rfl ?_
     cases jc:l2.reverse with
     |nil=>
      have h3:l2 = []:=by simpa using jc
      subst h3
      have:=congrArg List.reverse EA
      simp at this
      rw[this.1];exact hO
     |cons y l3=>
      have:=congrArg List.reverse EA
      simp only[List.reverse_reverse,List.map_cons,List.reverse_append,List.reverse_cons,List.reverse_nil,List.append_assoc,jc,List.cons_append,List.nil_append,List.cons.injEq]at this
      rw[this.1]
      exact zo y (by rw[← List.mem_reverse,jc];simp)
   have hO : ∀ a∈X,mB is a.1 q'=true:=fun a ha=>by
    have h3 : ∀ x∈(X.map (·.1)).reverse,((iP pt q').contains x ||mB is x q')=true:=by
     unfold qg at g1
     rw[TL]at g1
     cases hk:ai.kind with
     |pure=>simp only[hk,Bool.and_eq_true]at g1;exact List.all_eq_true.1 g1.1
     |load=>simp only[hk,Bool.and_eq_true]at g1;exact List.all_eq_true.1 g1.1.1
     |alloc=>exact(ry hk).elim
     |core=>rw[hk]at hm;cases hm
    have:=h3 a.1 (List.mem_reverse.2 (List.mem_map_of_mem ha))
    simp only[Bool.or_eq_true,List.contains_iff_mem]at this
    exact this.resolve_left (qq a.1 (List.mem_map_of_mem ha))
   have ad8:ai.kind = .load→kv is (X.map (·.1))≤b:=fun hk=>by
    unfold qg at g1
    rw[TL,hk]at g1
    simp only[Bool.and_eq_true,decide_eq_true_eq]at g1
    have h3:=g1.2
    have h4:(X.map (·.1)).reverse.filter (fun a=> !(iP pt q').contains a)=(X.map (·.1)).reverse:=by
     rw[List.filter_eq_self]
     intro a ha
     have:=qq a (List.mem_reverse.1 ha)
     simpa using this
    rw[h4]at h3
    unfold kv at h3 ⊢
    rw[List.filter_reverse,List.length_reverse]at h3
    exact h3
   have I3:=fun p hp=>E5 p hp (fun h=>by
    obtain⟨x,hx,ZT⟩:=List.mem_map.1 h
    rw[← ZT];exact hO x hx)
   obtain⟨d,h1,_,Es⟩:=zl hK yr hm Y X bK tm s hO ad8 hg
   have lW:kL ai vg s=some d:=by rw[← sh (TN fun p hp=>(I3 p hp).2)];exact h1
   refine wpOp_mono (fun a' w' hr=>hK2 _ _ _ _ (hs.done hq we) hr) ?_
   exact ZP hi TJ e r ht rN hn hd yv uE (Qy hm lW) Es ZU (fun p hp he=>(I3 p hp).1 _ he rfl)
theorem EB {o:Oper} {j:Nat} : j∈og o↔∃ e∈o.after,Region.binds .any e=true∧e.on=j:=by
 simp only[og,List.mem_map,List.mem_filter,Array.mem_toList_iff]
 constructor
 ·rintro⟨e,⟨h1,h2⟩,h3⟩;exact⟨e,h1,h2,h3⟩
 ·rintro⟨e,h1,h2,h3⟩;exact⟨e,⟨h1,h2⟩,h3⟩
theorem QC {ops:Array Oper} (zn:sD P nt ops ops.toList=some is) (QB:zP (ops.toList.map og) pt is.length=true)
 (ad9 : ∀ i,i<is.length→∀ j∈iP (ops.toList.map og) i,j<is.length) {Q:Exit→Tm→St→Prop} (hK : ∀ tm bU s,Tm.eqv tm bU→K tm s→K bU s)
 (hKQ : ∀ tm s act w,K tm s→Holds B nt tm s act w→q9 B nt Q .normal act w) :
 ∀ (fuel:Nat) (dI:Array Bool) (R:List (Nat×Nat)) (e9:List Pd) (act:Act) (w:World) (U:List Nat),U.length≤fuel→(∀ j,j<is.length→dI.getD j false=false→j∈U)→
  sL is (ops.toList.map og) pt dI R e9→Be P is K B nt R e9 act w→wpAny P .any ops (q9 B nt Q) fuel dI act w:=by
 obtain⟨hlen,_⟩:=DT zn
 have uy:is.length=ops.size:=by rw[hlen];simp
 have aea : ∀ (j:Nat) (o:Oper),ops[j]? = some o→iP (ops.toList.map og) j=og o:=fun j o h=>by
  simp[iP,List.getD,h]
 have fin : ∀ {dI:Array Bool} {e9:List Pd} {act:Act} {w:World},Be P is K B nt [] e9 act w→q9 B nt Q .normal act w:=by
  intro dI e9 act w h
  obtain⟨M,s,tm,vg,bK,e,r,ht,rN,hn,hd,hg,yv,uE⟩:=h
  have CN : ∀ p∈e9,False:=fun p hp=>by have:=(yv p hp).mem;simp at this
  exact hKQ vg s act w (hK tm vg s (fun t=>(rN t fun p hp=>(CN p hp).elim).symm) hg) ⟨M,e,r,ht,hn,hd⟩
 have TO : ∀ {dI:Array Bool} {R:List (Nat×Nat)} {e9:List Pd} {x:Nat×Nat} {l:List (Nat×Nat)},sL is (ops.toList.map og) pt dI R e9→R=x::l→(∀ p∈e9,p.q≠x.1)→
  x.1∈Region.ready .any ops dI:=by
  intro dI R e9 x l hs hR TK
  subst hR
  have hx:=hs.lt x (by simp)
  rw[mem_ready]
  have F6:dI.getD x.1 false=false:=by
   cases hl:dI.getD x.1 false with
   |false=>rfl
   |true=>
    rcases(hs.I2 x.1 hx).1 hl with h1|⟨p,hp,wc⟩
    ·exact(h1 (by simp)).elim
    ·exact(TK p hp wc).elim
  have hxo:x.1<ops.size:=by rw[← uy];exact hx
  refine⟨by rw[uF (by rw[hs.size];exact hx)];exact F6,ops[x.1],by simp[hxo],fun e he hb=>?_⟩
  have hm:e.on∈iP (ops.toList.map og) x.1:=by rw[aea x.1 ops[x.1] (by simp[hxo])];exact EB.2 ⟨e,he,hb,rfl⟩
  obtain⟨_,_,_,g4,_⟩:=vf (X:= []) (q:=x.1) (b:=x.2) hs.ok
  obtain⟨h1,h2⟩:=g4 _ hm
  refine(hs.I2 e.on (ad9 x.1 hx _ hm)).2 (.inl ?_)
  simp only[List.map_cons,List.mem_cons,not_or]
  exact⟨h1,h2⟩
 intro fuel
 induction fuel with
 | zero=>
  intro dI R e9 act w U hU F6 hs h
  obtain⟨R',yw,qj,h',hn⟩:=norm R e9 hs h
  have hUn:U = []:=List.length_eq_zero_iff.1 (by omega)
  have zo : ∀ j,j<is.length→dI.getD j false=true:=fun j hj=>by
   cases hl:dI.getD j false with
   |true=>rfl
   |false=>have:=F6 j hj hl;rw[hUn]at this;cases this
  have hR:R' = []:=by
   cases hR:R' with
   |nil=>rfl
   |cons x l=>
    have hx:=qj.lt x (by simp[hR])
    have:=TO qj hR (hn x l hR)
    rw[mem_ready,uF (by rw[qj.size];exact hx),zo x.1 hx]at this
    cases this.1
  subst hR
  refine⟨?_,fin (dI:=dI) h'⟩
  cases hr:Region.ready .any ops dI with
  |nil=>rfl
  |cons j js=>
   have hj:j∈Region.ready .any ops dI:=by rw[hr];simp
   rw[mem_ready]at hj
   obtain⟨h1,o,ho,_⟩:=hj
   have ZV:j<is.length:=by rw[uy];exact(Array.getElem?_eq_some_iff.1 ho).1
   rw[uF (by rw[hs.size];exact ZV),zo j ZV]at h1
   cases h1
 | succ fuel ih=>
  intro dI R e9 act w U hU F6 hs h
  obtain⟨R',yw,qj,h',hn⟩:=norm R e9 hs h
  refine⟨fun hr=>?_,fun i hi=>?_⟩
  ·cases hR:R' with
   |nil=>subst hR;exact fin (dI:=dI) h'
   |cons x l=>
    have:=TO qj hR (hn x l hR)
    rw[hr]at this
    cases this
  ·rw [mem_ready]at hi
   obtain⟨h1,o,ho,QD⟩:=hi
   have rr:i<is.length:=by rw[uy];exact(Array.getElem?_eq_some_iff.1 ho).1
   rw[uF (by rw[hs.size];exact rr)]at h1
   refine QA zn QB hK qj h' hn rr h1 (fun j hj=>⟨ad9 i rr j hj, ?_⟩) fun R2 aht a2 w2 OU h2=>?_
   ·rw [aea i o ho]at hj
    obtain⟨e,he,hb,rfl⟩:=EB.1 hj
    exact QD e he hb
   ·refine ih _ R2 aht a2 w2 (U.erase i) ?_ (fun j hj hl=> ?_) OU h2
    ·have:=List.length_erase_of_mem (F6 i rr h1)
     omega
    ·have hji:j≠i:=fun e=>by
      subst e
      have:j<dI.size:=by rw[hs.size];exact rr
      simp[this]at hl
     rw[getD_set_ne false (Ne.symm hji)]at hl
     exact(List.mem_erase_of_ne hji).2 (F6 j hj hl)
theorem Sem.par {is:List AI} {nn:List (Nat×Nat)} {Q:Exit→Tm→St→Prop} {tm:Tm} {s:St} (h:l8 P is (Q .normal) nn [] tm s):Sem P B nt (.par is nn) Q tm s:=by
 intro c hc act w hh
 obtain⟨id,ops,rfl,hi,hm,pt,hp⟩:=mP hc
 simp only[K0,Bool.and_eq_true,List.all_eq_true,List.mem_range,List.contains_iff_mem,decide_eq_true_eq]at hp
 obtain⟨⟨⟨⟨h1,h2⟩,h3⟩,h4⟩,h5⟩:=hp
 obtain⟨hlen,_⟩:=DT hi
 have uy:is.length=ops.size:=by rw[hlen];simp
 refine wp_region_any hm ?_
 obtain⟨M,e,r,ht,hn,hd⟩:=hh
 have key : ∀ (R:List (Nat×Nat)) (bK:List St) (tm:Tm) (s:St),l8 P is (Q .normal) R bK tm s→l8 P is (fun tm s=>∃ bU,tm.eqv bU∧Q .normal bU s) R bK tm s:=by
  intro R
  induction R with
  |nil=>intro bK tm s h;exact⟨tm,fun _=>rfl,h⟩
  | cons x R ih=>
   obtain⟨q,b⟩:=x
   intro bK tm s h
   unfold l8 at h ⊢
   split at h
   ·exact h.elim
   ·split at h
    ·obtain⟨d,s',h1,h2⟩:=h;exact⟨d,s',h1,ih _ _ _ h2⟩
    ·obtain⟨d,h1,h2,h3⟩:=h;exact⟨d,h1,h2,ih _ _ _ h3⟩
 have hg:=key _ _ _ _ h
 refine QC (K:=fun tm s=>∃ bU,tm.eqv bU∧Q .normal bU s) hi h1 h5 (fun tm bU s he ⟨t2,h3,h4⟩=>⟨t2,fun t=>(he t).symm.trans (h3 t),h4⟩)
  (fun tm s act w ⟨t2,h3,h4⟩ ⟨M,e,r,ht,hn,hd⟩=>⟨t2,s,h4,M,e,r,fun t=>by rw[← h3 t];exact ht t,hn,hd⟩) ops.size _ nn [] act _ (List.range is.length) (by simp[uy]) (fun j hj _=>by simpa using hj)
  ⟨h2,fun i hi=>?_,fun i hi hl=>?_,by simp[uy],h4⟩ ⟨M,s,tm,tm,[],⟨e.le,e.kept,e.wZ,e.sA,e.vB,e.size,e.os,e.tape,e.output⟩,r.of_heap rfl,ht,fun _ _=>rfl,hn,hd,hg,by simp,by simp⟩
 ·have:i<ops.size:=by rw [← uy];exact hi
  have h6:=h3 i hi
  simp only[List.not_mem_nil,false_and,exists_false,or_false]
  rw[show(Array.replicate ops.size false).getD i false=false by simp[this]]
  simp[h6]
 ·have:i<ops.size:=by rw [← uy];exact hi
  rw[show(Array.replicate ops.size false).getD i false=false by simp[this]]at hl
  cases hl
end
end Go.Abs
namespace Go.Abs
theorem abk (k:IntKind) (n:Int):D.row (.int k n)=some [.int k n]:=rfl
theorem WS (b:Bool):D.row (.bool b)=some [.bool b]:=rfl
theorem abl (l:List UInt8):D.row (.str l)=some [.str l]:=rfl
theorem WT:D.row .fS=some [.fS]:=rfl
theorem abm (o f:Nat):D.row (.ptr o f)=some [.ptr o f]:=rfl
theorem WU (r:List D) (f:Nat):D.row (.eJ r f)=some [.eJ r f]:=rfl
theorem TP (g:Tag) (z:Nat) (r:List (List D)):D.row (.slice g z r)=some [.slice g z r]:=rfl
theorem abn (cs:List D):D.row (.agg cs)=some cs:=rfl
theorem abo (v:Value):D.row (.val v)=some [.val v]:=rfl
theorem TQ (T:TypeId) (o:Nat):D.row (.gy T o)=some [.gy T o]:=rfl
theorem abp (f:Nat) (cs:List D):D.row (.iK f cs)=some [.iK f cs]:=rfl
theorem WV (o:Nat):D.row (.iI o)=some [.iI o]:=rfl
theorem WW (w:Bool):Tag.cut .full w=if w then .full else .shared:=rfl
theorem QE (w:Bool):Tag.cut .shared w = .shared:=rfl
theorem WX (t:Nat) (y:Bool) (w:Bool):Tag.cut (.tok t y) w = .tok t y:=rfl
section
variable {P:Program}
def KC (P:Program) (r:List AI) (K:Tm→St→Prop) (tm:Tm) (dst:Option Nat) (d:D) (s:St):Prop:=jK P r K (tm.put dst d) s
def GI (P:Program) (g:D) (want:Bool) (i:AI) (r:List AI) (K:Tm→St→Prop) (tm:Tm) (s:St):Prop:=
 match g with
 | .bool b=>(b=want→jK P (i::r) K tm s)∧(b=(!want)→jK P r K (tm.put i.dst (.tuple [])) s)
 | .tuple _=>jK P r K (tm.put i.dst (.tuple [])) s
 |_=>False
def NI (P:Program) (dst:Option Nat) (neg:Bool) (x:D) (r:List AI) (K:Tm→St→Prop) (tm:Tm) (s:St):Prop:=
 match x with
 | .slice _ _ rows=>∀ b:Bool,(rows≠ []→b=false)→jK P r K (tm.put dst (.bool (if neg then !b else b))) s
 |_=>False
def wD (d:D) (A C:Prop):Prop:=
 match d with
 | .bool b=>(b=true→A)∧(b=false→C)
 |_=>False
theorem Sem.ahu {B:fZ} {nt:Nat} {Q:Exit→Tm→St→Prop} {tm:Tm} {s:St} {x:X} {a b:AC} (h:wD (x.ev tm) (Sem P B nt a Q tm s) (Sem P B nt b Q tm s)):Sem P B nt (.cond x a b) Q tm s:=by
 unfold wD at h
 split at h
 ·rename_i t ht
  exact Sem.cond ht h.1 h.2
 ·exact h.elim
def iB (P:Program) (K:Tm→St→Prop):List (AI×Nat)→List St→Tm→St→Prop
 | [],_,tm,s=>K tm s
 |(ai,b)::r,bK,tm,s=>
  match iA ai.kind with
  |true=>∃ d s',uB P ai tm s d s'∧iB P K r (s::bK) (tm.put ai.dst d) s'
  |false=>∃ d,kL ai tm s=some d∧(ai.kind = .load→∀ s'∈bK.take b,kL ai tm s'=some d)∧iB P K r bK (tm.put ai.dst d) s
def oq (is:List AI):List (Nat×Nat)→Option (List (AI×Nat))
 | []=>some []
 |(q,b)::r=>match is[q]?,oq is r with
  |some ai,some l=>some ((ai,b)::l)
  |_,_=>none
theorem HR {is:List AI} {K:Tm→St→Prop} : ∀ {nn:List (Nat×Nat)} {items:List (AI×Nat)} {bK:List St} {tm:Tm} {s:St},oq is nn=some items→iB P K items bK tm s→l8 P is K nn bK tm s
 | [],items,bK,tm,s,h,g=>by cases h;exact g
 | (q,b)::r,items,bK,tm,s,h,g=>by
  simp only[oq]at h
  split at h
  ·rename_i ai l h1 h2
   cases h
   simp only[iB]at g
   simp only[l8,h1]
   split at g
   ·rename_i hk
    obtain⟨d,s',g1,g2⟩:=g
    try simp only[hk]
    exact⟨d,s',g1,HR h2 g2⟩
   ·rename_i hk
    obtain⟨d,g1,g2,g3⟩:=g
    try simp only[hk]
    exact⟨d,g1,g2,HR h2 g3⟩
  ·cases h
theorem Sem.akT {B:fZ} {nt:Nat} {Q:Exit→Tm→St→Prop} {tm:Tm} {s:St} {is:List AI} {nn:List (Nat×Nat)} {items:List (AI×Nat)} (hi:oq is nn=some items) (h:iB P (Q .normal) items [] tm s):Sem P B nt (.par is nn) Q tm s:=
 Sem.par (HR hi h)
def AI.free:AI→AI
 | .op d _ o=> .op d none o
 | .call d _ f xs=> .call d none f xs
 | .nil d _ n x=> .nil d none n x
 | .kg d _ t xs=> .kg d none t xs
def GL (P:Program) (g:D) (want:Bool) (i:AI) (b:Nat) (r:List (AI×Nat)) (K:Tm→St→Prop) (bK:List St) (tm:Tm) (s:St):Prop:=
 match g with
 | .bool v=>(v=want→iB P K ((i,b)::r) bK tm s)∧(v=(!want)→iB P K r (if iA i.kind then s::bK else bK) (tm.put i.dst (.tuple [])) s)
 | .tuple _=>iB P K r (if iA i.kind then s::bK else bK) (tm.put i.dst (.tuple [])) s
 |_=>False
def CL (P:Program) (f:Nat) (args:List D) (s:St) (K:D→St→Prop):Prop:=∃ d s',aA P f args s d s'∧K d s'
def KL (P:Program) (K:Tm→St→Prop) (r:List (AI×Nat)) (bK:List St) (tm:Tm) (dst:Option Nat) (d:D) (s:St):Prop:=iB P K r bK (tm.put dst d) s
def pA (i:AI) (tm:Tm) (d:D):List St→Prop
 | []=>True
 |s::r=>kL i tm s=some d∧pA i tm d r
theorem F7 {i:AI} {tm:Tm} {d:D} : ∀ {l:List St},pA i tm d l→∀ s∈l,kL i tm s=some d
 | [],_,s,h=>by cases h
 |a::l,h,s,hs=>by
  rcases List.mem_cons.1 hs with rfl|hs
  ·exact h.1
  ·exact F7 h.2 s hs
def PL (P:Program) (o:AO) (dst:Option Nat) (b:Nat) (r:List (AI×Nat)) (K:Tm→St→Prop) (bK:List St) (tm:Tm) (s:St):Prop:=
 match a8 o tm s with
 |some (d,_)=>pA (.op dst none o) tm d (bK.take b)∧iB P K r bK (tm.put dst d) s
 |none=>False
def ML (P:Program) (o:AO) (dst:Option Nat) (r:List (AI×Nat)) (K:Tm→St→Prop) (bK:List St) (tm:Tm) (s:St):Prop:=
 match a8 o tm s with
 |some (d,s')=>iB P K r (s::bK) (tm.put dst d) s'
 |none=>False
def AO.core:AO→Bool
 | .alloc _=>true
 | .box _=>true
 | .w9 .. =>true
 | .Co _=>true
 | .store .. =>true
 | .app .. =>true
 | .uW .. =>true
 | .Cp .. =>true
 | .Cq .. =>true
 | .apps .. =>true
 | .wy=>true
 | .AZ .. =>true
 | .HF .. =>true
 |_=>false
theorem vi (dst:Option Nat) (g:Option (Nat×Bool)) (o:AO):iA (AI.op dst g o).kind=o.core:=by
 cases dst<;>cases g<;>cases o<;>rfl
def OL (P:Program) (o:AO) (dst:Option Nat) (b:Nat) (r:List (AI×Nat)) (K:Tm→St→Prop) (bK:List St) (tm:Tm) (s:St):Prop:=
 match o.core with
 |true=>ML P o dst r K bK tm s
 |false=>PL P o dst b r K bK tm s
theorem LG {K:Tm→St→Prop} {dst:Option Nat} {o:AO} {b:Nat} {r:List (AI×Nat)} {bK:List St} {tm:Tm} {s:St} (h:OL P o dst b r K bK tm s) :
 iB P K ((.op dst none o,b)::r) bK tm s:=by
 unfold OL at h
 simp only[iB,vi]
 cases hc:o.core with
 | true=>
  simp only[hc,ML]at h
  simp only[]
  split at h
  ·rename_i d s' he
   exact⟨d,s',by simpa[uB,guarded]using he,h⟩
  ·exact h.elim
 | false=>
  simp only[hc,PL]at h
  simp only[]
  split at h
  ·rename_i d s' he
   exact⟨d,by simp[kL,he],fun _=>F7 h.1,h.2⟩
  ·exact h.elim
theorem QG {K:Tm→St→Prop} {dst:Option Nat} {f:Nat} {xs:List X} {b:Nat} {r:List (AI×Nat)} {bK:List St} {tm:Tm} {s:St} (h:CL P f (xs.map (·.ev tm)) s (KL P K r (s::bK) tm dst)) :
 iB P K ((.call dst none f xs,b)::r) bK tm s:=by
 obtain⟨d,s',h1,h2⟩:=h
 exact⟨d,s',h1,h2⟩
theorem aeb {K:Tm→St→Prop} {i:AI} {t:Nat} {w:Bool} {b:Nat} {r:List (AI×Nat)} {bK:List St} {tm:Tm} {s:St} {j:AI} (hf:(∃ d o,i = .op d none o∧j = .op d (some (t,w)) o)∨(∃ d f xs,i = .call d none f xs∧j = .call d (some (t,w)) f xs))
 (hg:tm.get t = .bool w) (h:iB P K ((i,b)::r) bK tm s):iB P K ((j,b)::r) bK tm s:=by
 rcases hf with ⟨d,o,rfl,rfl⟩|⟨d,f,xs,rfl,rfl⟩
 ·simp only [iB,vi]at h ⊢
  cases hc:o.core<;>simp only[hc]at h ⊢
  ·obtain⟨x,h1,h2,h3⟩:=h
   refine⟨x,by simpa[kL,hg]using h1,fun hk s' qj=>?_,h3⟩
   have BU:(AI.op d none o).kind = .load:=by
    cases d<;>cases o<;>first|exact hk|(cases hc;done)|(cases hk;done)
   simpa[kL,hg]using h2 BU s' qj
  ·obtain⟨x,s',h1,h2⟩:=h
   exact⟨x,s',by simpa[uB,guarded,hg]using h1,h2⟩
 ·obtain⟨x,s',h1,h2⟩:=h
  exact⟨x,s',by simpa[uB,guarded,hg]using h1,h2⟩
theorem TR {K:Tm→St→Prop} {i:AI} {t:Nat} {w:Bool} {b:Nat} {r:List (AI×Nat)} {bK:List St} {tm:Tm} {s:St} {j:AI} (hf:(∃ d o,i = .op d none o∧j = .op d (some (t,w)) o)∨(∃ d f xs,i = .call d none f xs∧j = .call d (some (t,w)) f xs))
 (hg:tm.get t = .bool (!w)∨∃ l,tm.get t = .tuple l) (h:iB P K r (if iA i.kind then s::bK else bK) (tm.put i.dst (.tuple [])) s):iB P K ((j,b)::r) bK tm s:=by
 rcases hf with ⟨d,o,rfl,rfl⟩|⟨d,f,xs,rfl,rfl⟩
 ·simp only [iB,vi]at h ⊢
  cases hc:o.core<;>simp only[hc]at h ⊢
  ·refine⟨.tuple [], ?_,fun hk s' qj=> ?_,h⟩
   ·rcases hg with hg|⟨l,hg⟩<;>simp[kL,hg]
   ·rcases hg with hg|⟨l,hg⟩<;>simp[kL,hg]
  ·refine⟨.tuple [],s, ?_,h⟩
   rcases hg with hg|⟨l,hg⟩<;>simp[uB,guarded,hg]
 ·refine⟨.tuple [],s, ?_,h⟩
  rcases hg with hg|⟨l,hg⟩<;>simp[uB,guarded,hg]
theorem O2 {K:Tm→St→Prop} {i j:AI} {t:Nat} {w:Bool} {b:Nat} {r:List (AI×Nat)} {bK:List St} {tm:Tm} {s:St} (hf:(∃ d o,i = .op d none o∧j = .op d (some (t,w)) o)∨(∃ d f xs,i = .call d none f xs∧j = .call d (some (t,w)) f xs))
 (h:GL P (tm.get t) w i b r K bK tm s):iB P K ((j,b)::r) bK tm s:=by
 unfold GL at h
 split at h
 ·rename_i v hv
  by_cases e:v=w
  ·exact aeb hf (by rw[hv,e]) (h.1 e)
  ·exact TR hf (.inl (by rw[hv];cases v<;>cases w<;>simp_all)) (h.2 (by cases v<;>cases w<;>simp_all))
 ·rename_i l hl
  exact TR hf (.inr ⟨l,hl⟩) h
 ·exact h.elim
theorem I4 {K:Tm→St→Prop} {dst:Option Nat} {o:AO} {t:Nat} {w:Bool} {b:Nat} {r:List (AI×Nat)} {bK:List St} {tm:Tm} {s:St} (h:GL P (tm.get t) w (.op dst none o) b r K bK tm s) :
 iB P K ((.op dst (some (t,w)) o,b)::r) bK tm s:=O2 (.inl ⟨dst,o,rfl,rfl⟩) h
theorem NZ {K:Tm→St→Prop} {dst:Option Nat} {f:Nat} {xs:List X} {t:Nat} {w:Bool} {b:Nat} {r:List (AI×Nat)} {bK:List St} {tm:Tm} {s:St} (h:GL P (tm.get t) w (.call dst none f xs) b r K bK tm s) :
 iB P K ((.call dst (some (t,w)) f xs,b)::r) bK tm s:=O2 (.inr ⟨dst,f,xs,rfl,rfl⟩) h
theorem CU {f:Nat} {args:List D} {s:St} {d:D} {s':St} {K:D→St→Prop} (h:aA P f args s d s') (hk:K d s'):CL P f args s K:=⟨d,s',h,hk⟩
end
end Go.Abs
namespace Go.Abs
theorem nd {α:Type} {a b:α} (h:a=b):a=b:=h
def GJ (g:D) (w:Bool) (A C:Prop):Prop:=
 match g with
 | .bool b=>(b=w→A)∧(b=(!w)→C)
 | .tuple _=>C
 |_=>False
class Two where
 a:Prop
 c:Prop
def CB (d:D) [b:Two] : Prop:=wD d b.a b.c
def GB (d:D) (w:Bool) [b:Two] : Prop:=GJ d w b.a b.c
def ou (g:Option (Nat×Bool)) (tm:Tm) (A C:Prop):Prop:=
 match g with
 |none=>A
 |some (t,w)=>GJ (tm.get t) w A C
def ln (P:Program):List AI→(Tm→St→Prop)→Tm→St→Prop
 | [],K,tm,s=>K tm s
 | .op dst g o::r,K,tm,s=>ou g tm (match a8 o tm s with|some (d,s')=>ln P r K (tm.put dst d) s'|none=>False) (ln P r K (tm.put dst (.tuple [])) s)
 | .call dst g f xs::r,K,tm,s=>ou g tm (CL P f (xs.map (·.ev tm)) s fun d s'=>ln P r K (tm.put dst d) s') (ln P r K (tm.put dst (.tuple [])) s)
 | .nil dst g neg x::r,K,tm,s=>
  ou g tm (match x.ev tm with
   | .slice _ _ rows=>∀ b:Bool,(rows≠ []→b=false)→ln P r K (tm.put dst (.bool (if neg then !b else b))) s
   |_=>False) (ln P r K (tm.put dst (.tuple [])) s)
 | .kg dst g t xs::r,K,tm,s=>
  ou g tm (match tm.get t with
   | .iK f oU=>enters P f=true∧CL P f (xs.map (·.ev tm)++oU) s fun d s'=>ln P r K (tm.put dst d) s'
   |_=>False) (ln P r K (tm.put dst (.tuple [])) s)
theorem uG {g:Option (Nat×Bool)} {tm:Tm} {A C A' C':Prop} (h:ou g tm A C) (ha:A→A') (hc:C→C'):guarded g tm A' C':=by
 unfold ou at h
 unfold guarded
 cases g with
 |none=>exact ha h
 | some p=>
  obtain⟨t,w⟩:=p
  simp only[GJ]at h ⊢
  split at h
  ·rename_i hb;try simp only [hb]
   exact⟨fun e=>ha (h.1 e),fun e=>hc (h.2 e)⟩
  ·rename_i hb;try simp only [hb]
   exact hc h
  ·exact h.elim
theorem pI {P:Program} {K:Tm→St→Prop} : ∀ {is:List AI} {tm:Tm} {s:St},ln P is K tm s→jK P is K tm s
 | [],tm,s,h=>h
 | .op dst g o::r,tm,s,h=>by
  refine uG h (fun h=>?_) pI
  split at h
  ·rename_i he;try simp only [he]
   exact pI h
  ·exact h.elim
 | .call dst g f xs::r,tm,s,h=>uG h (fun⟨d,s',h1,h2⟩=>h1.use (pI h2)) pI
 | .nil dst g neg x::r,tm,s,h=>by
  refine uG h (fun h=>?_) pI
  split at h
  ·rename_i he;try simp only [he]
   exact fun b hb=>pI (h b hb)
  ·exact h.elim
 | .kg dst g t xs::r,tm,s,h=>by
  refine uG h (fun h=>?_) pI
  split at h
  ·rename_i he;try simp only [he]
   obtain⟨h0,d,s',h1,h2⟩:=h
   exact⟨h0,h1.use (pI h2)⟩
  ·exact h.elim
def gX (P:Program) (K:Tm→St→Prop):List (AI×Nat)→List St→Tm→St→Prop
 | [],_,tm,s=>K tm s
 |(.op dst g o,b)::r,bK,tm,s=>
  match o.core with
  |true=>ou g tm (match a8 o tm s with|some (d,s')=>gX P K r (s::bK) (tm.put dst d) s'|none=>False) (gX P K r (s::bK) (tm.put dst (.tuple [])) s)
  |false=>ou g tm (match a8 o tm s with|some (d,_)=>pA (.op dst none o) tm d (bK.take b)∧gX P K r bK (tm.put dst d) s|none=>False) (gX P K r bK (tm.put dst (.tuple [])) s)
 |(.call dst g f xs,_)::r,bK,tm,s=>ou g tm (CL P f (xs.map (·.ev tm)) s fun d s'=>gX P K r (s::bK) (tm.put dst d) s') (gX P K r (s::bK) (tm.put dst (.tuple [])) s)
 |(.nil ..,_)::_,_,_,_=>False
 |(.kg ..,_)::_,_,_,_=>False
theorem CY {P:Program} {t:Nat} {w:Bool} {tm:Tm} {i:AI} {b:Nat} {r:List (AI×Nat)} {K:Tm→St→Prop} {bK:List St} {s:St} {A C:Prop} (h:ou (some (t,w)) tm A C) (ha:A→iB P K ((i,b)::r) bK tm s)
 (hc:C→iB P K r (if iA i.kind then s::bK else bK) (tm.put i.dst (.tuple [])) s):GL P (tm.get t) w i b r K bK tm s:=by
 simp only[ou,GJ]at h
 unfold GL
 split at h
 ·rename_i hb;try simp only [hb]
  exact⟨fun e=>ha (h.1 e),fun e=>hc (h.2 e)⟩
 ·rename_i hb;try simp only [hb]
  exact hc h
 ·exact h.elim
theorem nS {P:Program} {K:Tm→St→Prop} : ∀ {l:List (AI×Nat)} {bK:List St} {tm:Tm} {s:St},gX P K l bK tm s→iB P K l bK tm s
 | [],bK,tm,s,h=>h
 | (.op dst g o,b)::r,bK,tm,s,h=>by
  simp only[gX]at h
  cases hc:o.core with
  | true=>
   simp only[hc]at h
   have ha:(match a8 o tm s with|some (d,s')=>gX P K r (s::bK) (tm.put dst d) s'|none=>False)→iB P K ((.op dst none o,b)::r) bK tm s:=by
    intro h
    refine LG ?_
    simp only[OL,hc,ML]
    split at h
    ·rename_i he;try simp only [he]
     exact nS h
    ·exact h.elim
   cases g with
   |none=>exact ha h
   |some p=>
    obtain⟨t,w⟩:=p
    refine I4 (CY h ha fun h=>?_)
    simp only[vi,hc,if_true]
    exact nS h
  | false=>
   simp only[hc]at h
   have ha:(match a8 o tm s with|some (d,_)=>pA (.op dst none o) tm d (bK.take b)∧gX P K r bK (tm.put dst d) s|none=>False)→iB P K ((.op dst none o,b)::r) bK tm s:=by
    intro h
    refine LG ?_
    simp only[OL,hc,PL]
    split at h
    ·rename_i he;try simp only [he]
     exact⟨h.1,nS h.2⟩
    ·exact h.elim
   cases g with
   |none=>exact ha h
   |some p=>
    obtain⟨t,w⟩:=p
    refine I4 (CY h ha fun h=>?_)
    simp only[vi,hc]
    exact nS h
 | (.call dst g f xs,b)::r,bK,tm,s,h=>by
  simp only[gX]at h
  have ha:(CL P f (xs.map (·.ev tm)) s fun d s'=>gX P K r (s::bK) (tm.put dst d) s')→iB P K ((.call dst none f xs,b)::r) bK tm s:=
   fun⟨d,s',h1,h2⟩=>QG ⟨d,s',h1,nS h2⟩
  cases g with
  |none=>exact ha h
  |some p=>
   obtain⟨t,w⟩:=p
   exact NZ (CY h ha fun h=>nS h)
 |(.nil ..,_)::_,bK,tm,s,h=>h.elim
 |(.kg ..,_)::_,bK,tm,s,h=>h.elim
section
variable {P:Program} {B:fZ} {nt:Nat}
def gS (P:Program) (B:fZ) (nt:Nat):AC→(Exit→Tm→St→Prop)→Tm→St→Prop
 | .skip,Q,tm,s=>Q .normal tm s
 | .run is,Q,tm,s=>ln P is (Q .normal) tm s
 | .par is nn,Q,tm,s=>match oq is nn with|some l=>gX P (Q .normal) l [] tm s|none=>False
 | .seq a b,Q,tm,s=>gS P B nt a (jF (gS P B nt b Q) Q) tm s
 | .cond x a b,Q,tm,s=>wD (x.ev tm) (gS P B nt a Q tm s) (gS P B nt b Q tm s)
 | .block id a,Q,tm,s=>gS P B nt a (gI id Q) tm s
 | .loop a,Q,tm,s=>bn P B nt a Q tm s
 | .exit id,Q,tm,s=>Q (.exit id) tm s
 | .scope a,Q,tm,s=>pP P B nt a a Q tm s
 | .label _,Q,tm,s=>Q .normal tm s
 | .goto l,Q,tm,s=>Q (.goto l) tm s
 | .ret,Q,tm,s=>Q .ret tm s
theorem jn : ∀ {ac:AC} {Q:Exit→Tm→St→Prop} {tm:Tm} {s:St},gS P B nt ac Q tm s→Sem P B nt ac Q tm s:=by
 intro ac
 induction ac with
 |skip=>exact fun h=>Sem.skip h
 |run is=>exact fun h=>Sem.run (pI h)
 |par is nn=>
  intro Q tm s h
  simp only[gS]at h
  split at h
  ·exact Sem.akT ‹_› (nS h)
  ·exact h.elim
 |seq a b vb wa=>
  intro Q tm s h
  refine Sem.seq ((vb h).mono fun e tm s hq=>?_)
  cases e with
  |normal=>exact wa hq
  |_=>exact hq
 |cond x a b vb wa=>
  intro Q tm s h
  refine Sem.ahu ?_
  simp only[gS]at h
  unfold wD at h ⊢
  split at h
  ·exact⟨fun e=>vb (h.1 e),fun e=>wa (h.2 e)⟩
  ·exact h.elim
 |block id a ih=>exact fun h=>Sem.block (ih h)
 |loop a ih=>exact fun h=>Sem.loop h
 |exit id=>exact fun h=>Sem.exit h
 |scope a ih=>exact fun h=>Sem.scope h
 |label l=>exact fun h=>Sem.label h
 |goto l=>exact fun h=>Sem.goto h
 |ret=>exact fun h=>Sem.ret h
section
variable (Q:Exit→Tm→St→Prop) (N:Tm→St→Prop) (tm:Tm) (s:St) (a b:AC) (is:List AI) (x:X)
theorem WY:gS P B nt .skip Q tm s=Q .normal tm s:=nd rfl
theorem abr:gS P B nt (.run is) Q tm s=ln P is (Q .normal) tm s:=nd rfl
theorem abt (nn:List (Nat×Nat)):gS P B nt (.par is nn) Q tm s=match oq is nn with|some l=>gX P (Q .normal) l [] tm s|none=>False:=nd rfl
theorem abu:gS P B nt (.seq a b) Q tm s=gS P B nt a (jF (gS P B nt b Q) Q) tm s:=nd rfl
theorem WZ:gS P B nt (.cond x a b) Q tm s = @CB (x.ev tm) ⟨gS P B nt a Q tm s,gS P B nt b Q tm s⟩:=nd rfl
theorem TS (id:Nat):gS P B nt (.block id a) Q tm s=gS P B nt a (gI id Q) tm s:=nd rfl
theorem W0:gS P B nt (.loop a) Q tm s=bn P B nt a Q tm s:=nd rfl
theorem TT:gS P B nt (.scope a) Q tm s=pP P B nt a a Q tm s:=nd rfl
theorem W1 (id:Nat):gS P B nt (.exit id) Q tm s=Q (.exit id) tm s:=nd rfl
theorem TU (id:Nat):gS P B nt (.label id) Q tm s=Q .normal tm s:=nd rfl
theorem W2 (id:Nat):gS P B nt (.goto id) Q tm s=Q (.goto id) tm s:=nd rfl
theorem abv:gS P B nt .ret Q tm s=Q .ret tm s:=nd rfl
theorem abw:jF N Q .normal tm s=N tm s:=nd rfl
theorem abx:jF N Q .ret tm s=Q .ret tm s:=nd rfl
theorem aby (id:Nat):jF N Q (.exit id) tm s=Q (.exit id) tm s:=nd rfl
theorem abz (id:Nat):jF N Q (.goto id) tm s=Q (.goto id) tm s:=nd rfl
theorem W3 (id:Nat):gI id Q .normal tm s=Q .normal tm s:=nd rfl
theorem W4 (id:Nat):gI id Q .ret tm s=Q .ret tm s:=nd rfl
theorem W5 (id l:Nat):gI id Q (.goto l) tm s=Q (.goto l) tm s:=nd rfl
theorem W6 (id i:Nat):gI id Q (.exit i) tm s=if i=id then Q .normal tm s else Q (.exit i) tm s:=nd rfl
end
theorem bn.uH {a:AC} {Q:Exit→Tm→St→Prop} {tm:Tm} {s:St} (h:gS P B nt a (jF (bn P B nt a Q) Q) tm s):bn P B nt a Q tm s:=bn.once (jn h)
theorem pP.uH {a r:AC} {Q:Exit→Tm→St→Prop} {tm:Tm} {s:St} (h:gS P B nt r (ld P B nt a Q) tm s):pP P B nt a r Q tm s:=pP.once (jn h)
def wg (tm:Tm) (n m:Nat):Tm→Prop
 | []=>True
 |(k,d)::r=>Wk ((tm.get k).fg n m) d∧wg tm n m r
theorem wg.get {tm:Tm} {n m:Nat} : ∀ {bU:Tm},wg tm n m bU→∀ t,Wk ((tm.get t).fg n m) (bU.get t)
 | [],_,t=>Wk.junk _
 |(k,d)::r,h,t=>by
  simp only[Tm.get]
  split
  ·rename_i hk;subst hk;exact h.1
  ·exact wg.get h.2 t
theorem Holds.re {Q:Exit→Tm→St→Prop} {tm bU:Tm} {s:St} {l9:List (List D)} {act:Act} {w:World} (n m:Nat) (hn:B.s.az.length≤n) (hm:B.s.aD.length≤m) (ht:wg tm n m bU) (ho:jw (s.cut n m).az l9)
 (h:Holds B nt tm s act w):Holds B nt bU ⟨l9,(s.cut n m).aD⟩ act w:=by
 obtain⟨M,e,r,hr,h1,h2⟩:=h
 obtain⟨r',le⟩:=(r.cut n m).CR ho
 have e':=e.cut hn hm
 refine⟨M,e'.trans ⟨le,fun _ _ _ _=>rfl,fun o h1 h2=>?_,fun t b c z hl e=> .inl ⟨hl,c,z,e⟩,fun _ _ h=>(h rfl).elim,Nat.le_refl _,rfl,rfl,rfl⟩,r',fun k=>((ht.get k) _ _ _ ((hr k).fg n m)).mono le,h1,h2⟩
 rw[← ho.len]at h2
 exact h1.elim (fun h1=>absurd h2 (Nat.not_lt.2 h1)) fun h1=>(h1 rfl).elim
theorem bn.re {a:AC} {Q:Exit→Tm→St→Prop} {tm:Tm} {s:St} (bU:Tm) (l9:List (List D)) (n m:Nat) (hn:B.s.az.length≤n) (hm:B.s.aD.length≤m) (ht:wg tm n m bU) (ho:jw (s.cut n m).az l9)
 (h:bn P B nt a Q bU ⟨l9,(s.cut n m).aD⟩):bn P B nt a Q tm s:=
 fun c hc act w hh=>h c hc act w (hh.re (Q:=Q) n m hn hm ht ho)
theorem pP.re {a r:AC} {Q:Exit→Tm→St→Prop} {tm:Tm} {s:St} (bU:Tm) (l9:List (List D)) (n m:Nat) (hn:B.s.az.length≤n) (hm:B.s.aD.length≤m) (ht:wg tm n m bU) (ho:jw (s.cut n m).az l9)
 (h:pP P B nt a r Q bU ⟨l9,(s.cut n m).aD⟩):pP P B nt a r Q tm s:=
 fun c rest hc hr act w hh=>h c rest hc hr act w (hh.re (Q:=Q) n m hn hm ht ho)
theorem bn.ind {ι:Type} {a:AC} {Q:Exit→Tm→St→Prop} (I:ι→Prop) (μ:ι→Nat) (TM:ι→Tm) (ST:ι→St)
 (step : ∀ i,I i→(∀ j,I j→μ j<μ i→bn P B nt a Q (TM j) (ST j))→gS P B nt a (jF (bn P B nt a Q) Q) (TM i) (ST i)) : ∀ i,I i→bn P B nt a Q (TM i) (ST i):=by
 have key : ∀ n i,μ i<n→I i→bn P B nt a Q (TM i) (ST i):=by
  intro n
  induction n with
  |zero=>intro i h;exact absurd h (Nat.not_lt_zero _)
  |succ n ih=>exact fun i h hi=>bn.uH (step i hi fun j hj hY=>ih j (by omega) hj)
 exact fun i hi=>key (μ i+1) i (Nat.lt_succ_self _) hi
theorem drop_cons {α:Type} {l rest:List α} {k:Nat} {x:α} (h:l.drop k=x::rest):l[k]? = some x∧l.drop (k+1)=rest∧decide ((k:Int)<(l.length:Int))=true∧k<l.length:=by
 have h1:l[k]? = some x:=by
  have:(l.drop k)[0]? = some x:=by rw[h];rfl
  simpa using this
 have h2:=(List.getElem?_eq_some_iff.1 h1).1
 refine⟨h1, ?_,by simpa using h2,h2⟩
 have:l.drop (k+1)=(l.drop k).drop 1:=by rw[List.drop_drop]
 rw[this,h];rfl
theorem drop_nil {α:Type} {l:List α} {k:Nat} (h:l.drop k = []):decide ((k:Int)<(l.length:Int))=false:=by
 have:=List.drop_eq_nil_iff.1 h
 simp;omega
theorem bn.oZ {a:AC} {Q:Exit→Tm→St→Prop} {tm:Tm} {s:St} (t z':Nat) {z:Nat} (hw:tm.get t = .slice .full z [])
 (h:bn P B nt a Q (tm.set t (.slice (.tok s.aD.length) z' [])) {s with aD:=s.aD++ [some 0]}):bn P B nt a Q tm s:=by
 intro c hc act w ⟨M,e,r,ht,h1,h2⟩
 obtain⟨r',le⟩:=r.blank
 refine h c hc act w ⟨_,CS e le,r',fun k=>?_,h1,h2⟩
 rw[Tm.DL]
 split
 ·rename_i hk;subst hk;have:=ht k;rw[hw]at this;exact this.own
 ·exact(ht k).mono le
theorem bn.xn {a:AC} {Q:Exit→Tm→St→Prop} {tm:Tm} {s:St} (o i z':Nat) {z:Nat} {cs:List D} (hc:s.az[o]? = some cs) (hi:cs[i]? = some (.slice .full z []))
 (h:bn P B nt a Q tm ⟨s.az.set o (cs.set i (.slice (.tok s.aD.length) z' [])),s.aD++ [some 0]⟩):bn P B nt a Q tm s:=by
 intro c hcc act w hh
 obtain⟨M,e,r,ht,h1,h2⟩:=hh
 obtain⟨r',le⟩:=r.blank
 have le':Le M s (M.fq s.aD.length none) ⟨s.az.set o (cs.set i (.slice (.tok s.aD.length) z' [])),s.aD++ [some 0]⟩:=⟨le.G,by simp,le.loc,le.t,le.tk⟩
 have le2:Le (M.fq s.aD.length none) {s with aD:=s.aD++ [some 0]} (M.fq s.aD.length none) ⟨s.az.set o (cs.set i (.slice (.tok s.aD.length) z' [])),s.aD++ [some 0]⟩:=
  ⟨fun _ _ _ h=>h,by simp,fun _ _=> .refl _,Nat.le_refl _,fun t n' _ e=>⟨n',e,Nat.le_refl _,fun _=>rfl⟩⟩
 have r2:Rel (M.fq s.aD.length none) ⟨s.az.set o (cs.set i (.slice (.tok s.aD.length) z' [])),s.aD++ [some 0]⟩ w:=by
  refine⟨r'.comm,fun o' ds e=>?_,fun o ho=>r'.lj o (by simpa using ho),fun o o' ho oP=>r'.inj o o' (by simpa using ho) (by simpa using oP),r'.tok,
   fun t b c z o hv e ho=>r'.fG t b c z o hv e (by simpa using ho),r'.gQ⟩
  simp only[List.getElem?_set]at e
  split at e
  ·rename_i ho
   subst ho
   split at e
   ·cases e
    obtain⟨vs,T,g1,g2,g3,g4⟩:=r.obj o cs hc
    refine⟨vs,T,g1,by simpa using g2,g3,fun j d v e1 e2=>?_⟩
    rw[List.getElem?_set]at e1
    split at e1
    ·rename_i hj
     subst hj
     split at e1
     ·cases e1
      exact((g4 i _ v hi e2).own (z':=z')).mono le2
     ·cases e1
    ·exact(g4 j d v e1 e2).mono le'
   ·cases e
  ·obtain⟨vs,T,g1,g2,g3,g4⟩:=r'.obj o' ds e
   exact⟨vs,T,g1,g2,g3,fun i d v e1 e2=>(g4 i d v e1 e2).mono le2⟩
 have ee:Ext B.M B.s B.w (M.fq s.aD.length none) ⟨s.az.set o (cs.set i (.slice (.tok s.aD.length) z' [])),s.aD++ [some 0]⟩ w:=by
  refine(CS e le).trans ⟨le2,fun _ _ _ _=>rfl,fun o h1 h2=>?_,fun t b c z hl e=> .inl ⟨hl,c,z,e⟩,fun _ _ h=>(h rfl).elim,Nat.le_refl _,rfl,rfl,rfl⟩
  simp at h2
  exact h1.elim (fun h1=>absurd h2 (Nat.not_lt.2 h1)) fun h1=>(h1 rfl).elim
 exact h c hcc act w ⟨_,ee,r2,fun k=>(ht k).mono le',h1,h2⟩
theorem cG {ac r:AC} {l:Nat} {Q:Exit→Tm→St→Prop} {tm:Tm} {s:St} (hf:uA ac l=some r) (h:gS P B nt r (ld P B nt ac Q) tm s):ld P B nt ac Q (.goto l) tm s:=⟨r,hf,pP.uH h⟩
theorem W7 {ac r:AC} {l:Nat} {Q:Exit→Tm→St→Prop} {tm:Tm} {s:St} (hf:uA ac l=some r) (h:pP P B nt ac r Q tm s):ld P B nt ac Q (.goto l) tm s:=⟨r,hf,h⟩
theorem Sem.ma {a b:AC} {Q:Exit→Tm→St→Prop} {tm:Tm} {s:St} (h:gS P B nt a (jF (Sem P B nt b Q) Q) tm s):Sem P B nt (.seq a b) Q tm s:=Sem.seq (jn h)
theorem Sem.re {a:AC} {Q:Exit→Tm→St→Prop} {tm:Tm} {s:St} (bU:Tm) (l9:List (List D)) (n m:Nat) (hn:B.s.az.length≤n) (hm:B.s.aD.length≤m) (ht:wg tm n m bU) (ho:jw (s.cut n m).az l9)
 (h:Sem P B nt a Q bU ⟨l9,(s.cut n m).aD⟩):Sem P B nt a Q tm s:=
 fun c hc act w hh=>h c hc act w (hh.re (Q:=Q) n m hn hm ht ho)
def Has (P:Program) (f nt:Nat) (res:List (Nat×Option (Bool×Nat))) (body:AC):Prop:=∃ fn,P.funcs[f]? = some fn∧cF P fn=some ⟨nt,res,body⟩
theorem aA.go {f:FuncId} {res:List (Nat×Option (Bool×Nat))} {body:AC} {args:List D} {s:St} {d:D} {s':St} (h0:Has P f nt res body) (hl:Nat.ble args.length nt=true)
 (h : ∀ (B:fZ) (Q:Exit→Tm→St→Prop),B.s=s→jO s.az.length s.aD.length res d s'=Q→gS P B nt body Q (pX 0 args) s):aA P f args s d s':=by
 obtain⟨fn,hf,hc⟩:=h0
 exact aA.intro ⟨fn,hf,hc⟩ (Nat.le_of_ble_eq_true hl) fun B hB=>jn (h B _ hB rfl)
theorem aA.ahx {f:FuncId} {args row l6:List D} {rows mW:List (List D)} {z z' k k':Nat} (h:aA P f (.ptr 0 0:: .slice (.tok 0) z rows::args) ⟨[row],[some k]⟩ (.slice (.tok 0) z' mW) ⟨[l6],[some k']⟩)
 (ha:D.bN 0 0 args=true) (hr:D.bN 0 0 row=true) (Lc:D.bN 0 0 l6=true) (hw:D.kc 0 0 rows=true) (TV:D.kc 0 0 mW=true)
 {s:St} {o t:Nat} (ho:s.az[o]? = some row) (ht:s.aD[t]? = some (some k)):aA P f (.ptr o 0:: .slice (.tok t) z rows::args) s (.slice (.tok t) z' mW) ⟨s.az.set o l6,s.aD.set t (some k')⟩:=by
 refine fh.frame [o] [t] h (by simp) (by simp) (by simpa using (List.getElem?_eq_some_iff.1 ho).1) (by simpa using (List.getElem?_eq_some_iff.1 ht).1) rfl (fun i o' ds e1 e2=>?_) rfl (fun i t' e1=>?_)
  (by simp[D.iu,D.ey,Tag.ey,fX _ _ _ ha,kD _ _ _ hw])
  (by simp[D.bN,D.ok,Tag.ok,jf (Nat.zero_le 1) (Nat.zero_le 1) _ ha,o6 (Nat.zero_le 1) (Nat.zero_le 1) _ hw]) ?_
 ·cases i with
  |zero=>simp at e1 e2;subst e1;subst e2;exact⟨by rw[fX _ _ _ hr];exact ho,jf (Nat.zero_le 1) (Nat.zero_le 1) _ hr⟩
  |succ i=>simp at e1
 ·cases i with
  |zero=>simp at e1;subst e1;simp[ht]
  |succ i=>simp at e1
 ·rintro _ _ ⟨rfl,rfl⟩
  refine⟨by simp[D.back,D.ey,Tag.ey,lF,kD _ _ _ TV], ?_⟩
  simp[St.back,lK,fX _ _ _ Lc]
theorem aA.aee {f:FuncId} {pre post:List D} {rows mW:List (List D)} {z z' k k':Nat} (h:aA P f (pre++ .slice (.tok 0) z rows::post) ⟨[],[some k]⟩ (.slice (.tok 0) z' mW) ⟨[],[some k']⟩)
 (hp:D.bN 0 0 pre=true) (ha:D.bN 0 0 post=true) (hw:D.kc 0 0 rows=true) (TV:D.kc 0 0 mW=true)
 {s:St} {t:Nat} (ht:s.aD[t]? = some (some k)):aA P f (pre++ .slice (.tok t) z rows::post) s (.slice (.tok t) z' mW) ⟨s.az,s.aD.set t (some k')⟩:=by
 refine fh.frame [] [t] h (by simp) (by simp) (by simp) (by simpa using (List.getElem?_eq_some_iff.1 ht).1) rfl (fun i o' ds e1 e2=>by simp at e1) rfl (fun i t' e1=>?_)
  ?_ ?_ ?_
 ·cases i with
  |zero=>simp at e1;subst e1;simp[ht]
  |succ i=>simp at e1
 ·have h1:=fX [] [t] _ hp
  have h2:=fX [] [t] _ ha
  rw[gD]at h1 h2
  simp[gD,D.ey,Tag.ey,h1,h2,kD _ _ _ hw]
 ·have h1:=jf (n':=0) (m':=1) (Nat.le_refl 0) (Nat.zero_le 1) _ hp
  have h2:=jf (n':=0) (m':=1) (Nat.le_refl 0) (Nat.zero_le 1) _ ha
  rw[CQ]at h1 h2 ⊢
  simp only[List.length_nil,List.length_cons,List.all_append,h1,Bool.true_and,List.all_cons,h2,Bool.and_true,D.ok,Tag.ok,o6 (Nat.zero_le 0) (Nat.zero_le 1) _ hw]
  rfl
 ·rintro _ _ ⟨rfl,rfl⟩
  refine⟨by simp[D.back,D.ey,Tag.ey,lF,kD _ _ _ TV], ?_⟩
  simp[St.back,lK]
theorem akW (A C:Prop) : @CB (.bool true) ⟨A,C⟩=A:=by simp[CB,wD]
theorem akX (A C:Prop) : @CB (.bool false) ⟨A,C⟩=C:=by simp[CB,wD]
theorem aef (b:Bool) (A C:Prop) : @CB (.bool (!b)) ⟨A,C⟩ = @CB (.bool b) ⟨C,A⟩:=by
 cases b<;>simp[CB,wD]
theorem LH {b:Bool} {A C:Prop} (h1:b=true→A) (h2:b=false→C) : @CB (.bool b) ⟨A,C⟩:=⟨h1,h2⟩
theorem aeg {b:Bool} {A C:Prop} (h:b=true) (h1:b=true→A) : @CB (.bool b) ⟨A,C⟩:=LH h1 (fun h'=>by rw[h]at h';cases h')
theorem aeh {b:Bool} {A C:Prop} (h:b=false) (h1:b=false→C) : @CB (.bool b) ⟨A,C⟩:=LH (fun h'=>by rw[h]at h';cases h') h1
theorem ahy {n m:Nat} {res:List (Nat×Option (Bool×Nat))} {d:D} {s':St} {tm:Tm} {s:St} {Q:Exit→Tm→St→Prop} (hQ:jO n m res d s'=Q)
 (h : ∃ l,cj res tm s=some l∧Wk ((cr l).fg n m) d∧jw (s.cut n m).az s'.az∧(s.cut n m).aD=s'.aD):Q .ret tm s:=hQ ▸ h
theorem ahz {n m:Nat} {res:List (Nat×Option (Bool×Nat))} {d:D} {s':St} {tm:Tm} {s:St} {Q:Exit→Tm→St→Prop} (hQ:jO n m res d s'=Q)
 (h : ∃ l,cj res tm s=some l∧Wk ((cr l).fg n m) d∧jw (s.cut n m).az s'.az∧(s.cut n m).aD=s'.aD):Q .normal tm s:=hQ ▸ h
end
attribute [go_sem] WY abr abt abu WZ TS W0 TT W1 TU W2 abv abw abx aby abz W3 W4 W5 W6
theorem TX : ∀ (tm:Tm) (s:St) (x:X),a8 (AO.mv x) tm s=some (X.ev tm x,s):=
 fun tm s x=>nd (a8.eq_1 tm s x)
theorem TY : ∀ (tm:Tm) (s:St) (c a b:X),
 a8 (AO.pick c a b) tm s =
  match X.ev tm c with
  |D.bool t=>some (if t=true then X.ev tm a else X.ev tm b,s)
  |x=>none:=
 fun tm s c a b=>nd (a8.eq_2 tm s c a b)
theorem T1 : ∀ (tm:Tm) (s:St) (zero:List D),
 a8 (AO.alloc zero) tm s=some (D.ptr s.az.length 0,{az:=s.az++ [zero],aD:=s.aD}):=
 fun tm s zero=>nd (a8.eq_3 tm s zero)
theorem T2 : ∀ (tm:Tm) (s:St) (x:X),
 a8 (AO.box x) tm s =
  match (X.ev tm x).row with
  |some r=>some (D.ptr s.az.length 0,{az:=s.az++ [r],aD:=s.aD})
  |none=>none:=
 fun tm s x=>nd (a8.eq_4 tm s x)
theorem T3 : ∀ (tm:Tm) (s:St) (zero:List D) (parts:List (Nat×Nat×X)),
 a8 (AO.build zero parts) tm s =
  match sB zero (List.map (fun(p:Nat×Nat×X)=>(p.fst,p.snd.fst,X.ev tm p.snd.snd)) parts)with
  |some cs=>some (D.agg cs,s)
  |none=>none:=
 fun tm s zero parts=>nd (a8.eq_5 tm s zero parts)
theorem T4 : ∀ (tm:Tm) (s:St) (zero:List D) (size n:Nat) (parts:List (Nat×X)),
 a8 (AO.c9 zero size n parts) tm s =
  match kT size (gW zero n) (List.map (fun(p:Nat×X)=>(p.fst,X.ev tm p.snd)) parts)with
  |some rows=>some (D.slice Tag.full size rows,s)
  |none=>none:=
 fun tm s zero size n parts=>nd (a8.eq_6 tm s zero size n parts)
theorem T5 : ∀ (tm:Tm) (s:St) (zero:List D) (size n:Nat) (parts:List (Nat×X)),
 a8 (AO.w9 zero size n parts) tm s =
  match kT size (gW zero n) (List.map (fun(p:Nat×X)=>(p.fst,X.ev tm p.snd)) parts)with
  |some rows=>
   some (D.slice (Tag.tok s.aD.length) size rows,{az:=s.az,aD:=s.aD++ [some rows.length]})
  |none=>none:=
 fun tm s zero size n parts=>nd (a8.eq_7 tm s zero size n parts)
theorem T6 : ∀ (tm:Tm) (s:St) (x:X),
 a8 (AO.Co x) tm s =
  match X.ev tm x with
  | D.slice (Tag.tok t _) z rows=>
   if rows≠ []∧s.aD[t]? = some (some rows.length)then
    some (D.slice Tag.shared z rows,{az:=s.az,aD:=s.aD.set t none})
   else none
  |x=>none:=
 fun tm s x=>nd (a8.eq_8 tm s x)
theorem T7 : ∀ (tm:Tm) (s:St) (x:X) (agg:Bool) (size:Nat),
 a8 (AO.load x agg size) tm s =
  match X.ev tm x with
  | D.ptr o off=>
   match s.az[o]? with
   |some cs=>
    match part cs off agg size with
    |some d=>some (d,s)
    |none=>none
   |none=>none
  |D.eJ row off=>
   match part row off agg size with
   |some d=>some (d,s)
   |none=>none
  |x=>DI x agg size s:=
 fun tm s x agg size=>nd (a8.eq_9 tm s x agg size)
theorem QH : ∀ (tm:Tm) (s:St) (p x:X) (size:Nat),
 a8 (AO.store p x size) tm s =
  match X.ev tm p,(X.ev tm x).row with
  | D.ptr o off,some r=>
   match s.az[o]? with
   | some cs=>
    if r.length=size∧off+size≤cs.length then
     some (D.tuple [],{az:=s.az.set o (jv cs off r),aD:=s.aD})
    else none
   |none=>none
  |x,fO=>FM x fO size s:=
 fun tm s p x size=>nd (a8.eq_10 tm s p x size)
theorem QI : ∀ (tm:Tm) (s:St) (x:X),
 a8 (AO.dN x) tm s =
  match X.ev tm x with
  |D.ptr o off=>some (D.ptr o off,s)
  |D.eJ row off=>some (D.eJ row off,s)
  |x=>match Wv x with|some d=>some (d,s)|none=>none:=
 fun tm s x=>nd (a8.eq_11 tm s x)
theorem QJ : ∀ (tm:Tm) (s:St) (op:BinOp) (x y:X),
 a8 (AO.bin op x y) tm s =
  match zf op (X.ev tm x) (X.ev tm y)with
  |some d=>some (d,s)
  |none=>none:=
 fun tm s op x y=>nd (a8.eq_12 tm s op x y)
theorem QK : ∀ (tm:Tm) (s:St) (neg:Bool) (x y:X),
 a8 (AO.BW neg x y) tm s =
  match X.ev tm x,X.ev tm y with
  |D.bool a,D.bool b=>some (D.bool (if neg=true then !a==b else a==b),s)
  |x,fO=>none:=
 fun tm s neg x y=>nd (a8.eq_13 tm s neg x y)
theorem QL : ∀ (tm:Tm) (s:St) (neg:Bool) (ks:List Nat) (x y:X),
 a8 (AO.eqs neg ks x y) tm s =
  match X.ev tm x,X.ev tm y with
  |D.agg a,D.agg b=>
   match mC ks a b with
   |some e=>some (D.bool (if neg=true then !e else e),s)
   |none=>none
  |x,fO=>none:=
 fun tm s neg ks x y=>nd (a8.eq_14 tm s neg ks x y)
theorem QM : ∀ (tm:Tm) (s:St) (neg:Bool) (x y:X),
 a8 (AO.IL neg x y) tm s =
  match X.ev tm x,X.ev tm y with
  |D.fS,D.fS=>some (D.bool !neg,s)
  |D.ptr o off,D.fS=>some (D.bool neg,s)
  |D.eJ row off,D.fS=>some (D.bool neg,s)
  |x,fO=>none:=
 fun tm s neg x y=>nd (a8.eq_15 tm s neg x y)
theorem QN : ∀ (tm:Tm) (s:St) (op:UnOp) (x:X),
 a8 (AO.un op x) tm s =
  match K3 op (X.ev tm x)with
  |some d=>some (d,s)
  |none=>none:=
 fun tm s op x=>nd (a8.eq_16 tm s op x)
theorem QO : ∀ (tm:Tm) (s:St) (k:IntKind) (x:X),
 a8 (AO.conv k x) tm s =
  match X.ev tm x with
  |D.int k_1 n=>some (D.int k (k.wrap n),s)
  |x=>none:=
 fun tm s k x=>nd (a8.eq_17 tm s k x)
theorem QP : ∀ (tm:Tm) (s:St) (x:X),
 a8 (AO.AX x) tm s =
  match X.ev tm x with
  |D.slice g size rows=>
   match ke rows with
   |some b=>some (D.str b,s)
   |none=>none
  |x=>none:=
 fun tm s x=>nd (a8.eq_18 tm s x)
theorem QQ : ∀ (tm:Tm) (s:St) (x:X),
 a8 (AO.zO x) tm s =
  match X.ev tm x with
  |D.str l=>some (D.slice Tag.shared 1 (List.map (fun(c:UInt8)=> [D.int IntKind.u8 ↑c.toNat]) l),s)
  |x=>none:=
 fun tm s x=>nd (a8.eq_19 tm s x)
theorem QR : ∀ (tm:Tm) (s:St) (size:Nat) (x:X) (lo hi:Option X),
 a8 (AO.KZ size x lo hi) tm s =
  match X.ev tm x with
  | D.slice g z rows=>
   match yh (Option.map (fun(x:X)=>X.ev tm x) lo),
    yi (Option.map (fun(x:X)=>X.ev tm x) hi) rows.length with
   | some l,some h=>
    if(rows = []∨z=size)∧0≤l∧l≤h∧h≤ ↑rows.length then
     some
      (D.slice (if l=0 then g.cut (decide (h = ↑rows.length))else Tag.shared) z
       (List.drop l.toNat (List.take h.toNat rows)),
       s)
    else none
   |x,fO=>none
  |x=>match PK x (Option.map (fun(x:X)=>X.ev tm x) lo) (Option.map (fun(x:X)=>X.ev tm x) hi)with|some d=>some (d,s)|none=>none:=
 fun tm s size x lo hi=>nd (a8.eq_20 tm s size x lo hi)
theorem QS : ∀ (tm:Tm) (s:St) (x:X) (lo hi:Option X),
 a8 (AO.AY x lo hi) tm s =
  match X.ev tm x with
  | D.str t=>
   match yh (Option.map (fun(x:X)=>X.ev tm x) lo),yi (Option.map (fun(x:X)=>X.ev tm x) hi) t.length with
   |some l,some h=>
    if 0≤l∧l≤h∧h≤ ↑t.length then some (D.str (List.drop l.toNat (List.take h.toNat t)),s)else none
   |x,fO=>none
  |x=>none:=
 fun tm s x lo hi=>nd (a8.eq_21 tm s x lo hi)
theorem QT : ∀ (tm:Tm) (s:St) (x:X) (off:Nat),
 a8 (AO.ah x off) tm s =
  match X.ev tm x with
  |D.ptr o k=>some (D.ptr o (k+off),s)
  |D.eJ row k=>some (D.eJ row (k+off),s)
  |x=>match K4 x off with|some d=>some (d,s)|none=>none:=
 fun tm s x off=>nd (a8.eq_22 tm s x off)
theorem QU : ∀ (tm:Tm) (s:St) (x:X) (off:Nat) (agg:Bool) (size:Nat),
 a8 (AO.uV x off agg size) tm s =
  match X.ev tm x with
  |D.agg cs=>
   match part cs off agg size with
   |some d=>some (d,s)
   |none=>none
  |x=>none:=
 fun tm s x off agg size=>nd (a8.eq_23 tm s x off agg size)
theorem QV : ∀ (tm:Tm) (s:St) (x i:X) (size:Nat),
 a8 (AO.bE x i size) tm s =
  match X.ev tm x,X.ev tm i with
  | D.slice g z rows,D.int k n=>
   if 0≤n∧z=size then
    match rows[n.toNat]? with
    |some row=>some (D.eJ row 0,s)
    |none=>none
   else none
  |x,fO=>match FN x fO size with|some d=>some (d,s)|none=>none:=
 fun tm s x i size=>nd (a8.eq_24 tm s x i size)
theorem QW : ∀ (tm:Tm) (s:St) (x i:X),
 a8 (AO.qf x i) tm s =
  match X.ev tm x,X.ev tm i with
  | D.str t,D.int k n=>
   if 0≤n then
    match t[n.toNat]? with
    |some c=>some (D.int IntKind.u8 ↑c.toNat,s)
    |none=>none
   else none
  |x,fO=>none:=
 fun tm s x i=>nd (a8.eq_25 tm s x i)
theorem QX : ∀ (tm:Tm) (s:St) (x:X) (i:Nat),
 a8 (AO.ext x i) tm s =
  match X.ev tm x with
  |D.tuple ds=>
   match ds[i]? with
   |some d=>some (d,s)
   |none=>none
  |x=>none:=
 fun tm s x i=>nd (a8.eq_26 tm s x i)
theorem QY : ∀ (tm:Tm) (s:St) (x:X),
 a8 (AO.nk x) tm s =
  match X.ev tm x with
  |D.str t=>some (D.int IntKind.i64 ↑t.length,s)
  |x=>none:=
 fun tm s x=>nd (a8.eq_27 tm s x)
theorem QZ : ∀ (tm:Tm) (s:St) (x:X),
 a8 (AO.len x) tm s =
  match X.ev tm x with
  |D.slice g size rows=>some (D.int IntKind.i64 ↑rows.length,s)
  |x=>match PN x with|some d=>some (d,s)|none=>none:=
 fun tm s x=>nd (a8.eq_28 tm s x)
theorem Q1 : ∀ (tm:Tm) (s:St) (size bytes:Nat) (x y:X),
 a8 (AO.app size bytes x y) tm s =
  match X.ev tm x with
  |D.slice g z rows=>mL size bytes (D.slice g z rows) (X.ev tm y) s
  |d=>PO size bytes d (X.ev tm y) s:=
 fun tm s size bytes x y=>nd (a8.eq_29 tm s size bytes x y)
theorem Q2 : ∀ (tm:Tm) (s:St) (isMax:Bool) (x y:X),
 a8 (AO.mm isMax x y) tm s =
  match X.ev tm x,X.ev tm y with
  |D.int k a,D.int k' b=>
   if k=k' then some (D.int k (if isMax=true then if b > a then b else a else if b<a then b else a),s)
   else none
  |x,fO=>none:=
 fun tm s isMax x y=>nd (a8.eq_30 tm s isMax x y)
theorem Q3 (tm:Tm) (s:St) (r:List D) (T:TypeId):a8 (AO.uW (.fS::r) T) tm s=some (.ptr s.az.length 0,{az:=s.az++ [.gy T s.az.length::r],aD:=s.aD}):=nd rfl
theorem Q4 (tm:Tm) (s:St) (x:X) (T:TypeId):a8 (AO.Cp x T) tm s =
 match (x.ev tm).row with
 |some (.fS::r)=>some (.ptr s.az.length 0,{az:=s.az++ [.gy T s.az.length::r],aD:=s.aD})
 |_=>none:=nd rfl
theorem Q5 (tm:Tm) (s:St) (x y:X):a8 (AO.apps x y) tm s =
 match y.ev tm with
 | .str l=>Cs (x.ev tm) (.slice .shared 1 (l.map fun c=> [.int .u8 c.toNat])) s
 |_=>none:=nd rfl
theorem Q6 (tm:Tm) (s:St) (x y:X):a8 (AO.Cq x y) tm s=Cs (x.ev tm) (y.ev tm) s:=nd rfl
theorem Q7 (tm:Tm) (s:St) (f:Nat) (xs:List X):a8 (AO.wx f xs) tm s=some (.iK f (xs.map fun x=>x.ev tm),s):=nd rfl
theorem Q8 (tm:Tm) (s:St):a8 AO.wy tm s=some (.iI s.az.length,{az:=s.az++ [[]],aD:=s.aD}):=nd rfl
theorem Q9 (tm:Tm) (s:St) (m k v:X):a8 (AO.AZ m k v) tm s =
 match m.ev tm,k.ev tm,v.ev tm with
 | .iI o, .str key, .slice g z rows=>
  match s.az[o]? with
  |some cs=>match zg key (.slice g z rows) cs with|some kA=>some (.tuple [],{az:=s.az.set o kA,aD:=s.aD})|none=>none
  |none=>none
 |_,_,_=>none:=nd rfl
theorem Ra (tm:Tm) (s:St) (m k:X) (zero:D):a8 (AO.yg m k zero) tm s =
 match m.ev tm,k.ev tm with
 | .iI o, .str key=>
  match s.az[o]? with
  |some cs=>match A0 key zero cs with|some d=>some (d,s)|none=>none
  |none=>none
 |_,_=>none:=nd rfl
theorem LI (f:Nat) (xs:List X):(AO.wx f xs).core=false:=nd rfl
theorem LJ:AO.wy.core=true:=nd rfl
theorem LK (m k v:X):(AO.AZ m k v).core=true:=nd rfl
theorem LL (m k:X) (zero:D):(AO.yg m k zero).core=false:=nd rfl
theorem T8 (n m f:Nat) (cs:List D):D.fg n m (.iK f cs) = .iK f (D.je n m cs):=nd (by simp only[D.fg])
theorem T9 (n m:Nat) (o:Nat):D.fg n m (.iI o)=if o<n then .iI o else .junk:=nd (by simp only[D.fg])
theorem Rb (d:Option Nat) (g:Option (Nat×Bool)) (t:Nat) (xs:List X):(AI.kg d g t xs).dst=d:=nd rfl
theorem LM (x y:X):(AO.Cq x y).core=true:=nd rfl
theorem LN (z:List D) (T:TypeId):(AO.uW z T).core=true:=nd rfl
theorem LO (x:X) (T:TypeId):(AO.Cp x T).core=true:=nd rfl
theorem LP (x y:X):(AO.apps x y).core=true:=nd rfl
theorem Ua (n m:Nat) (v:Value):D.fg n m (.val v) = .val v:=nd (by simp only[D.fg])
theorem Ub (n m:Nat) (T:TypeId) (o:Nat):D.fg n m (.gy T o)=if o<n then .gy T o else .junk:=nd (by simp only[D.fg])
theorem W8 : ∀ (tm:Tm) (t:Nat),X.ev tm (X.s t)=tm.get t:=
 fun tm t=>nd (X.ev.eq_1 tm t)
theorem W9 : ∀ (tm:Tm) (d:D),X.ev tm (X.k d)=d:=
 fun tm d=>nd (X.ev.eq_2 tm d)
theorem Rc : ∀ (tm:Tm) (d:D) (t:Nat),tm.put (some t) d=tm.set t d:=
 fun tm d t=>nd (Tm.put.eq_1 tm d t)
theorem Re : ∀ (tm:Tm) (d:D),tm.put none d=tm:=
 fun tm d=>nd (Tm.put.eq_2 tm d)
theorem Rf : ∀ (x:Nat) (fO:D),Tm.set [] x fO = [(x,fO)]:=
 fun x fO=>nd (Tm.set.eq_1 x fO)
theorem Rg : ∀ (x:Nat) (fO:D) (k:Nat) (e:D) (r:List (Nat×D)),
 Tm.set ((k,e)::r) x fO=if k=x then(k,fO)::r else(k,e)::Tm.set r x fO:=
 fun x fO k e r=>nd (Tm.set.eq_2 x fO k e r)
theorem Rh : ∀ (x:Nat),Tm.get [] x=D.junk:=
 fun x=>nd (Tm.get.eq_1 x)
theorem Ri : ∀ (x k:Nat) (d:D) (r:List (Nat×D)),Tm.get ((k,d)::r) x=if k=x then d else Tm.get r x:=
 fun x k d r=>nd (Tm.get.eq_2 x k d r)
theorem Uc : ∀ (x:Nat),pX x [] = []:=
 fun x=>nd (pX.eq_1 x)
theorem Ud : ∀ (x:Nat) (d:D) (r:List D),pX x (d::r)=(x,d)::pX (x+1) r:=
 fun x d r=>nd (pX.eq_2 x d r)
theorem Rj : ∀ (d:Option Nat) (g:Option (Nat×Bool)) (o:AO),(AI.op d g o).dst=d:=
 fun d g o=>nd (AI.dst.eq_1 d g o)
theorem Rk : ∀ (d:Option Nat) (g:Option (Nat×Bool)) (f:Nat) (xs:List X),(AI.call d g f xs).dst=d:=
 fun d g f xs=>nd (AI.dst.eq_2 d g f xs)
theorem Rl : ∀ (d:Option Nat) (g:Option (Nat×Bool)) (neg:Bool) (fO:X),(AI.nil d g neg fO).dst=d:=
 fun d g neg fO=>nd (AI.dst.eq_3 d g neg fO)
theorem Xa : ∀ (cs:List D) (off size:Nat),
 part cs off true size=if off+size≤cs.length then some (D.agg (List.take size (List.drop off cs)))else none:=
 fun cs off size=>nd (part.eq_1 cs off size)
theorem Xb : ∀ (cs:List D) (off size:Nat),part cs off false size=cs[off]? :=
 fun cs off size=>nd (part.eq_2 cs off size)
theorem Rm : ∀ (cs:List D) (off:Nat) (r:List D),
 jv cs off r=List.take off cs++r++List.drop (off+r.length) cs:=
 fun cs off r=>nd (jv.eq_1 cs off r)
theorem Ue : ∀ (cells:List D),sB cells [] = some cells:=
 fun cells=>nd (sB.eq_1 cells)
theorem Uf : ∀ (cells:List D) (off size:Nat) (d:D) (rest:List (Nat×Nat×D)),
 sB cells ((off,size,d)::rest) =
  match d.row with
  |none=>none
  |some r=>if r.length=size∧off+size≤cells.length then sB (jv cells off r) rest else none:=
 fun cells off size d rest=>nd (sB.eq_2 cells off size d rest)
theorem LQ : ∀ (size:Nat) (rows:List (List D)),kT size rows [] = some rows:=
 fun size rows=>nd (kT.eq_1 size rows)
theorem LR : ∀ (size:Nat) (rows:List (List D)) (i:Nat) (d:D) (rest:List (Nat×D)),
 kT size rows ((i,d)::rest) =
  match d.row with
  |none=>none
  |some r=>if r.length=size∧i<rows.length then kT size (rows.set i r) rest else none:=
 fun size rows i d rest=>nd (kT.eq_2 size rows i d rest)
theorem LS : ∀ (zero:List D),gW zero 0 = []:=
 fun zero=>nd (gW.eq_1 zero)
theorem LU : ∀ (zero:List D) (i:Nat),gW zero i.succ=zero::gW zero i:=
 fun zero i=>nd (gW.eq_2 zero i)
theorem Xc : ∀ (op:BinOp) (k:IntKind) (a:Int) (k':IntKind) (b:Int),
 zf op (D.int k a) (D.int k' b)=if k=k' then gR op k a b else none:=
 fun op k a k' b=>nd (zf.eq_1 op k a k' b)
theorem Xd : ∀ (op:BinOp) (a b:List UInt8),zf op (D.str a) (D.str b)=ph op a b:=
 fun op a b=>nd (zf.eq_2 op a b)
theorem Rn : ∀ (k:IntKind) (a b:Int),gR BinOp.add k a b=some (D.int k (k.wrap (a+b))):=
 fun k a b=>nd (gR.eq_1 k a b)
theorem Ro : ∀ (k:IntKind) (a b:Int),gR BinOp.sub k a b=some (D.int k (k.wrap (a - b))):=
 fun k a b=>nd (gR.eq_2 k a b)
theorem Rp : ∀ (k:IntKind) (a b:Int),gR BinOp.mul k a b=some (D.int k (k.wrap (a*b))):=
 fun k a b=>nd (gR.eq_3 k a b)
theorem Rq : ∀ (k:IntKind) (a b:Int),
 gR BinOp.quo k a b=if b=0 then none else some (D.int k (k.wrap (a.tdiv b))):=
 fun k a b=>nd (gR.eq_4 k a b)
theorem Rr : ∀ (k:IntKind) (a b:Int),gR BinOp.rem k a b=if b=0 then none else some (D.int k (a.tmod b)):=
 fun k a b=>nd (gR.eq_5 k a b)
theorem Rs : ∀ (k:IntKind) (a b:Int),gR BinOp.eql k a b=some (D.bool (a==b)):=
 fun k a b=>nd (gR.eq_6 k a b)
theorem Rt : ∀ (k:IntKind) (a b:Int),gR BinOp.neq k a b=some (D.bool (a != b)):=
 fun k a b=>nd (gR.eq_7 k a b)
theorem Ru : ∀ (k:IntKind) (a b:Int),gR BinOp.lss k a b=some (D.bool (decide (a<b))):=
 fun k a b=>nd (gR.eq_8 k a b)
theorem Rv : ∀ (k:IntKind) (a b:Int),gR BinOp.leq k a b=some (D.bool (decide (a≤b))):=
 fun k a b=>nd (gR.eq_9 k a b)
theorem N0 : ∀ (k:IntKind) (a b:Int),gR BinOp.gtr k a b=some (D.bool (decide (a > b))):=
 fun k a b=>nd (gR.eq_10 k a b)
theorem N1 : ∀ (k:IntKind) (a b:Int),gR BinOp.geq k a b=some (D.bool (decide (a≥b))):=
 fun k a b=>nd (gR.eq_11 k a b)
theorem Rw : ∀ (a b:List UInt8),
 ph BinOp.add a b=if a.length+b.length≤aF then some (D.str (a++b))else none:=
 fun a b=>nd (ph.eq_1 a b)
theorem Rx : ∀ (a b:List UInt8),ph BinOp.eql a b=some (D.bool (a==b)):=
 fun a b=>nd (ph.eq_2 a b)
theorem Ry : ∀ (a b:List UInt8),ph BinOp.neq a b=some (D.bool !a==b):=
 fun a b=>nd (ph.eq_3 a b)
theorem Rz : ∀ (a b:List UInt8),ph BinOp.lss a b=some (D.bool (bytesLess a b)):=
 fun a b=>nd (ph.eq_4 a b)
theorem abA : ∀ (k:IntKind) (n:Int),K3 UnOp.neg (D.int k n)=some (D.int k (k.wrap (0 - n))):=
 fun k n=>nd (K3.eq_1 k n)
theorem abB : ∀ (b:Bool),K3 UnOp.not (D.bool b)=some (D.bool !b):=
 fun b=>nd (K3.eq_2 b)
theorem RA : ∀ (k:IntKind) (a:Int) (k':IntKind) (b:Int),
 oh 0 (D.int k a) (D.int k' b)=if k=k' then some (a==b)else none:=
 fun k a k' b=>nd (oh.eq_1 k a k' b)
theorem RB : ∀ (a b:Bool),oh 1 (D.bool a) (D.bool b)=some (a==b):=
 fun a b=>nd (oh.eq_2 a b)
theorem RC : ∀ (a b:List UInt8),oh 2 (D.str a) (D.str b)=some (a==b):=
 fun a b=>nd (oh.eq_3 a b)
theorem N2:mC [] [] [] = some true:=
 nd (mC.eq_1)
theorem N3 : ∀ (k:Nat) (ks:List Nat) (ZW:D) (xs:List D) (y:D) (ys:List D),
 mC (k::ks) (ZW::xs) (y::ys) =
  match oh k ZW y with
  |none=>none
  |some true=>mC ks xs ys
  |some false=>some false:=
 fun k ks ZW xs y ys=>nd (mC.eq_2 k ks ZW xs y ys)
theorem abC:yh none=some 0:=
 nd (yh.eq_1)
theorem abD : ∀ (k:IntKind) (n:Int),yh (some (D.int k n))=some n:=
 fun k n=>nd (yh.eq_2 k n)
theorem abE : ∀ (len:Nat),yi none len=some ↑len:=
 fun len=>nd (yi.eq_1 len)
theorem abF : ∀ (len:Nat) (k:IntKind) (n:Int),yi (some (D.int k n)) len=some n:=
 fun len k n=>nd (yi.eq_2 len k n)
theorem N4 : ∀ (zero:List D),(AO.alloc zero).core=true:=
 fun zero=>nd (AO.core.eq_1 zero)
theorem N5 : ∀ (fO:X),(AO.box fO).core=true:=
 fun fO=>nd (AO.core.eq_2 fO)
theorem N6 : ∀ (zero:List D) (size n:Nat) (parts:List (Nat×X)),(AO.w9 zero size n parts).core=true:=
 fun zero size n parts=>nd (AO.core.eq_3 zero size n parts)
theorem N7 : ∀ (fO:X),(AO.Co fO).core=true:=
 fun fO=>nd (AO.core.eq_4 fO)
theorem N8 : ∀ (p fO:X) (size:Nat),(AO.store p fO size).core=true:=
 fun p fO size=>nd (AO.core.eq_5 p fO size)
theorem N9 : ∀ (size bytes:Nat) (fO y:X),(AO.app size bytes fO y).core=true:=
 fun size bytes fO y=>nd (AO.core.eq_6 size bytes fO y)
theorem Oa : ∀ (val:Nat) (zero:List D),(AI.op (some val) none (AO.alloc zero)).kind=AK.alloc:=
 fun val zero=>nd (AI.kind.eq_1 val zero)
theorem Oc : ∀ (zero:List D),(AO.alloc zero).kind=AK.core:=
 fun zero=>nd (AO.kind.eq_1 zero)
theorem Od : ∀ (fO:X),(AO.box fO).kind=AK.core:=
 fun fO=>nd (AO.kind.eq_2 fO)
theorem Oe : ∀ (zero:List D) (size n:Nat) (parts:List (Nat×X)),(AO.w9 zero size n parts).kind=AK.core:=
 fun zero size n parts=>nd (AO.kind.eq_3 zero size n parts)
theorem Og : ∀ (fO:X),(AO.Co fO).kind=AK.core:=
 fun fO=>nd (AO.kind.eq_4 fO)
theorem Oh : ∀ (p fO:X) (size:Nat),(AO.store p fO size).kind=AK.core:=
 fun p fO size=>nd (AO.kind.eq_5 p fO size)
theorem Oi : ∀ (size bytes:Nat) (fO y:X),(AO.app size bytes fO y).kind=AK.core:=
 fun size bytes fO y=>nd (AO.kind.eq_6 size bytes fO y)
theorem Oj : ∀ (fO:X) (agg:Bool) (size:Nat),(AO.load fO agg size).kind=AK.load:=
 fun _ _ _=>nd rfl
theorem RE:iA AK.core=true:=
 nd (iA.eq_1)
theorem RF:iA AK.alloc=true:=
 nd (iA.eq_2)
theorem RG : ∀ (i:AI) (tm:Tm) (d:D),pA i tm d [] = True:=
 fun i tm d=>nd (pA.eq_1 i tm d)
theorem RH : ∀ (i:AI) (tm:Tm) (d:D) (s:St) (r:List St),
 pA i tm d (s::r)=(kL i tm s=some d∧pA i tm d r):=
 fun i tm d s r=>nd (pA.eq_2 i tm d s r)
theorem abG : ∀ (tm:Tm) (s:St) (dst:Option Nat) (o:AO),
 kL (AI.op dst none o) tm s=Option.map (fun(x:D×St)=>x.fst) (a8 o tm s):=
 fun tm s dst o=>nd (kL.eq_1 tm s dst o)
theorem abH : ∀ (tm:Tm) (s:St) (dst:Option Nat) (t:Nat) (want:Bool) (o:AO),
 kL (AI.op dst (some (t,want)) o) tm s =
  match tm.get t with
  |D.bool b=>if b=want then Option.map (fun(x:D×St)=>x.fst) (a8 o tm s)else some (D.tuple [])
  |D.tuple vs=>some (D.tuple [])
  |x=>none:=
 fun tm s dst t want o=>nd (kL.eq_2 tm s dst t want o)
theorem Ol : ∀ (is:List AI),oq is [] = some []:=
 fun is=>nd (oq.eq_1 is)
theorem Om : ∀ (is:List AI) (q b:Nat) (r:List (Nat×Nat)),
 oq is ((q,b)::r) =
  match is[q]?,oq is r with
  |some ai,some l=>some ((ai,b)::l)
  |x,fO=>none:=
 fun is q b r=>nd (oq.eq_2 is q b r)
theorem abI : ∀ (tm:Tm) (n m:Nat),wg tm n m [] = True:=
 fun tm n m=>nd (wg.eq_1 tm n m)
theorem abJ : ∀ (tm:Tm) (n m k:Nat) (d:D) (r:List (Nat×D)),
 wg tm n m ((k,d)::r)=(Wk (D.fg n m (tm.get k)) d∧wg tm n m r):=
 fun tm n m k d r=>nd (wg.eq_2 tm n m k d r)
theorem Xe : ∀ (n m o off:Nat),D.fg n m (D.ptr o off)=if o<n then D.ptr o off else D.junk:=
 fun n m o off=>nd (D.fg.eq_1 n m o off)
theorem Xf : ∀ (n m:Nat) (row:List D) (off:Nat),D.fg n m (D.eJ row off)=D.eJ (D.je n m row) off:=
 fun n m row off=>nd (D.fg.eq_2 n m row off)
theorem Xg : ∀ (n m:Nat) (g:Tag) (z:Nat) (rows:List (List D)),
 D.fg n m (D.slice g z rows)=D.slice (Tag.fg m g) z (D.lE n m rows):=
 fun n m g z rows=>nd (D.fg.eq_3 n m g z rows)
theorem Xh : ∀ (n m:Nat) (cs:List D),D.fg n m (D.agg cs)=D.agg (D.je n m cs):=
 fun n m cs=>nd (D.fg.eq_4 n m cs)
theorem Xi : ∀ (n m:Nat) (ds:List D),D.fg n m (D.tuple ds)=D.tuple (D.je n m ds):=
 fun n m ds=>nd (D.fg.eq_5 n m ds)
theorem Xj : ∀ (n m:Nat),D.fg n m D.junk=D.junk:=
 fun n m=>nd (D.fg.eq_6 n m)
theorem Xk : ∀ (n m:Nat) (k:IntKind) (fO:Int),D.fg n m (D.int k fO)=D.int k fO:=
 fun n m k fO=>nd (D.fg.eq_7 n m k fO)
theorem Xl : ∀ (n m:Nat) (b:Bool),D.fg n m (D.bool b)=D.bool b:=
 fun n m b=>nd (D.fg.eq_8 n m b)
theorem Xm : ∀ (n m:Nat) (l:List UInt8),D.fg n m (D.str l)=D.str l:=
 fun n m l=>nd (D.fg.eq_9 n m l)
theorem Ug : ∀ (n m:Nat),D.fg n m D.fS=D.fS:=
 fun n m=>nd (D.fg.eq_10 n m)
theorem Uh : ∀ (n m:Nat),D.je n m [] = []:=
 fun n m=>nd (D.je.eq_1 n m)
theorem Ui : ∀ (n m:Nat) (d:D) (r:List D),D.je n m (d::r)=D.fg n m d::D.je n m r:=
 fun n m d r=>nd (D.je.eq_2 n m d r)
theorem Uj : ∀ (n m:Nat),D.lE n m [] = []:=
 fun n m=>nd (D.lE.eq_1 n m)
theorem Uk : ∀ (n m:Nat) (d:List D) (r:List (List D)),D.lE n m (d::r)=D.je n m d::D.lE n m r:=
 fun n m d r=>nd (D.lE.eq_2 n m d r)
theorem RI : ∀ (m t:Nat) (y:Bool),Tag.fg m (Tag.tok t y)=if t<m then Tag.tok t y else Tag.shared:=
 fun _ _ _=>nd rfl
theorem RJ : ∀ (s:St) (n m:Nat),
 s.cut n m = {az:=List.map (D.je n m) (List.take n s.az),aD:=List.take m s.aD}:=
 fun s n m=>nd (St.cut.eq_1 s n m)
theorem Xn : ∀ (d:D),cr [d] = d:=
 fun d=>nd (cr.eq_1 d)
theorem Xo (size bytes t:Nat) (rows:List (List D)) (g:Tag) (r:List D) (s:St):mL size bytes (.slice (.tok t) size rows) (.slice g size [r]) s =
 if(rows.length+1)*(bytes+1)≤aF∧s.aD[t]? = some (some rows.length)then some (.slice (.tok t) size (rows++ [r]),⟨s.az,s.aD.set t (some (rows.length+1))⟩)else none:=by
 simp only[mL,List.length_singleton]
 by_cases h1:(rows.length+1)*(bytes+1)≤aF<;>by_cases h2:s.aD[t]? = some (some rows.length)<;>simp[h1,h2]
theorem LV {size bytes t:Nat} {rows new:List (List D)} {g:Tag} {s:St} (h1:(rows.length+new.length)*(bytes+1)≤aF) (h2:s.aD[t]? = some (some rows.length)) :
 mL size bytes (.slice (.tok t) size rows) (.slice g size new) s=some (.slice (.tok t) size (rows++new),⟨s.az,s.aD.set t (some (rows.length+new.length))⟩):=by
 cases new with
 | nil=>
  have:s.aD.set t (some rows.length)=s.aD:=by
   apply List.ext_getElem?
   intro i
   rw[List.getElem?_set]
   split
   ·rename_i hi;subst hi;rw[h2,if_pos (List.getElem?_eq_some_iff.1 h2).1]
   ·rfl
  simp only[List.length_nil,Nat.add_zero]at h1
  simp[mL,h1,this]
 |cons x l=>
  simp only[mL,h1,h2]
  simp
theorem Ul (size bytes z:Nat) (g:Tag) (r:List D) (s:St):mL size bytes (.slice .full z []) (.slice g size [r]) s =
 if bytes+1≤aF then some (.slice (.tok s.aD.length) size [r],⟨s.az,s.aD++ [some 1]⟩)else none:=by
 simp[mL]
theorem abK {P:Program} {B:fZ} {nt:Nat} (ac:AC) (Q:Exit→Tm→St→Prop) (tm:Tm) (s:St):ld P B nt ac Q .normal tm s=Q .normal tm s:=nd rfl
theorem abL {P:Program} {B:fZ} {nt:Nat} (ac:AC) (Q:Exit→Tm→St→Prop) (tm:Tm) (s:St):ld P B nt ac Q .ret tm s=Q .ret tm s:=nd rfl
theorem abM {P:Program} {B:fZ} {nt:Nat} (ac:AC) (Q:Exit→Tm→St→Prop) (tm:Tm) (s:St) (i:Nat):ld P B nt ac Q (.exit i) tm s=Q (.exit i) tm s:=nd rfl
theorem abN (m:Nat):Tag.fg m .full = .full:=nd rfl
theorem Um (m:Nat):Tag.fg m .shared = .shared:=nd rfl
theorem ahA {P:Program} (K:Tm→St→Prop) (tm:Tm) (s:St):ln P [] K tm s=K tm s:=nd rfl
theorem s_op {P:Program} (dst:Option Nat) (o:AO) (r:List AI) (K:Tm→St→Prop) (tm:Tm) (s:St) :
 ln P (.op dst none o::r) K tm s=(match a8 o tm s with|some (d,s')=>ln P r K (tm.put dst d) s'|none=>False):=nd rfl
def KJ (P:Program) (r:List AI) (K:Tm→St→Prop) (tm:Tm) (dst:Option Nat) (d:D) (s:St):Prop:=ln P r K (tm.put dst d) s
theorem akZ {P:Program} (r:List AI) (K:Tm→St→Prop) (tm:Tm) (dst:Option Nat) (d:D) (s:St):KJ P r K tm dst d s=ln P r K (tm.put dst d) s:=nd rfl
theorem s_call {P:Program} (dst:Option Nat) (f:Nat) (xs:List X) (r:List AI) (K:Tm→St→Prop) (tm:Tm) (s:St) :
 ln P (.call dst none f xs::r) K tm s=CL P f (xs.map (·.ev tm)) s (KJ P r K tm dst):=nd rfl
def NJ (P:Program) (dst:Option Nat) (neg:Bool) (x:D) (r:List AI) (K:Tm→St→Prop) (tm:Tm) (s:St):Prop:=
 match x with
 | .slice _ _ rows=>∀ b:Bool,(rows≠ []→b=false)→ln P r K (tm.put dst (.bool (if neg then !b else b))) s
 |_=>False
theorem aei {P:Program} (dst:Option Nat) (neg:Bool) (x:X) (r:List AI) (K:Tm→St→Prop) (tm:Tm) (s:St) :
 ln P (.nil dst none neg x::r) K tm s=NJ P dst neg (x.ev tm) r K tm s:=nd rfl
theorem abO {P:Program} (dst:Option Nat) (neg:Bool) (g:Tag) (z:Nat) (d:List D) (l:List (List D)) (r:List AI) (K:Tm→St→Prop) (tm:Tm) (s:St) :
 NJ P dst neg (.slice g z (d::l)) r K tm s=ln P r K (tm.put dst (.bool neg)) s:=by
 simp only[NJ,ne_eq,reduceCtorEq,not_false_eq_true,true_imp_iff,eq_iff_iff]
 refine⟨fun h=>by have:=h false rfl;cases neg<;>exact this,fun h b hb=>?_⟩
 subst hb;cases neg<;>exact h
theorem LW {P:Program} {dst:Option Nat} {neg:Bool} {g:Tag} {z:Nat} {l:List (List D)} {r:List AI} {K:Tm→St→Prop} {tm:Tm} {s:St}
 (h1:l = []→ln P r K (tm.put dst (.bool (!neg))) s) (h2:ln P r K (tm.put dst (.bool neg)) s):NJ P dst neg (.slice g z l) r K tm s:=by
 intro b hb
 cases b with
 |false=>cases neg<;>exact h2
 |true=>
  have:l = []:=Decidable.byContradiction fun h=>by cases hb h
  cases neg<;>exact h1 this
theorem ahC {P:Program} (dst:Option Nat) (t:Nat) (w:Bool) (o:AO) (r:List AI) (K:Tm→St→Prop) (tm:Tm) (s:St) :
 ln P (.op dst (some (t,w)) o::r) K tm s = @GB (tm.get t) w ⟨(ln P (.op dst none o::r) K tm s),(ln P r K (tm.put dst (.tuple [])) s)⟩:=nd rfl
def CV (P:Program) (x:D) (ahD:List D) (s:St) (K:D→St→Prop):Prop:=
 match x with
 | .iK f oU=>enters P f=true∧CL P f (ahD++oU) s K
 |_=>False
theorem abP {P:Program} (dst:Option Nat) (t:Nat) (xs:List X) (r:List AI) (K:Tm→St→Prop) (tm:Tm) (s:St) :
 ln P (.kg dst none t xs::r) K tm s=CV P (tm.get t) (xs.map (·.ev tm)) s (KJ P r K tm dst):=nd rfl
theorem CV.use {P:Program} {f:Nat} {oU ahD:List D} {s s':St} {d:D} {K:D→St→Prop} (he:enters P f=true) (h:aA P f (ahD++oU) s d s') (k:K d s'):CV P (.iK f oU) ahD s K:=⟨he,d,s',h,k⟩
theorem Xp {P:Program} (dst:Option Nat) (t:Nat) (w:Bool) (u:Nat) (xs:List X) (r:List AI) (K:Tm→St→Prop) (tm:Tm) (s:St) :
 ln P (.kg dst (some (t,w)) u xs::r) K tm s = @GB (tm.get t) w ⟨(ln P (.kg dst none u xs::r) K tm s),(ln P r K (tm.put dst (.tuple [])) s)⟩:=nd rfl
theorem abQ {P:Program} (dst:Option Nat) (t:Nat) (w:Bool) (f:Nat) (xs:List X) (r:List AI) (K:Tm→St→Prop) (tm:Tm) (s:St) :
 ln P (.call dst (some (t,w)) f xs::r) K tm s = @GB (tm.get t) w ⟨(ln P (.call dst none f xs::r) K tm s),(ln P r K (tm.put dst (.tuple [])) s)⟩:=nd rfl
theorem aek {P:Program} (dst:Option Nat) (t:Nat) (w:Bool) (neg:Bool) (x:X) (r:List AI) (K:Tm→St→Prop) (tm:Tm) (s:St) :
 ln P (.nil dst (some (t,w)) neg x::r) K tm s = @GB (tm.get t) w ⟨(ln P (.nil dst none neg x::r) K tm s),(ln P r K (tm.put dst (.tuple [])) s)⟩:=nd rfl
theorem ak0 (b:Bool) (A C:Prop) : @GB (.bool b) true ⟨A,C⟩ = @CB (.bool b) ⟨A,C⟩:=nd rfl
theorem ak1 (b:Bool) (A C:Prop) : @GB (.bool b) false ⟨A,C⟩ = @CB (.bool b) ⟨C,A⟩:=by
 cases b<;>simp[GB,CB,GJ,wD]
theorem ak2 (l:List D) (w:Bool) (A C:Prop) : @GB (.tuple l) w ⟨A,C⟩=C:=nd rfl
theorem ahE {P:Program} {K:Tm→St→Prop} (bK:List St) (tm:Tm) (s:St):gX P K [] bK tm s=K tm s:=nd rfl
def OJ (P:Program) (o:AO) (dst:Option Nat) (b:Nat) (r:List (AI×Nat)) (K:Tm→St→Prop) (bK:List St) (tm:Tm) (s:St):Bool→Prop
 |true=>match a8 o tm s with|some (d,s')=>gX P K r (s::bK) (tm.put dst d) s'|none=>False
 |false=>match a8 o tm s with|some (d,_)=>pA (.op dst none o) tm d (bK.take b)∧gX P K r bK (tm.put dst d) s|none=>False
theorem ak4 {P:Program} {K:Tm→St→Prop} (dst:Option Nat) (o:AO) (b:Nat) (r:List (AI×Nat)) (bK:List St) (tm:Tm) (s:St) :
 gX P K ((.op dst none o,b)::r) bK tm s=OJ P o dst b r K bK tm s o.core:=by
 simp only[gX,ou]
 cases o.core<;>rfl
theorem ak5 {P:Program} (o:AO) (dst:Option Nat) (b:Nat) (r:List (AI×Nat)) (K:Tm→St→Prop) (bK:List St) (tm:Tm) (s:St) :
 OJ P o dst b r K bK tm s true=match a8 o tm s with|some (d,s')=>gX P K r (s::bK) (tm.put dst d) s'|none=>False:=nd rfl
theorem ak6 {P:Program} (o:AO) (dst:Option Nat) (b:Nat) (r:List (AI×Nat)) (K:Tm→St→Prop) (bK:List St) (tm:Tm) (s:St) :
 OJ P o dst b r K bK tm s false=match a8 o tm s with|some (d,_)=>pA (.op dst none o) tm d (bK.take b)∧gX P K r bK (tm.put dst d) s|none=>False:=nd rfl
theorem ahF {P:Program} {K:Tm→St→Prop} (dst:Option Nat) (t:Nat) (w:Bool) (o:AO) (b:Nat) (r:List (AI×Nat)) (bK:List St) (tm:Tm) (s:St) :
 gX P K ((.op dst (some (t,w)) o,b)::r) bK tm s = @GB (tm.get t) w ⟨(gX P K ((.op dst none o,b)::r) bK tm s),(gX P K r (if o.core then s::bK else bK) (tm.put dst (.tuple [])) s)⟩:=by
 simp only[GB,gX,ou]
 cases o.core<;>rfl
def KG (P:Program) (K:Tm→St→Prop) (r:List (AI×Nat)) (bK:List St) (tm:Tm) (dst:Option Nat) (d:D) (s:St):Prop:=gX P K r bK (tm.put dst d) s
theorem ak7 {P:Program} (K:Tm→St→Prop) (r:List (AI×Nat)) (bK:List St) (tm:Tm) (dst:Option Nat) (d:D) (s:St):KG P K r bK tm dst d s=gX P K r bK (tm.put dst d) s:=nd rfl
theorem g_call {P:Program} {K:Tm→St→Prop} (dst:Option Nat) (f:Nat) (xs:List X) (b:Nat) (r:List (AI×Nat)) (bK:List St) (tm:Tm) (s:St) :
 gX P K ((.call dst none f xs,b)::r) bK tm s=CL P f (xs.map (·.ev tm)) s (KG P K r (s::bK) tm dst):=nd rfl
theorem abR {P:Program} {K:Tm→St→Prop} (dst:Option Nat) (t:Nat) (w:Bool) (f:Nat) (xs:List X) (b:Nat) (r:List (AI×Nat)) (bK:List St) (tm:Tm) (s:St) :
 gX P K ((.call dst (some (t,w)) f xs,b)::r) bK tm s = @GB (tm.get t) w ⟨(gX P K ((.call dst none f xs,b)::r) bK tm s),(gX P K r (s::bK) (tm.put dst (.tuple [])) s)⟩:=nd rfl
class Ok (p:Prop):Prop where
 out:p
instance:Ok True:=⟨trivial⟩
instance {p q:Prop} [Ok p] [Ok q] : Ok (p∧q):=⟨⟨Ok.out,Ok.out⟩⟩
instance {α:Type} (a:α):Ok (a=a):=⟨rfl⟩
instance (d:D):Ok (Wk d .junk):=⟨Wk.junk d⟩
instance {l l':List D} [Ok (oo l l')] : Ok (Wk (.tuple l) (.tuple l')):=⟨Wk.tuple Ok.out⟩
instance {l l':List D} [Ok (oo l l')] : Ok (Wk (.agg l) (.agg l')):=⟨Wk.agg Ok.out⟩
instance {g:Tag} {z:Nat} {l l':List (List D)} [Ok (jw l l')] : Ok (Wk (.slice g z l) (.slice g z l')):=⟨Wk.rows Ok.out⟩
instance {g:Tag} {z:Nat} {l l':List (List D)} [Ok (jw l l')] : Ok (Wk (.slice g z l) (.slice .shared z l')):=⟨Wk.slice Ok.out⟩
instance (z z':Nat):Ok (Wk (.slice .full z []) (.slice .full z' [])):=⟨Wk.akR z z'⟩
instance (g:Tag) (z z':Nat):Ok (Wk (.slice g z []) (.slice .shared z' [])):=⟨Wk.nil g z z'⟩
instance (d:D):Ok (Wk d d):=⟨Wk.refl d⟩
instance:Ok (oo [] []):=⟨.nil⟩
instance {d d':D} {l l':List D} [Ok (Wk d d')] [Ok (oo l l')] : Ok (oo (d::l) (d'::l')):=⟨.cons Ok.out Ok.out⟩
instance (l:List D):Ok (oo l l):=⟨oo.refl l⟩
instance:Ok (jw [] []):=⟨.nil⟩
instance {d d':List D} {l l':List (List D)} [Ok (oo d d')] [Ok (jw l l')] : Ok (jw (d::l) (d'::l')):=⟨.cons Ok.out Ok.out⟩
instance {a a' b b':List (List D)} [Ok (jw a a')] [Ok (jw b b')] : Ok (jw (a++b) (a'++b')):=⟨jw.append Ok.out Ok.out⟩
instance (l:List (List D)):Ok (jw l l):=⟨jw.refl l⟩
theorem bs:(∀ b,(true ||b)=true)∧(∀ b,(false ||b)=b)∧(∀ b,(b ||true)=true)∧(∀ b,(b ||false)=b)∧(∀ b,(true && b)=b)∧(∀ b,(false && b)=false)∧(∀ b,(b && true)=b)∧(∀ b,(b && false)=false)∧
 (!true)=false∧(!false)=true∧(∀ b,(!!b)=b)∧((false=true)=False)∧(∀ (α β:Type) (a:α) (f:α→Option β),(some a).bind f=f a)∧
 (∀ (α β γ:Type) (x:Option α) (f:α→Option β) (g:β→Option γ),(x.bind f).bind g=x.bind fun y=>(f y).bind g):=
 ⟨Bool.true_or,Bool.false_or,Bool.or_true,Bool.or_false,Bool.true_and,Bool.false_and,Bool.and_true,Bool.and_false,rfl,rfl,Bool.not_not,by simp,fun _ _ _ _=>rfl,fun _ _ _ x f g=>Option.bind_assoc x f g⟩
attribute [go_sem] aef akW akX ahA s_op akZ s_call aei abO ahC abQ aek ak0 ak1 ak2 ahE ak4 ak5 ak6 ahF ak7 g_call abR AO.core AI.kind AO.kind iA
attribute [go_sem] abP Xp Q7 Q8 Q9 Ra LI LJ LK LL T8 T9 Rb abp WV
attribute [go_sem] Q6 LM Q3 Q4 Q5 LN LO LP Ua Ub abo TQ abk WS abl WT abm WU TP abn WW QE WX
attribute [go_sem] TX TY T1 T2 T3 T4 T5 T6 T7 QH QI QJ QK QL QM QN QO QP QQ QR QS QT QU QV QW QX QY QZ Q1 Q2 W8 W9 Rc Re Rf Rg Rh Ri Uc Ud Rj Rk Rl Xa Xb Rm Ue Uf LQ LR LS LU Xc Xd Rn Ro Rp Rq Rr Rs Rt Ru Rv N0 N1 Rw Rx Ry Rz abA abB RA RB RC N2 N3 abC abD abE abF N4 N5 N6 N7 N8 N9 Oa Oc Od Oe Og Oh Oi Oj RE RF RG RH abG abH Ol Om abI abJ Xe Xf Xg Xh Xi Xj Xk Xl Xm Ug Uh Ui Uj Uk RI RJ Xn Xo Ul abN Um abK abL abM
attribute [go_sem] List.map_cons List.map_nil List.getElem?_cons_zero List.getElem?_cons_succ List.length_cons List.length_nil List.set_cons_zero List.set_cons_succ List.take_succ_cons List.take_zero List.take_nil List.drop_succ_cons List.drop_zero List.drop_nil List.cons_append List.nil_append List.append_nil Nat.zero_add Nat.add_zero Option.map_some Option.map_none
attribute [go_sem] Bool.not_false Bool.not_true List.length_map List.getElem?_map Int.toNat_natCast Int.natCast_nonneg Int.toNat_zero and_self and_true true_and
attribute [go_sem_proc ↓] reduceIte
attribute [go_sem_proc] Int.reduceLE reduceCtorEq Nat.reduceEqDiff Nat.reduceLeDiff Nat.reduceAdd Nat.reduceMul Nat.reduceSub Nat.reduceLT
theorem bq {b:Bool} {A C:Prop} (h1:b=true→A) (h:b=true:=by assumption) : @CB (.bool b) ⟨A,C⟩:=aeg h h1
theorem br {b:Bool} {A C:Prop} (h1:b=false→C) (h:b=false:=by assumption) : @CB (.bool b) ⟨A,C⟩:=aeh h h1
theorem bt {b:Bool} {A C:Prop} (h1:b=true→A) (h2:b=false→C) : @CB (.bool b) ⟨A,C⟩:=⟨h1,h2⟩
theorem kM {a b:Prop} (x:a) (y:b):a∧b:=⟨x,y⟩
theorem dK {α:Type _} (a b:α):(some a=some b)=(a=b):=Option.some.injEq a b
theorem dL {α:Sort _} {p:α→Prop} {a:α} : (∃ x,a=x∧p x)↔p a:=exists_eq_left'
theorem n7 {n m:Nat} (h:Nat.ble n m=true):n≤m:=Nat.le_of_ble_eq_true h
theorem aB {n m:Nat} {res:List (Nat×Option (Bool×Nat))} {d:D} {s':St} {e:Exit} {tm:Tm} {s:St} {Q:Exit→Tm→St→Prop} (hQ:jO n m res d s'=Q) (h : ∃ l,cj res tm s=some l∧Wk ((cr l).fg n m) d∧jw (s.cut n m).az s'.az∧(s.cut n m).aD=s'.aD) (he:e = .ret∨e = .normal:=by first|exact .inl rfl|exact .inr rfl):Q e tm s:=by cases he with|inl x=>cases x;exact ahy hQ h|inr x=>cases x;exact ahz hQ h
theorem dM {p:Prop} (h:p:=by repeat' (first|exact Ok.out|with_reducible refine kM ?_ ?_|(simp;done))):p:=h
theorem bQ {p:Prop} (h:p:=by repeat' (first|exact Ok.out|with_reducible refine kM ?_ ?_)):p:=h
theorem eo {p:Prop} (h:p:=by(try cases h);simp only[cj,cr,dK,dL,go_sem,hY,hZ,gA,gB];repeat' (first|exact Ok.out|with_reducible refine kM ?_ ?_|(simp;done))):p:=h
theorem aU {p:Prop} (h:p:=by simp only[cj,cr,dK,dL,go_sem,hY,hZ,gA,gB];repeat' (first|exact Ok.out|with_reducible refine kM ?_ ?_|(simp;done))):p:=h
theorem lX_ {p:Prop} (h:p:=by simp only[go_sem,hY,hZ,gA,gB];repeat' (first|exact Ok.out|with_reducible refine kM ?_ ?_)):p:=h
theorem cq {P:Program} {B:fZ} {nt:Nat} {a:AC} {Q:Exit→Tm→St→Prop} {tm bU:Tm} {s:St} {l9:List (List D)} (n m:Nat) (h:bn P B nt a Q bU ⟨l9,(s.cut n m).aD⟩) (hn:B.s.az.length≤n:=by rw[hB];exact n7 rfl) (hm:B.s.aD.length≤m:=by rw[hB];exact n7 rfl) (ht:wg tm n m bU:=by exact lX_) (ho:jw (s.cut n m).az l9:=by exact lX_):bn P B nt a Q tm s:=bn.re bU l9 n m hn hm ht ho h
theorem eQ {P:Program} {B:fZ} {nt:Nat} {a:AC} {Q:Exit→Tm→St→Prop} {tm bU:Tm} {s:St} {l9:List (List D)} (n m:Nat) (ht:wg tm n m bU) (ho:jw (s.cut n m).az l9) (h:bn P B nt a Q bU ⟨l9,(s.cut n m).aD⟩) (hn:B.s.az.length≤n:=by rw[hB];exact n7 rfl) (hm:B.s.aD.length≤m:=by rw[hB];exact n7 rfl):bn P B nt a Q tm s:=bn.re bU l9 n m hn hm ht ho h
theorem bu:0<1∧0<1∧0<1∧0<1:=⟨Nat.zero_lt_one,Nat.zero_lt_one,Nat.zero_lt_one,Nat.zero_lt_one⟩
end Go.Abs
namespace Go.Abs
mutual
theorem RK (n m:Nat) : ∀ d,D.ok 0 0 d=true→D.fg n m d=d
 | .junk,_=>by simp[D.fg]
 | .int k n,_=>by simp[D.fg]
 | .bool b,_=>by simp[D.fg]
 | .str l,_=>by simp[D.fg]
 | .fS,_=>by simp[D.fg]
 | .val v,_=>by simp[D.fg]
 | .kQ z,_=>by simp[D.fg]
 | .gy T o,h=>by simp[D.ok]at h
 | .iI o,h=>by simp[D.ok]at h
 | .iK f cs,h=>by
  simp only[D.ok]at h
  simp only[D.fg,jx n m cs h]
 | .ptr o f,h=>by simp[D.ok]at h
 | .eJ r f,h=>by
  simp only[D.ok]at h
  simp only[D.fg,jx n m r h]
 | .slice g z rows,h=>by
  simp only[D.ok,Bool.and_eq_true]at h
  simp only[D.fg,F8 n m rows h.2]
  cases g with
  |tok t y=>simp[Tag.ok]at h
  |full=>rfl
  |shared=>rfl
 | .agg cs,h=>by
  simp only[D.ok]at h
  simp only[D.fg,jx n m cs h]
 | .tuple cs,h=>by
  simp only[D.ok]at h
  simp only[D.fg,jx n m cs h]
theorem jx (n m:Nat) : ∀ l,D.bN 0 0 l=true→D.je n m l=l
 | [],_=>by simp[D.je]
 |d::r,h=>by
  simp only[D.bN,Bool.and_eq_true]at h
  simp only[D.je,RK n m d h.1,jx n m r h.2]
theorem F8 (n m:Nat) : ∀ l,D.kc 0 0 l=true→D.lE n m l=l
 | [],_=>by simp[D.lE]
 |d::r,h=>by
  simp only[D.kc,Bool.and_eq_true]at h
  simp only[D.lE,jx n m d h.1,F8 n m r h.2]
end
theorem iL {α:Type} {f:α→List D} (h : ∀ x,D.bN 0 0 (f x)=true) (l:List α):D.kc 0 0 (l.map f)=true:=by
 simp[F4,h]
theorem ov {α:Type} {f:α→List D} (h : ∀ x,D.bN 0 0 (f x)=true) (n m:Nat) (l:List α):D.lE n m (l.map f)=l.map f:=F8 n m _ (iL h l)
theorem O3 (n m:Nat) : ∀ a b,D.lE n m (a++b)=D.lE n m a++D.lE n m b
 | [],b=>by simp[D.lE]
 |x::a,b=>by simp[D.lE,O3 n m a b]
abbrev ay:=List UInt8
structure aX where
 kind:Int
 text:ay
 n:Int
 pos:Int
deriving DecidableEq
structure Ex where
 op:Int
 n:Int
 name:ay
 kids:List Ex
structure Ar where
 ref:Bool
 name:ay
 x:Ex
structure Sm where
 id:Int
 kind:Int
 labels:List ay
 name:ay
 proc:ay
 x:Ex
 has:Bool
 args:List Ar
 aS:List Sm
 aL:List Sm
structure Pm where
 name:ay
 ref:Bool
structure Pc where
 name:ay
 params:List Pm
 vars:List ay
 body:List Sm
 fin:List ay
structure Pg where
 globals:List ay
 procs:List Pc
def jY:Ex:=⟨0,0,[],[]⟩
def ar0:Ar:=⟨false,[],jY⟩
def LX:Sm:=⟨0,0,[],[],[],jY,false,[],[],[]⟩
def F9:Pg:=⟨[],[]⟩
def encStr (s:ay):List D:= [.str s]
def fi (t:aX):List D:= [.int .i64 t.kind, .str t.text, .int .i64 t.n, .int .i64 t.pos]
def sl (z:Nat) (rows:List (List D)):D:= .slice .shared z rows
mutual
def bx:Ex→List D
 |⟨op,n,name,kids⟩=> [.int .i64 op, .int .i64 n, .str name, .slice .shared 4 (xo kids)]
def xo:List Ex→List (List D)
 | []=> []
 |x::l=>bx x::xo l
end
theorem I5 : ∀ l,xo l=l.map bx
 | []=>by simp[xo]
 |x::l=>by simp[xo,I5 l]
theorem gv (x:Ex):bx x = [.int .i64 x.op, .int .i64 x.n, .str x.name, .slice .shared 4 (x.kids.map bx)]:=by
 cases x;simp[bx,I5]
def fb (a:Ar):List D:= [.bool a.ref, .str a.name, .int .i64 a.x.op, .int .i64 a.x.n, .str a.x.name, .slice .shared 4 (a.x.kids.map bx)]
mutual
def bh:Sm→List D
 |⟨id,kind,labels,name,proc,x,has,args,aS,aL⟩=> [.int .i64 id, .int .i64 kind, .slice .shared 1 (labels.map encStr), .str name, .str proc,
  .int .i64 x.op, .int .i64 x.n, .str x.name, .slice .shared 4 (x.kids.map bx), .bool has, .slice .shared 6 (args.map fb), .slice .shared 13 (vj aS), .slice .shared 13 (vj aL)]
def vj:List Sm→List (List D)
 | []=> []
 |x::l=>bh x::vj l
end
theorem I6 : ∀ l,vj l=l.map bh
 | []=>by simp[vj]
 |x::l=>by simp[vj,I6 l]
theorem dF (s:Sm):bh s = [.int .i64 s.id, .int .i64 s.kind, .slice .shared 1 (s.labels.map encStr), .str s.name, .str s.proc,
 .int .i64 s.x.op, .int .i64 s.x.n, .str s.x.name, .slice .shared 4 (s.x.kids.map bx), .bool s.has, .slice .shared 6 (s.args.map fb), .slice .shared 13 (s.aS.map bh), .slice .shared 13 (s.aL.map bh)]:=by
 cases s;simp[bh,I6]
def fC (p:Pm):List D:= [.str p.name, .bool p.ref]
def cH (p:Pc):List D:= [.str p.name, .slice .shared 2 (p.params.map fC), .slice .shared 1 (p.vars.map encStr), .slice .shared 13 (p.body.map bh), .slice .shared 1 (p.fin.map encStr)]
def bY (p:Pg):List D:= [.slice .shared 1 (p.globals.map encStr), .slice .shared 5 (p.procs.map cH)]
theorem ael (x:aX):(fi x).length=4:=nd rfl
theorem abS (x:aX):List.take 4 (fi x)=fi x:=nd rfl
theorem abT (x:aX):List.drop 4 (fi x) = []:=nd rfl
theorem Un (x:aX):(fi x)[0]? = some (.int .i64 x.kind):=nd rfl
theorem Uo (x:aX):(fi x)[1]? = some (.str x.text):=nd rfl
theorem Uq (x:aX):(fi x)[2]? = some (.int .i64 x.n):=nd rfl
theorem Ur (x:aX):(fi x)[3]? = some (.int .i64 x.pos):=nd rfl
theorem ahG (Ga:Int) (ZX:ay) (n_:Int) (aen:Int):fi ⟨Ga,ZX,n_,aen⟩ = [.int .i64 Ga, .str ZX, .int .i64 n_, .int .i64 aen]:=by simp only[fi]
theorem ZY (x:Ex):(bx x).length=4:=by simp only[gv];rfl
theorem aeo (x:Ex):List.take 4 (bx x)=bx x:=by simp only[gv];rfl
theorem aep (x:Ex):List.drop 4 (bx x) = []:=by simp only[gv];rfl
theorem Xq (x:Ex):(bx x)[0]? = some (.int .i64 x.op):=by simp only[gv];rfl
theorem Xr (x:Ex):(bx x)[1]? = some (.int .i64 x.n):=by simp only[gv];rfl
theorem Xs (x:Ex):(bx x)[2]? = some (.str x.name):=by simp only[gv];rfl
theorem Xt (x:Ex):(bx x)[3]? = some (.slice .shared 4 (x.kids.map bx)):=by simp only[gv];rfl
theorem ak8 (op_:Int) (n_:Int) (pZ:ay) (ZZ:List Ex):bx ⟨op_,n_,pZ,ZZ⟩ = [.int .i64 op_, .int .i64 n_, .str pZ, .slice .shared 4 (ZZ.map bx)]:=by simp only[gv]
theorem ahH (x:Ar):(fb x).length=6:=nd rfl
theorem aeq (x:Ar):List.take 6 (fb x)=fb x:=nd rfl
theorem aer (x:Ar):List.drop 6 (fb x) = []:=nd rfl
theorem Xu (x:Ar):(fb x)[0]? = some (.bool x.ref):=nd rfl
theorem Xv (x:Ar):(fb x)[1]? = some (.str x.name):=nd rfl
theorem Xw (x:Ar):(fb x)[2]? = some (.int .i64 x.x.op):=nd rfl
theorem Xx (x:Ar):(fb x)[3]? = some (.int .i64 x.x.n):=nd rfl
theorem Xy (x:Ar):(fb x)[4]? = some (.str x.x.name):=nd rfl
theorem Xz (x:Ar):(fb x)[5]? = some (.slice .shared 4 (x.x.kids.map bx)):=nd rfl
theorem XA (x:Ar):List.take 4 (List.drop 2 (fb x))=bx x.x:=by simp only[fb,gv];rfl
theorem ak9 (LY:Bool) (pZ:ay) (x_:Ex):fb ⟨LY,pZ,x_⟩ = [.bool LY, .str pZ, .int .i64 x_.op, .int .i64 x_.n, .str x_.name, .slice .shared 4 (x_.kids.map bx)]:=by simp only[fb]
theorem Kw (x:Sm):(bh x).length=13:=by simp only[dF];rfl
theorem aes (x:Sm):List.take 13 (bh x)=bh x:=by simp only[dF];rfl
theorem aet (x:Sm):List.drop 13 (bh x) = []:=by simp only[dF];rfl
theorem XB (x:Sm):(bh x)[0]? = some (.int .i64 x.id):=by simp only[dF];rfl
theorem XC (x:Sm):(bh x)[1]? = some (.int .i64 x.kind):=by simp only[dF];rfl
theorem XD (x:Sm):(bh x)[2]? = some (.slice .shared 1 (x.labels.map encStr)):=by simp only[dF];rfl
theorem XE (x:Sm):(bh x)[3]? = some (.str x.name):=by simp only[dF];rfl
theorem XF (x:Sm):(bh x)[4]? = some (.str x.proc):=by simp only[dF];rfl
theorem XG (x:Sm):(bh x)[5]? = some (.int .i64 x.x.op):=by simp only[dF];rfl
theorem XH (x:Sm):(bh x)[6]? = some (.int .i64 x.x.n):=by simp only[dF];rfl
theorem XI (x:Sm):(bh x)[7]? = some (.str x.x.name):=by simp only[dF];rfl
theorem XJ (x:Sm):(bh x)[8]? = some (.slice .shared 4 (x.x.kids.map bx)):=by simp only[dF];rfl
theorem XK (x:Sm):(bh x)[9]? = some (.bool x.has):=by simp only[dF];rfl
theorem Us (x:Sm):(bh x)[10]? = some (.slice .shared 6 (x.args.map fb)):=by simp only[dF];rfl
theorem Ut (x:Sm):(bh x)[11]? = some (.slice .shared 13 (x.aS.map bh)):=by simp only[dF];rfl
theorem Uu (x:Sm):(bh x)[12]? = some (.slice .shared 13 (x.aL.map bh)):=by simp only[dF];rfl
theorem XL (x:Sm):List.take 4 (List.drop 5 (bh x))=bx x.x:=by simp only[dF,gv];rfl
theorem ala (id_:Int) (Ga:Int) (O4:List ay) (pZ:ay) (Z0:ay) (x_:Ex) (aeu:Bool) (Z1:List Ar) (aev:List Sm) (aew:List Sm):bh ⟨id_,Ga,O4,pZ,Z0,x_,aeu,Z1,aev,aew⟩ = [.int .i64 id_, .int .i64 Ga, .slice .shared 1 (O4.map encStr), .str pZ, .str Z0, .int .i64 x_.op, .int .i64 x_.n, .str x_.name, .slice .shared 4 (x_.kids.map bx), .bool aeu, .slice .shared 6 (Z1.map fb), .slice .shared 13 (aev.map bh), .slice .shared 13 (aew.map bh)]:=by simp only[dF]
theorem ahI (x:Pm):(fC x).length=2:=nd rfl
theorem aex (x:Pm):List.take 2 (fC x)=fC x:=nd rfl
theorem aey (x:Pm):List.drop 2 (fC x) = []:=nd rfl
theorem XM (x:Pm):(fC x)[0]? = some (.str x.name):=nd rfl
theorem XN (x:Pm):(fC x)[1]? = some (.bool x.ref):=nd rfl
theorem alb (pZ:ay) (LY:Bool):fC ⟨pZ,LY⟩ = [.str pZ, .bool LY]:=by simp only[fC]
theorem ahJ (x:Pc):(cH x).length=5:=nd rfl
theorem aez (x:Pc):List.take 5 (cH x)=cH x:=nd rfl
theorem aeA (x:Pc):List.drop 5 (cH x) = []:=nd rfl
theorem XO (x:Pc):(cH x)[0]? = some (.str x.name):=nd rfl
theorem XP (x:Pc):(cH x)[1]? = some (.slice .shared 2 (x.params.map fC)):=nd rfl
theorem XQ (x:Pc):(cH x)[2]? = some (.slice .shared 1 (x.vars.map encStr)):=nd rfl
theorem XR (x:Pc):(cH x)[3]? = some (.slice .shared 13 (x.body.map bh)):=nd rfl
theorem XS (x:Pc):(cH x)[4]? = some (.slice .shared 1 (x.fin.map encStr)):=nd rfl
theorem alc (pZ:ay) (O5:List Pm) (Z2:List ay) (Z3:List Sm) (aeB:List ay):cH ⟨pZ,O5,Z2,Z3,aeB⟩ = [.str pZ, .slice .shared 2 (O5.map fC), .slice .shared 1 (Z2.map encStr), .slice .shared 13 (Z3.map bh), .slice .shared 1 (aeB.map encStr)]:=by simp only[cH]
theorem ahK (x:Pg):(bY x).length=2:=nd rfl
theorem aeC (x:Pg):List.take 2 (bY x)=bY x:=nd rfl
theorem aeD (x:Pg):List.drop 2 (bY x) = []:=nd rfl
theorem XT (x:Pg):(bY x)[0]? = some (.slice .shared 1 (x.globals.map encStr)):=nd rfl
theorem XU (x:Pg):(bY x)[1]? = some (.slice .shared 5 (x.procs.map cH)):=nd rfl
theorem ald (LZ:List ay) (Uv:List Pc):bY ⟨LZ,Uv⟩ = [.slice .shared 1 (LZ.map encStr), .slice .shared 5 (Uv.map cH)]:=by simp only[bY]
attribute [go_sem] ael abS abT Un Uo Uq Ur ahG ZY aeo aep Xq Xr Xs Xt ak8 ahH aeq aer Xu Xv Xw Xx Xy Xz XA ak9 Kw aes aet XB XC XD XE XF XG XH XI XJ XK Us Ut Uu XL ala ahI aex aey XM XN alb ahJ aez aeA XO XP XQ XR XS alc ahK aeC aeD XT XU ald
theorem Gb (s:ay):D.bN 0 0 (encStr s)=true:=rfl
theorem Kx (t:aX):D.bN 0 0 (fi t)=true:=rfl
mutual
theorem gE : ∀ x,D.bN 0 0 (bx x)=true
 |⟨op,n,name,kids⟩=>by simp[bx,D.bN,D.ok,Tag.ok,Z4 kids]
theorem Z4 : ∀ l,D.kc 0 0 (xo l)=true
 | []=>rfl
 |x::l=>by simp[xo,D.kc,gE x,Z4 l]
end
theorem L0 (a:Ar):D.bN 0 0 (fb a)=true:=by simp[fb,D.bN,D.ok,Tag.ok,iL gE]
mutual
theorem np : ∀ x,D.bN 0 0 (bh x)=true
 |⟨id,kind,labels,name,proc,x,has,args,aS,aL⟩=>by simp[bh,D.bN,D.ok,Tag.ok,RL aS,RL aL,iL Gb,iL gE,iL L0]
theorem RL : ∀ l,D.kc 0 0 (vj l)=true
 | []=>rfl
 |x::l=>by simp[vj,D.kc,np x,RL l]
end
theorem RM (p:Pm):D.bN 0 0 (fC p)=true:=rfl
theorem Bf (p:Pc):D.bN 0 0 (cH p)=true:=by simp[cH,D.bN,D.ok,Tag.ok,iL RM,iL Gb,iL np]
theorem jP (p:Pg):D.bN 0 0 (bY p)=true:=by simp[bY,D.bN,D.ok,Tag.ok,iL Gb,iL Bf]
theorem aeE (n m:Nat) (x:aX):D.je n m (fi x)=fi x:=jx n m _ (Kx x)
theorem ahL (n m:Nat) (x:Ex):D.je n m (bx x)=bx x:=jx n m _ (gE x)
theorem ahM (n m:Nat) (x:Ar):D.je n m (fb x)=fb x:=jx n m _ (L0 x)
theorem ahN (n m:Nat) (x:Sm):D.je n m (bh x)=bh x:=jx n m _ (np x)
theorem ahO (n m:Nat) (x:Pm):D.je n m (fC x)=fC x:=jx n m _ (RM x)
theorem ahP (n m:Nat) (x:Pc):D.je n m (cH x)=cH x:=jx n m _ (Bf x)
theorem ahQ (n m:Nat) (x:Pg):D.je n m (bY x)=bY x:=jx n m _ (jP x)
attribute [go_sem] aeE ahL ahM ahN ahO ahP ahQ
theorem fw (l:List ay):D.kc 0 0 (l.map encStr)=true:=iL Gb l
theorem L3 (l:List aX):D.kc 0 0 (l.map fi)=true:=iL Kx l
theorem Z5 (l:List Ex):D.kc 0 0 (l.map bx)=true:=iL gE l
theorem Ky (l:List Ar):D.kc 0 0 (l.map fb)=true:=iL L0 l
theorem mZ (l:List Sm):D.kc 0 0 (l.map bh)=true:=iL np l
theorem RN (l:List Pm):D.kc 0 0 (l.map fC)=true:=iL RM l
theorem Kz (l:List Pc):D.kc 0 0 (l.map cH)=true:=iL Bf l
theorem Uw (n m:Nat) (l:List ay):D.lE n m (l.map encStr)=l.map encStr:=ov Gb n m l
theorem ow (n m:Nat) (l:List aX):D.lE n m (l.map fi)=l.map fi:=ov Kx n m l
theorem ahR (n m:Nat) (l:List Ex):D.lE n m (l.map bx)=l.map bx:=ov gE n m l
theorem ahS (n m:Nat) (l:List Ar):D.lE n m (l.map fb)=l.map fb:=ov L0 n m l
theorem ahT (n m:Nat) (l:List Sm):D.lE n m (l.map bh)=l.map bh:=ov np n m l
theorem ahU (n m:Nat) (l:List Pm):D.lE n m (l.map fC)=l.map fC:=ov RM n m l
theorem Z6 (n m:Nat) (l:List Pc):D.lE n m (l.map cH)=l.map cH:=ov Bf n m l
theorem aeF (x:Ex) (r:List D):bx x++r = .int .i64 x.op:: .int .i64 x.n:: .str x.name:: .slice .shared 4 (x.kids.map bx)::r:=by rw[gv];rfl
theorem abU (d:D) (x:Ex):d::bx x = [d, .int .i64 x.op, .int .i64 x.n, .str x.name, .slice .shared 4 (x.kids.map bx)]:=by rw[gv]
attribute [go_sem] aeF abU
theorem ahV:((0:Nat):Int)=0:=nd rfl
theorem ahW:((1:Nat):Int)=1:=nd rfl
theorem ahX:((2:Nat):Int)=2:=nd rfl
attribute [go_sem] ahV ahW ahX O3 List.length_append List.map_append encStr jY ar0 LX F9 Uw ow ahR ahS ahT ahU Z6
theorem mx (a b:Nat):(if(b:Int) > (a:Int)then(b:Int)else(a:Int))=((max a b:Nat):Int):=by split<;>omega
theorem bC {x:Int} (h1 : -9223372036854775808≤x) (h2:x<9223372036854775808):IntKind.wrap .i64 x=x:=by
 rw[IntKind.wrap_i64];omega
@[go_sem] theorem aM {n:Nat} (h:n<4611686018427387904):IntKind.wrap .i64 ((n:Int)+1)=((n+1:Nat):Int):=by
 rw[bC]<;>omega
def inc (n:Nat):Option Nat:=if n<4611686018427387904 then some (n+1)else none
theorem XV {n k:Nat} (h:inc n=some k):IntKind.wrap .i64 ((n:Int)+1)=((n+1:Nat):Int)∧k=n+1:=by
 unfold inc at h
 split at h
 ·rename_i hn;cases h;exact⟨aM hn,rfl⟩
 ·cases h
def L4 (n:Int):Option Int:=if -4611686018427387904<n∧n<4611686018427387904 then some (n+1)else none
theorem Ux {n k:Int} (h:L4 n=some k):IntKind.wrap .i64 (n+1)=n+1∧k=n+1:=by
 unfold L4 at h
 split at h
 ·rename_i hn;cases h;exact⟨bC (by omega) (by omega),rfl⟩
 ·cases h
@[go_sem] theorem ajS {n:Nat} (h:n+1<4611686018427387904):IntKind.wrap .i64 ((n:Int)+1)=((n+1:Nat):Int):=by
 rw[bC]<;>omega
@[go_sem] theorem ajT {n:Nat} (h:n<4611686018427387904):IntKind.wrap .i64 ((n:Int)+2)=((n+2:Nat):Int):=by
 rw[bC]<;>omega
def sM {α:Type} (l:List α) (i:Nat):Option α:=if i<4611686018427387904 then l[i]? else none
theorem CZ {α:Type} {l:List α} {i:Nat} {x:α} (h:sM l i=some x):i<4611686018427387904∧l[i]? = some x:=by
 unfold sM at h
 split at h
 ·exact⟨‹_›,h⟩
 ·cases h
def push {α:Type} (k:Nat) (l:List α) (x:α):Option (List α):=if(l.length+1)*k≤aF then some (l++ [x])else none
theorem qs {α:Type} {k:Nat} {l l':List α} {x:α} (h:push k l x=some l'):(l.length+1)*k≤aF∧l'=l++ [x]:=by
 unfold push at h
 split at h
 ·cases h;exact⟨‹_›,rfl⟩
 ·cases h
end Go.Abs
namespace Go.Abs
mutual
def Ex.size:Ex→Nat
 |⟨_,_,_,kids⟩=>1+Ex.aT kids
def Ex.aT:List Ex→Nat
 | []=>0
 |x::l=>1+x.size+Ex.aT l
end
mutual
def Ex.depth:Ex→Nat
 |⟨_,_,_,kids⟩=>Ex.iC kids+1
def Ex.iC:List Ex→Nat
 | []=>0
 |x::l=>max x.depth (Ex.iC l)
end
def Gc (x:Ex):Option Int:=if x.size<4611686018427387904 then some (x.depth:Int)else none
theorem Ex.bJ {x:Ex} : ∀ {l:List Ex},x∈l→x.size<Ex.aT l
 |y::l,h=>by
  simp only[Ex.aT]
  rcases List.mem_cons.1 h with rfl|h
  ·omega
  ·have:=Ex.bJ h;omega
theorem Ex.cu : ∀ (l:List Ex),l.length≤Ex.aT l
 | []=>Nat.le_refl _
 |x::l=>by simp only[Ex.aT,List.length_cons];have:=Ex.cu l;omega
theorem Ex.RO : ∀ (n:Nat) (x:Ex),x.size≤n→x.depth≤x.size:=by
 intro n
 induction n with
 |zero=>intro x h;cases x;simp only[Ex.size]at h;omega
 | succ n ih=>
  rintro⟨op,m,name,kids⟩ h
  simp only[Ex.size,Ex.depth]at h ⊢
  have : ∀ l:List Ex,Ex.aT l≤n→Ex.iC l≤Ex.aT l:=by
   intro l
   induction l with
   |nil=>intro _;simp[Ex.iC]
   |cons x l Gd=>
    intro h
    simp only[Ex.aT,Ex.iC]at h ⊢
    have:=ih x (by omega)
    have:=Gd (by omega)
    omega
  have:=this kids (by omega)
  omega
def kl (t:aX):Int×Int:=
 if t.kind != 4 then(0,0)
 else if t.text == [124,124]then(17,1)
 else if t.text == [38,38]then(16,2)
 else if t.text == [61,61]then(14,3)
 else if t.text == [33,61]then(15,3)
 else if t.text == [60]then(10,4)
 else if t.text == [60,61]then(11,4)
 else if t.text == [62]then(12,4)
 else if t.text == [62,61]then(13,4)
 else if t.text == [43]then(8,5)
 else if t.text == [45]then(9,5)
 else if t.text == [42]then(5,6)
 else if t.text == [47]then(6,6)
 else if t.text == [37]then(7,6)
 else(0,0)
structure Rd where
 l:List aX
 i:Nat
 code:Int
 sN:Int
 n:Nat
abbrev Rd.good (r:Rd):Bool:=r.code==0
def Rd.ic (r:Rd):Option aX:=(sM r.l r.i).bind fun t=>if decide (0≤t.kind) && decide (t.kind≤4)then some t else none
theorem L5 {r:Rd} {t:aX} (h:r.ic=some t):r.i<4611686018427387904∧r.l[r.i]? = some t∧0≤t.kind∧t.kind≤4:=by
 unfold Rd.ic at h
 rw[Option.bind_eq_some_iff]at h
 obtain⟨u,h1,h⟩:=h
 obtain⟨g1,g2⟩:=CZ h1
 by_cases hk:(decide (0≤u.kind) && decide (u.kind≤4))=true
 ·rw [if_pos hk]at h
  cases h
  simp only[Bool.and_eq_true,decide_eq_true_eq]at hk
  exact⟨g1,g2,hk.1,hk.2⟩
 ·rw[if_neg hk]at h;cases h
def Rd.bad (c:Int) (r:Rd):Option Rd:=if r.good then r.ic.bind fun t=>some {r with code:=c,sN:=t.pos}else some r
def Rd.is (text:ay) (r:Rd):Option Bool:=r.ic.bind fun t=>some ((t.kind==3 ||t.kind==4) && t.text==text)
def Rd.take (text:ay) (r:Rd):Option (Bool×Rd):=
 if !r.good then some (false,r)else(r.is text).bind fun b=>if !b then some (false,r)else some (true,{r with i:=r.i+1})
def Rd.want (text:ay) (r:Rd):Option Rd:=(r.take text).bind fun p=>if !p.1 then p.2.bad 3 else some p.2
def Rd.name (room:Bool) (r:Rd):Option (ay×Rd):=
 r.ic.bind fun t=>if !r.good ||t.kind != 1 then(r.bad 3).bind fun r=>some ([],r)else if !room then(r.bad 4).bind fun r=>some ([],r)else some (t.text,{r with i:=r.i+1})
def Rd.on (r:Rd):Rd:= {r with i:=r.i+1}
mutual
def Rd.one:Nat→Rd→Option (Ex×Rd)
 | 0,_=>none
 | n+1,r=>r.ic.bind fun t=>
  if !r.good then some (jY,r)
  else if t.kind==2 then some (⟨1,t.n,[],[]⟩,{r with i:=r.i+1})
  else if t.kind==1 then some (⟨2,0,t.text,[]⟩,{r with i:=r.i+1})
  else(r.take [40]).bind fun p=>
   if p.1 then(Rd.two n 1 p.2).bind fun x=>(x.2.want [41]).bind fun r=>some (x.1,r)
   else(p.2.take [45]).bind fun p=>
    if p.1 then(Rd.one n p.2).bind fun x=>some (⟨3,0,[],[x.1]⟩,x.2)
    else(p.2.take [33]).bind fun p=>
     if p.1 then(Rd.one n p.2).bind fun x=>some (⟨4,0,[],[x.1]⟩,x.2)
     else(p.2.bad 3).bind fun r=>some (jY,r)
def Rd.two:Nat→Int→Rd→Option (Ex×Rd)
 | 0,_,_=>none
 |n+1,least,r=>(Rd.one n r).bind fun x=>Rd.xp n least x.1 x.2
def Rd.xp:Nat→Int→Ex→Rd→Option (Ex×Rd)
 | 0,_,_,_=>none
 | n+1,least,x,r=>
  if r.good then r.ic.bind fun t=>
   if decide ((kl t).2<least) ||(kl t).1==0 then some (x,r)
   else(Rd.two n ((kl t).2+1) {r with i:=r.i+1}).bind fun y=>Rd.xp n least ⟨(kl t).1,0,[],[x,y.1]⟩ y.2
  else some (x,r)
end
def Rd.whole (n:Nat) (r:Rd):Option (Ex×Rd):=
 r.ic.bind fun t=>(Rd.two n 1 r).bind fun x=>
  if x.2.good then(Gc x.1).bind fun d=>if decide (d > 20)then some (x.1,{x.2 with code:=4,sN:=t.pos})else some (x.1,x.2)
  else some (x.1,x.2)
def Rd.names:Nat→List ay→Int→Rd→Option (List ay×Rd)
 | 0,_,_,_=>none
 | n+1,l,cZ,r=>
  if r.good then(r.name (decide ((l.length:Int)<cZ))).bind fun p=>(push 17 l p.1).bind fun l=>(p.2.take [44]).bind fun q=>
   if !q.1 then(q.2.want [59]).bind fun r=>some (l,r)else Rd.names n l cZ q.2
  else some (l,r)
def Rd.ahead (sign:ay) (r:Rd):Option Bool:=
 if r.good then r.ic.bind fun t=>if t.kind==1 then(sM r.l (r.i+1)).bind fun u=>some (u.kind==4 && u.text==sign)else some false
 else some false
def Rd.labels:Nat→List ay→Rd→Option (List ay×Rd)
 | 0,_,_=>none
 |n+1,l,r=>(r.ahead [58]).bind fun b=>if b then r.ic.bind fun t=>(push 17 l t.text).bind fun l=>Rd.labels n l {r with i:=r.i+2}else some (l,r)
def Rd.Ge (r:Rd):Option Bool:=
 r.ic.bind fun t=>some (if t.kind==1 then true else if t.kind != 3 then false
  else t.text == [105,102] ||t.text == [119,104,105,108,101] ||t.text == [98,114,101,97,107] ||t.text == [99,111,110,116,105,110,117,101] ||t.text == [114,101,116,117,114,110] ||t.text == [103,111,116,111] ||t.text == [114,101,97,100] ||t.text == [112,114,105,110,116])
def Rd.sO (m:Nat):Nat→List Ar→Rd→Option (List Ar×Rd)
 | 0,_,_=>none
 | n+1,l,r=>
  if r.good then(r.take [114,101,102]).bind fun p=>
   if p.1 then(p.2.name true).bind fun x=>(push 81 l ⟨true,x.1,jY⟩).bind fun l=>(x.2.take [44]).bind fun c=>if !c.1 then some (l,c.2)else Rd.sO m n l c.2
   else(Rd.whole m p.2).bind fun x=>(push 81 l ⟨false,[],x.1⟩).bind fun l=>(x.2.take [44]).bind fun c=>if !c.1 then some (l,c.2)else Rd.sO m n l c.2
  else some (l,r)
def Rd.other (sign:ay) (r:Rd):Option Bool:=if r.good then(r.is sign).bind fun b=>some !b else some false
def Rd.call (m:Nat) (name proc:ay) (r:Rd):Option (Sm×Rd):=
 (r.want [40]).bind fun r=>(r.other [41]).bind fun b=>
  if b then(Rd.sO m m [] r).bind fun q=>(q.2.want [41]).bind fun r=>(r.want [59]).bind fun r=>some (⟨0,4,[],name,proc,jY,false,q.1,[],[]⟩,r)
  else(r.want [41]).bind fun r=>(r.want [59]).bind fun r=>some (⟨0,4,[],name,proc,jY,false,[],[],[]⟩,r)
def Rd.named (m:Nat) (r:Rd):Option (Sm×Rd):=
 (r.name true).bind fun x=>(x.2.is [40]).bind fun b=>
  if b then Rd.call m [] x.1 x.2
  else(x.2.want [61]).bind fun r=>(r.ahead [40]).bind fun b=>
   if b then(r.name true).bind fun y=>Rd.call m x.1 y.1 y.2
   else(Rd.whole m r).bind fun y=>(y.2.want [59]).bind fun r=>some (⟨0,1,[],x.1,[],y.1,false,[],[],[]⟩,r)
def Rd.plain (m:Nat) (word:ay) (r:Rd):Option (Sm×Rd):=
 if word == [98,114,101,97,107]then some (⟨0,7,[],[],[],jY,false,[],[],[]⟩,r)
 else if word == [99,111,110,116,105,110,117,101]then some (⟨0,8,[],[],[],jY,false,[],[],[]⟩,r)
 else if word == [114,101,116,117,114,110]then(r.is [59]).bind fun b=>
  if !b then(Rd.whole m r).bind fun x=>some (⟨0,9,[],[],[],x.1,true,[],[],[]⟩,x.2)else some (⟨0,9,[],[],[],jY,false,[],[],[]⟩,r)
 else if word == [103,111,116,111]then(r.name true).bind fun x=>some (⟨0,10,[],x.1,[],jY,false,[],[],[]⟩,x.2)
 else if word == [114,101,97,100]then(r.name true).bind fun x=>some (⟨0,2,[],x.1,[],jY,false,[],[],[]⟩,x.2)
 else if word == [112,114,105,110,116]then(Rd.whole m r).bind fun x=>some (⟨0,3,[],[],[],x.1,false,[],[],[]⟩,x.2)
 else some (LX,r)
def Rd.head (m:Nat) (r:Rd):Option (Ex×Rd):=(r.want [40]).bind fun r=>(Rd.whole m r).bind fun x=>(x.2.want [41]).bind fun r=>some (x.1,r)
mutual
def Rd.rows (m:Nat):Nat→Int→Bool→Rd→Option ((List Sm×List ay)×Rd)
 | 0,_,_,_=>none
 |n+1,nest,body,r=>Rd.sP m n nest body [] r
def Rd.sP (m:Nat):Nat→Int→Bool→List Sm→Rd→Option ((List Sm×List ay)×Rd)
 | 0,_,_,_,_=>none
 | n+1,nest,body,out,r=>
  if r.good then(Rd.labels m [] r).bind fun l=>(l.2.is [125]).bind fun b=>
   if b && (body ||(l.1.length:Int)==0)then some ((out,l.1),{l.2 with i:=l.2.i+1})
   else(Rd.stmt m n nest l.2).bind fun s=>(push 209 out {s.1 with labels:=l.1}).bind fun out=>Rd.sP m n nest body out s.2
  else some (([],[]),r)
def Rd.stmt (m:Nat):Nat→Int→Rd→Option (Sm×Rd)
 | 0,_,_=>none
 | n+1,nest,r=>r.Ge.bind fun b=>
  if !b then(r.bad 3).bind fun r=>some (LX,r)
  else(inc r.n).bind fun k=>
   if decide ((k:Int) > 200) ||decide (nest > 12)then(({r with n:=k} : Rd).bad 4).bind fun r=>some (LX,r)
   else({r with n:=k} : Rd).ic.bind fun t=>
    if t.kind==1 then Rd.named m {r with n:=k}
    else if t.text == [105,102]then Rd.choice m n nest {r with n:=k,i:=r.i+1}
    else if t.text == [119,104,105,108,101]then(Rd.head m {r with n:=k,i:=r.i+1}).bind fun x=>(Rd.block m n nest x.2).bind fun b=>some (⟨0,6,[],[],[],x.1,false,[],b.1,[]⟩,b.2)
    else(Rd.plain m t.text {r with n:=k,i:=r.i+1}).bind fun s=>(s.2.want [59]).bind fun r=>some (s.1,r)
def Rd.block (m:Nat):Nat→Int→Rd→Option (List Sm×Rd)
 | 0,_,_=>none
 |n+1,nest,r=>(r.want [123]).bind fun r=>(L4 nest).bind fun k=>(Rd.rows m n k false r).bind fun p=>some (p.1.1,p.2)
def Rd.choice (m:Nat):Nat→Int→Rd→Option (Sm×Rd)
 | 0,_,_=>none
 |n+1,nest,r=>(Rd.head m r).bind fun x=>(Rd.block m n nest x.2).bind fun t=>(t.2.take [101,108,115,101]).bind fun q=>
  if q.1 then(Rd.block m n nest q.2).bind fun e=>some (⟨0,5,[],[],[],x.1,false,[],t.1,e.1⟩,e.2)
  else some (⟨0,5,[],[],[],x.1,false,[],t.1,[]⟩,q.2)
end
def Rd.params:Nat→List Pm→Rd→Option (List Pm×Rd)
 | 0,_,_=>none
 | n+1,l,r=>
  if r.good then(r.take [114,101,102]).bind fun q=>(q.2.name (decide ((l.length:Int)<8))).bind fun x=>(push 25 l ⟨x.1,q.1⟩).bind fun l=>(x.2.take [44]).bind fun c=>
   if !c.1 then some (l,c.2)else Rd.params n l c.2
  else some (l,r)
def Rd.vars (m:Nat):Nat→List ay→Rd→Option (List ay×Rd)
 | 0,_,_=>none
 |n+1,l,r=>(r.take [118,97,114]).bind fun q=>if q.1 then(Rd.names m l 16 q.2).bind fun x=>Rd.vars m n x.1 x.2 else some (l,q.2)
def Rd.wE (m:Nat) (name:ay) (ps:List Pm) (r:Rd):Option (Pc×Rd):=
 (Rd.vars m m [] r).bind fun v=>(Rd.rows m m 1 true v.2).bind fun b=>some (⟨name,ps,v.1,b.1.1,b.1.2⟩,b.2)
def Rd.proc (m:Nat) (r:Rd):Option (Pc×Rd):=
 (r.name true).bind fun x=>(x.2.want [40]).bind fun r=>(r.other [41]).bind fun b=>
  if b then(Rd.params m [] r).bind fun q=>(q.2.want [41]).bind fun r=>(r.want [123]).bind fun r=>Rd.wE m x.1 q.1 r
  else(r.want [41]).bind fun r=>(r.want [123]).bind fun r=>Rd.wE m x.1 [] r
def Rd.globals (m:Nat):Nat→List ay→Rd→Option (List ay×Rd)
 | 0,_,_=>none
 |n+1,l,r=>(r.take [103,108,111,98,97,108]).bind fun q=>if q.1 then(Rd.names m l 16 q.2).bind fun x=>Rd.globals m n x.1 x.2 else some (l,q.2)
def Rd.Gf (r:Rd):Option Bool:=if r.good then r.is [112,114,111,99]else some false
def Rd.Gg (r:Rd):Option Bool:=if r.good then r.ic.bind fun t=>some (t.kind != 0)else some false
def Rd.procs (m:Nat):Nat→List Pc→Rd→Option (List Pc×Rd)
 | 0,_,_=>none
 | n+1,l,r=>r.Gf.bind fun b=>
  if b then
   if(l.length:Int)==16 then(r.bad 4).bind fun r=>some (l,r)
   else(Rd.proc m {r with i:=r.i+1}).bind fun x=>(push 113 l x.1).bind fun l=>Rd.procs m n l x.2
  else r.Gg.bind fun b=>if b then(r.bad 3).bind fun r=>some (l,r)else some (l,r)
def Rd.program (m:Nat) (r:Rd):Option (Pg×Rd):=(Rd.globals m m [] r).bind fun g=>(Rd.procs m m [] g.2).bind fun q=>some (⟨g.1,q.1⟩,q.2)
mutual
def Ex.beq:Ex→Ex→Bool
 |⟨op,n,name,kids⟩,⟨Z7,n',nG,wF⟩=>if op != Z7 ||n != n' || !(name==nG) ||(kids.length:Int) != (wF.length:Int)then false else Ex.gw kids wF
def Ex.gw:List Ex→List Ex→Bool
 | [],_=>true
 |_::_,[]=>true
 |x::l,y::l'=>if !Ex.beq x y then false else Ex.gw l l'
end
mutual
theorem Ex.beq_refl : ∀ x:Ex,Ex.beq x x=true
 |⟨op,n,name,kids⟩=>by simp[Ex.beq,Ex.im kids]
theorem Ex.im : ∀ l:List Ex,Ex.gw l l=true
 | []=>rfl
 |x::l=>by simp[Ex.gw,Ex.beq_refl x,Ex.im l]
end
def Ar.aT:List Ar→Nat
 | []=>0
 |a::l=>1+a.x.size+Ar.aT l
mutual
def Sm.size:Sm→Nat
 |⟨_,_,labels,_,_,x,_,args,aS,aL⟩=>1+labels.length+x.size+Ar.aT args+Sm.aT aS+Sm.aT aL
def Sm.aT:List Sm→Nat
 | []=>0
 |s::l=>1+s.size+Sm.aT l
end
def Pc.size (f:Pc):Nat:=1+f.params.length+f.vars.length+f.fin.length+Sm.aT f.body
def Pc.aT:List Pc→Nat
 | []=>0
 |f::l=>1+f.size+Pc.aT l
def Pg.size (p:Pg):Nat:=1+p.globals.length+Pc.aT p.procs
mutual
def Sm.num (b:Bool) (n:Nat):Sm→Sm×Nat
 |⟨id,kind,labels,name,proc,x,has,args,aS,aL⟩=>
  (⟨if b then((n+1:Nat):Int)else id,kind,labels,name,proc,x,has,args,(Sm.fT b (n+1) aS).1,(Sm.fT b (Sm.fT b (n+1) aS).2 aL).1⟩,(Sm.fT b (Sm.fT b (n+1) aS).2 aL).2)
def Sm.fT (b:Bool) (n:Nat):List Sm→List Sm×Nat
 | []=>([],n)
 |s::l=>((Sm.num b n s).1::(Sm.fT b (Sm.num b n s).2 l).1,(Sm.fT b (Sm.num b n s).2 l).2)
end
def Pc.fT (n:Nat):List Pc→List Pc
 | []=> []
 |f::l=> {f with body:=(Sm.fT true n f.body).1}::Pc.fT (Sm.fT true n f.body).2 l
def Pg.number (p:Pg):Pg:= {p with procs:=Pc.fT 0 p.procs}
def Pg.DU (p:Pg):Option Pg:=if p.size<1073741824 then some p.number else none
mutual
theorem Sm.aeG (b:Bool) (n:Nat) : ∀ s:Sm,(Sm.num b n s).2≤n+s.size
 |⟨id,kind,labels,name,proc,x,has,args,aS,aL⟩=>by
  simp only[Sm.num,Sm.size]
  have h1:=Sm.wW b (n+1) aS
  have h2:=Sm.wW b (Sm.fT b (n+1) aS).2 aL
  omega
theorem Sm.wW (b:Bool) (n:Nat) : ∀ l:List Sm,(Sm.fT b n l).2≤n+Sm.aT l
 | []=>by simp[Sm.fT,Sm.aT]
 |s::l=>by
  simp only[Sm.fT,Sm.aT]
  have h1:=Sm.aeG b n s
  have h2:=Sm.wW b (Sm.num b n s).2 l
  omega
end
theorem Sm.cu : ∀ (l:List Sm),l.length≤Sm.aT l
 | []=>Nat.le_refl _
 |x::l=>by simp only[Sm.aT,List.length_cons];have:=Sm.cu l;omega
theorem Ar.cu : ∀ (l:List Ar),l.length≤Ar.aT l
 | []=>Nat.le_refl _
 |x::l=>by simp only[Ar.aT,List.length_cons];have:=Ar.cu l;omega
theorem Pc.cu : ∀ (l:List Pc),l.length≤Pc.aT l
 | []=>Nat.le_refl _
 |x::l=>by simp only[Pc.aT,List.length_cons];have:=Pc.cu l;omega
theorem Ar.bJ {x:Ar} : ∀ {l:List Ar},x∈l→x.x.size<Ar.aT l
 |y::l,h=>by
  simp only[Ar.aT]
  rcases List.mem_cons.1 h with rfl|h
  ·omega
  ·have:=Ar.bJ h;omega
theorem Sm.bJ {x:Sm} : ∀ {l:List Sm},x∈l→x.size<Sm.aT l
 |y::l,h=>by
  simp only[Sm.aT]
  rcases List.mem_cons.1 h with rfl|h
  ·omega
  ·have:=Sm.bJ h;omega
theorem Pc.bJ {x:Pc} : ∀ {l:List Pc},x∈l→x.size<Pc.aT l
 |y::l,h=>by
  simp only[Pc.aT]
  rcases List.mem_cons.1 h with rfl|h
  ·omega
  ·have:=Pc.bJ h;omega
mutual
def Sm.jy:Sm→Nat
 |⟨_,_,_,_,_,_,_,_,aS,aL⟩=>1+Sm.fj aS+Sm.fj aL
def Sm.fj:List Sm→Nat
 | []=>0
 |s::l=>s.jy+Sm.fj l
end
structure Im where
 s:Sm
 proc:Int
 up:Int
 next:Int
 loop:Int
mutual
def Im.one (proc up next loop:Int) (out:List Im):Sm→List Im
 | ⟨id,kind,labels,name,pc,x,has,args,aS,aL⟩=>
  Im.rows proc ((out.length:Int)+1) (if kind==6 then(out.length:Int)+1 else next) (if kind==6 then(out.length:Int)+1 else loop)
   (Im.rows proc ((out.length:Int)+1) (if kind==6 then(out.length:Int)+1 else next) (if kind==6 then(out.length:Int)+1 else loop) (out++ [⟨⟨id,kind,labels,name,pc,x,has,args,aS,aL⟩,proc,up,next,loop⟩]) aS) aL
def Im.rows (proc up next loop:Int) (out:List Im):List Sm→List Im
 | []=>out
 |s::l=>Im.rows proc up next loop (Im.one proc up (if l.length=0 then next else(out.length:Int)+1+(s.jy:Int)) loop out s) l
end
theorem Im.aeH (proc up next loop:Int) (out:List Im) (s:Sm):Im.one proc up next loop out s =
 Im.rows proc ((out.length:Int)+1) (if s.kind==6 then(out.length:Int)+1 else next) (if s.kind==6 then(out.length:Int)+1 else loop)
  (Im.rows proc ((out.length:Int)+1) (if s.kind==6 then(out.length:Int)+1 else next) (if s.kind==6 then(out.length:Int)+1 else loop) (out++ [⟨s,proc,up,next,loop⟩]) s.aS) s.aL:=by
 cases s;simp only[Im.one]
mutual
theorem abV (proc up next loop:Int) (out:List Im) : ∀ s:Sm,(Im.one proc up next loop out s).length=out.length+s.jy
 |⟨id,kind,labels,name,pc,x,has,args,aS,aL⟩=>by
  simp only[Im.one,Sm.jy]
  rw[iw,iw]
  simp only[List.length_append,List.length_cons,List.length_nil];omega
theorem iw (proc up next loop:Int) (out:List Im) : ∀ l:List Sm,(Im.rows proc up next loop out l).length=out.length+Sm.fj l
 | []=>rfl
 |s::l=>by
  simp only[Im.rows,Sm.fj]
  rw[iw,abV];omega
end
mutual
theorem E8 : ∀ s:Sm,s.jy≤s.size
 |⟨_,_,labels,_,_,x,_,args,aS,aL⟩=>by
  have:=mn aS;have:=mn aL
  simp only[Sm.jy,Sm.size];omega
theorem mn : ∀ l:List Sm,Sm.fj l≤Sm.aT l
 | []=>Nat.le_refl _
 |s::l=>by
  have:=E8 s;have:=mn l
  simp only[Sm.fj,Sm.aT];omega
end
structure Sh where
 L:List Im
 lo:List Int
 hi:List Int
def Sh.go (i:Nat) (h:Sh):List Pc→Sh
 | []=>h
 |f::l=>Sh.go (i+1) ⟨Im.rows i 0 (-1) 0 h.L f.body,h.lo++ [(h.L.length:Int)+1],h.hi++ [((Im.rows i 0 (-1) 0 h.L f.body).length:Int)+1]⟩ l
def Pg.fR (p:Pg):Sh:=Sh.go 0 ⟨[],[],[]⟩ p.procs
def XW:Nat:=3
def Wm:Nat:=4
def Uy:Nat:=5
def Uz:Nat:=6
def Wn:Nat:=7
def Wo:Nat:=8
def Wp:Nat:=9
def wh:Nat:=10
def Wq:Nat:=11
def sQ:Nat:=12
def zp:Nat:=13
def rz:Nat:=14
def ahY:Nat:=15
def uI:Nat:=16
def aeI:Nat:=17
def ahZ:Nat:=18
def sR:Nat:=19
def agV:Nat:=20
def C0:Nat:=21
def wG:Nat:=22
def nr:Nat:=23
def rO:Nat:=24
def xq:Nat:=25
def vK:Nat:=26
def vL:Nat:=27
def o7:Nat:=28
def agW:Nat:=29
def agX:Nat:=30
def agY:Nat:=31
def ah0:Nat:=32
def xr:Nat:=33
def adf:Nat:=34
def agZ:Nat:=35
def ah1:Nat:=36
def ag0:Nat:=37
def Bg:Nat:=38
def ajU:Nat:=39
def ag1:Nat:=40
def vM:Nat:=41
def xu:Nat:=42
def aeJ:Nat:=43
def vN:Nat:=44
def zr:Nat:=45
def kx:Nat:=46
def gY:Nat:=47
def lX:Nat:=48
def aeK:Nat:=49
def aeL:Nat:=50
def aeM:Nat:=51
def Z8:Nat:=52
def aeN:Nat:=53
def mH:Nat:=54
def mI:Nat:=55
def ox:Nat:=56
def lq:Nat:=57
def jZ:Nat:=58
def pB:Nat:=59
def nH:Nat:=60
def zt:Nat:=61
def gJ:Nat:=62
def p6:Nat:=63
def cM:Nat:=64
def iD:Nat:=65
def rP:Nat:=66
def xv:Nat:=67
def sS:Nat:=68
def rA:Nat:=69
def xw:Nat:=70
def sT:Nat:=71
def tX:Nat:=72
def C1:Nat:=73
def nT:Nat:=74
def rQ:Nat:=75
def qt:Nat:=76
def yx:Nat:=77
def wH:Nat:=78
def XX:Nat:=79
def aeO:Nat:=80
def E9:Nat:=81
def adg:Nat:=82
def uJ:Nat:=83
def ag2:Nat:=84
def ah2:Nat:=85
def lu:Nat:=86
def Z9:Nat:=87
def ag3:Nat:=88
def abW:Nat:=89
def sU:Nat:=90
def Bh:Nat:=91
def nU:Nat:=92
def pJ:Nat:=93
def uK:Nat:=94
def sV:Nat:=95
def mq:Nat:=96
def wI:Nat:=97
def kU:Nat:=98
def aeP:Nat:=99
def aeQ:Nat:=100
def aeR:Nat:=101
def ag4:Nat:=102
def aac:Nat:=103
def adh:Nat:=104
def adi:Nat:=105
def aeS:Nat:=106
def ah3:Nat:=107
def adj:Nat:=108
def adk:Nat:=109
def ag5:Nat:=110
def ag6:Nat:=111
def adl:Nat:=112
def adn:Nat:=113
def ado:Nat:=114
def sW:Nat:=115
def vO:Nat:=116
def kV:Nat:=117
def mb:Nat:=118
def sX:Nat:=119
def xx:Nat:=120
def xy:Nat:=121
def sY:Nat:=122
def vP:Nat:=123
def zu:Nat:=124
def n8:Nat:=125
def km:Nat:=126
def kK:Nat:=127
def rB:Nat:=128
def Bi:Nat:=129
def xA:Nat:=130
def dT:Nat:=131
def kn:Nat:=132
def db:Nat:=133
def ga:Nat:=134
def fx:Nat:=135
def pQ:Nat:=136
def dU:Nat:=137
def iM:Nat:=138
def mR:Nat:=139
def lM:Nat:=140
def aad:Nat:=141
def nV:Nat:=142
def aeT:Nat:=143
def aeU:Nat:=144
def ah4:Nat:=145
def abX:Nat:=146
def pK:Nat:=147
def oy:Nat:=148
def kf:Nat:=149
def Bj:Nat:=150
def zv:Nat:=151
def abY:Nat:=152
def aeV:Nat:=153
def aeW:Nat:=154
def adp:Nat:=155
def HS:Nat:=156
def lN:Nat:=157
def qu:Nat:=158
def sZ:Nat:=159
def vQ:Nat:=160
def nW:Nat:=161
def s4:Nat:=162
def iE:Nat:=163
def p7:Nat:=164
def vR:Nat:=165
def gT:Nat:=166
def na:Nat:=167
def Gh:Nat:=168
def aae:Nat:=169
def fl:Nat:=170
def dB:Nat:=171
def ix:Nat:=172
def nX:Nat:=173
def qL:Nat:=174
def On:Nat:=175
def aaf:Nat:=176
def s5:Nat:=177
def xB:Nat:=178
def zw:Nat:=179
def uL:Nat:=180
def Bk:Nat:=181
def il:Nat:=182
def zz:Nat:=183
def adq:Nat:=184
def adr:Nat:=185
def ag7:Nat:=186
def aeX:Nat:=187
def ag8:Nat:=188
def JY:Nat:=189
def qM:Nat:=190
def zA:Nat:=191
def jH:Nat:=192
def C2:Nat:=193
def FI:Nat:=194
def C3:Nat:=195
def Eb:Nat:=196
def DV:Nat:=197
def zN:Nat:=198
def Wr:Nat:=199
def Cl:Nat:=200
def Fa:Nat:=201
def Ws:Nat:=202
def Wt:Nat:=203
def oz:Nat:=204
def pR:Nat:=205
def rC:Nat:=206
def rD:Nat:=207
def ads:Nat:=208
def xC:Nat:=209
def qv:Nat:=210
def Bl:Nat:=211
def qN:Nat:=212
def rE:Nat:=213
def uM:Nat:=214
def aeY:Nat:=215
def aag:Nat:=216
def adt:Nat:=217
def abZ:Nat:=218
def rF:Nat:=219
def FJ:Nat:=220
def NM:Nat:=221
def Oo:Nat:=222
def Cm:Nat:=223
def HC:Nat:=224
def UA:Nat:=225
def oA:Nat:=226
def o8:Nat:=227
def oB:Nat:=228
def nc:Nat:=229
def ko:Nat:=230
def o9:Nat:=231
def pC:Nat:=232
def xD:Nat:=233
def JZ:Nat:=234
def HT:Nat:=235
def ab0:Nat:=236
def zB:Nat:=237
def HD:Nat:=238
def nf:Nat:=239
def gZ:Nat:=240
def adu:Nat:=241
def j7:Nat:=242
def nu:Nat:=243
def ly:Nat:=244
def wJ:Nat:=245
abbrev AI.o (t:Nat) (a:AO):AI:= .op (some t) none a
abbrev AI.g (t c:Nat) (b:Bool) (a:AO):AI:= .op (some t) (some (c,b)) a
abbrev AI.c (t f:Nat) (l:List X):AI:= .call (some t) none f l
abbrev AI.d (t c:Nat) (b:Bool) (f:Nat) (l:List X):AI:= .call (some t) (some (c,b)) f l
abbrev AI.m (t:Nat) (x:X):AI:= .op (some t) none (.mv x)
abbrev aV:X:= .s 0
abbrev bb:X:= .s 1
abbrev df:X:= .s 2
abbrev bD:X:= .s 3
abbrev cT:X:= .s 4
abbrev bd:X:= .s 5
abbrev bH:X:= .s 6
abbrev bF:X:= .s 7
abbrev bX:X:= .s 8
abbrev cw:X:= .s 9
abbrev bI:X:= .s 10
abbrev bO:X:= .s 11
abbrev bV:X:= .s 12
abbrev bP:X:= .s 13
abbrev bL:X:= .s 14
abbrev ct:X:= .s 15
abbrev cb:X:= .s 16
abbrev cQ:X:= .s 17
abbrev cO:X:= .s 18
abbrev cV:X:= .s 19
abbrev dc:X:= .s 20
abbrev dj:X:= .s 21
abbrev dm:X:= .s 22
abbrev dD:X:= .s 23
abbrev dd:X:= .s 24
abbrev di:X:= .s 25
abbrev ez:X:= .s 26
abbrev ek:X:= .s 27
abbrev eZ:X:= .s 28
abbrev fa:X:= .s 29
abbrev fk:X:= .s 30
abbrev fe:X:= .s 31
abbrev fv:X:= .s 32
abbrev fp:X:= .s 33
abbrev fA:X:= .s 34
abbrev fz:X:= .s 35
abbrev fI:X:= .s 36
abbrev fQ:X:= .s 37
abbrev gx:X:= .s 38
abbrev gh:X:= .s 39
abbrev gK:X:= .s 40
abbrev gk:X:= .s 41
abbrev ie:X:= .s 42
abbrev iy:X:= .s 43
abbrev iR:X:= .s 44
abbrev jg:X:= .s 45
abbrev jh:X:= .s 46
abbrev jz:X:= .s 47
abbrev iS:X:= .s 48
abbrev iX:X:= .s 49
abbrev jQ:X:= .s 50
abbrev ji:X:= .s 51
abbrev jA:X:= .s 52
abbrev jR:X:= .s 53
abbrev kb:X:= .s 54
abbrev kp:X:= .s 55
abbrev lz:X:= .s 56
abbrev lO:X:= .s 57
abbrev lA:X:= .s 58
abbrev kq:X:= .s 59
abbrev nq:X:= .s 60
abbrev nY:X:= .s 61
abbrev oC:X:= .s 62
abbrev nZ:X:= .s 63
abbrev pS:X:= .s 64
abbrev rX:X:= .s 65
abbrev s6:X:= .s 66
abbrev qw:X:= .s 67
abbrev ra:X:= .s 68
abbrev tY:X:= .s 69
abbrev rh:X:= .s 70
abbrev xE:X:= .s 71
abbrev vS:X:= .s 72
abbrev xF:X:= .s 73
abbrev xG:X:= .s 74
abbrev xH:X:= .s 75
abbrev vT:X:= .s 76
abbrev xI:X:= .s 77
abbrev vU:X:= .s 78
abbrev Bm:X:= .s 79
abbrev xJ:X:= .s 80
abbrev xK:X:= .s 81
abbrev Fb:X:= .s 82
abbrev Fc:X:= .s 83
abbrev Fe:X:= .s 84
abbrev Ff:X:= .s 85
abbrev Fg:X:= .s 86
abbrev Fh:X:= .s 87
abbrev Fi:X:= .s 88
abbrev Fj:X:= .s 89
abbrev Fk:X:= .s 90
abbrev Fl:X:= .s 91
abbrev Fm:X:= .s 92
abbrev HU:X:= .s 93
abbrev HV:X:= .s 94
abbrev HW:X:= .s 95
abbrev L6:X:= .s 96
abbrev RP:X:= .s 97
abbrev RQ:X:= .s 98
abbrev RR:X:= .s 99
abbrev KA:X:= .s 100
abbrev KB:X:= .s 101
abbrev KD:X:= .s 102
abbrev KE:X:= .s 103
abbrev KF:X:= .s 104
abbrev KH:X:= .s 105
abbrev KI:X:= .s 106
abbrev KK:X:= .s 107
abbrev KM:X:= .s 108
abbrev KN:X:= .s 109
abbrev RS:X:= .s 110
abbrev RT:X:= .s 111
abbrev RU:X:= .s 112
abbrev RV:X:= .s 113
abbrev RW:X:= .s 114
abbrev RX:X:= .s 115
abbrev RY:X:= .s 116
abbrev RZ:X:= .s 117
abbrev R0:X:= .s 118
abbrev R1:X:= .s 119
abbrev R3:X:= .s 120
abbrev R4:X:= .s 121
abbrev R5:X:= .s 122
abbrev R6:X:= .s 123
abbrev R7:X:= .s 124
abbrev R8:X:= .s 125
abbrev R9:X:= .s 126
abbrev aah:X:= .s 127
abbrev aai:X:= .s 128
abbrev aaj:X:= .s 129
abbrev aak:X:= .s 130
abbrev aal:X:= .s 131
abbrev Sb:X:= .s 132
abbrev aam:X:= .s 133
abbrev aan:X:= .s 134
abbrev aao:X:= .s 135
abbrev aap:X:= .s 136
abbrev aaq:X:= .s 137
abbrev aar:X:= .s 138
abbrev aas:X:= .s 139
abbrev aat:X:= .s 140
abbrev aau:X:= .s 141
abbrev aav:X:= .s 142
abbrev Sc:X:= .s 143
abbrev aaw:X:= .s 144
abbrev KO:X:= .s 145
abbrev aax:X:= .s 146
abbrev aay:X:= .s 147
abbrev aaz:X:= .s 148
abbrev aaA:X:= .s 149
abbrev aaB:X:= .s 150
abbrev aaC:X:= .s 151
abbrev ah5:X:= .s 152
abbrev ah6:X:= .s 153
abbrev ah7:X:= .s 154
abbrev ah8:X:= .s 155
abbrev ah9:X:= .s 156
abbrev aia:X:= .s 157
abbrev aib:X:= .s 158
abbrev aic:X:= .s 159
abbrev aid:X:= .s 160
abbrev aie:X:= .s 161
abbrev aif:X:= .s 162
abbrev aih:X:= .s 163
abbrev aii:X:= .s 164
abbrev aij:X:= .s 165
abbrev aik:X:= .s 166
abbrev ail:X:= .s 167
abbrev aim:X:= .s 168
abbrev ain:X:= .s 169
abbrev aio:X:= .s 170
abbrev aip:X:= .s 171
abbrev aiq:X:= .s 172
abbrev air:X:= .s 173
abbrev ais:X:= .s 174
abbrev ait:X:= .s 175
abbrev aiu:X:= .s 176
abbrev aiv:X:= .s 177
abbrev Q04:AC:= .cond bH (.seq (.run [.o 2 (.mv (.k (.bool false)))]) .ret) .skip
abbrev Q09:AC:= .cond cw (.seq (.run [.o 2 (.mv (.k (.bool true)))]) .ret) .skip
abbrev Q0E:AC:= .cond cQ (.seq (.run [.o 2 (.mv (.k (.bool true)))]) .ret) .skip
abbrev Q0J:AC:= .seq (.run [.o 19 (.load bb true 2), .c 20 xu [cV], .c 21 sR [dc], .m 18 dj, .o 22 (.ext cO 0), .o 23 (.ext cO 1), .o 3 (.alloc [(.slice .full 0 []),(.slice .full 0 [])]), .o 4 (.alloc [(.int .i64 0),(.int .i64 0)]), .op none none (.store bD dm 2), .op none none (.store cT dD 2)]) (.seq (.run [.o 24 (.ah cT 0), .o 25 (.load dd false 1), .o 26 (.bin .eql di (.k (.int .i64 0))), .m 27 ez, .g 28 27 true (.load bb true 2), .g 29 27 true (.load bD true 2), .d 30 27 true C0 [eZ,fa], .o 31 (.pick ek fk (.k (.bool false))), .m 2 fe]) .ret)
abbrev Q0K:AC:= .seq (.seq (.run [.o 10 (.load bb true 2), .c 11 uI [bI], .o 12 (.un .not bO), .m 13 bV, .g 14 13 false (.load bb true 2), .d 15 13 false vM [bL], .g 16 13 false (.bin .gtr ct (.k (.int .i64 2000))), .o 17 (.pick bP (.k (.bool true)) cb)]) Q0E) Q0J
abbrev Q0N:AC:= .seq (.run [.o 1 (.box aV), .o 2 (.mv (.k (.bool false)))]) (.seq (.seq (.run [.c 5 sQ [], .o 6 (.un .not bd)]) Q04) (.seq (.seq (.run [.o 7 (.load bb true 2), .c 8 zp [bF], .o 9 (.un .not bX)]) Q09) Q0K))
abbrev Q0S:AC:= .seq (.run [.c 4 vN [], .c 5 sR [cT], .m 3 bd, .o 6 (.ext bD 0), .o 7 (.ext bD 1), .o 1 (.alloc [(.slice .full 0 []),(.slice .full 0 [])]), .o 2 (.alloc [(.int .i64 0),(.int .i64 0)]), .op none none (.store bb bH 2), .op none none (.store df bF 2)]) (.seq (.run [.c 8 zr [], .c 9 uI [bX], .m 10 cw, .g 11 10 true (.ah df 0), .g 12 10 true (.load bO false 1), .g 13 10 true (.bin .eql bV (.k (.int .i64 0))), .o 14 (.pick bI bP (.k (.bool false))), .m 15 bL, .g 16 15 true (.load bb true 2), .d 17 15 true xr [cb], .g 18 15 true (.bin .eql cQ (.k (.int .i64 8))), .o 19 (.pick ct cO (.k (.bool false))), .m 20 cV, .g 21 20 true (.build [(.slice .full 0 []),(.slice .full 0 [])] []), .d 22 20 true rz [dj], .g 23 20 true (.uV dm 0 false 1), .g 24 20 true (.bin .eql dD (.k (.int .i64 5))), .o 25 (.pick dc dd (.k (.bool false))), .m 0 di]) .ret)
abbrev Q0T:AC:= .seq (.run [.o 0 (.mv (.k (.bool false)))]) Q0S
abbrev Q11:AC:= .par [.o 26 (.ah bd 4), .o 27 (.load ez false 1), .o 28 (.ah bd 2), .o 29 (.load eZ false 1), .o 30 (.ah bd 0), .o 31 (.load fk false 1), .m 32 bD, .c 33 gY [fe,fv], .c 34 kx [fa,fp], .c 35 kx [ek,fA], .m 3 fz] [(4,0),(5,0),(6,0),(7,0),(2,0),(3,1),(8,0),(0,0),(1,2),(9,0),(10,0)]
abbrev Q1A:AC:= .seq (.seq (.run [.m 36 bH, .o 37 (.ah bd 1), .o 38 (.load fQ false 1), .o 39 (.len gx), .o 40 (.bin .lss fI gh), .m 41 gK, .g 42 41 true (.mv bD), .g 43 41 true (.bin .leq ie (.k (.int .i64 20000))), .o 44 (.pick gk iy (.k (.bool false)))]) (.cond iR .skip (.exit 2))) (.seq (.block 3 (.run [.o 47 (.ah bd 1), .o 48 (.load jz false 1), .m 49 bH, .o 50 (.bE iS iX 2), .o 51 (.ah jQ 0), .o 52 (.load ji false 1), .m 53 bD, .c 54 gY [jA,jR], .m 3 kb])) (.run [.m 45 bH, .o 46 (.bin .add jg (.k (.int .i64 1))), .m 6 jh]))
abbrev Q1F:AC:= .seq (.seq (.run [.o 6 (.mv (.k (.int .i64 0)))]) (.block 2 (.loop Q1A))) (.run [.o 55 (.ah bd 3), .o 56 (.load kp false 1), .m 57 bD, .c 58 lX [lz,lO], .m 3 lA])
abbrev Q1K:AC:= .seq (.block 1 (.seq (.run [.o 21 (.ah bb 1), .o 22 (.load dj false 1), .m 23 cT, .o 24 (.bE dm dD 5), .o 25 (.load dd true 5), .o 5 (.alloc [(.str []),(.slice .full 0 []),(.slice .full 0 []),(.slice .full 0 []),(.slice .full 0 [])]), .op none none (.store bd di 5)]) (.seq Q11 Q1F))) (.run [.m 19 cT, .o 20 (.bin .add cV (.k (.int .i64 1))), .m 4 dc])
abbrev Q1L:AC:= .seq (.seq (.run [.m 10 cT, .o 11 (.ah bb 1), .o 12 (.load bO false 1), .o 13 (.len bV), .o 14 (.bin .lss bI bP), .m 15 bL, .g 16 15 true (.mv bD), .g 17 15 true (.bin .leq cb (.k (.int .i64 20000))), .o 18 (.pick ct cQ (.k (.bool false)))]) (.cond cO .skip (.exit 0))) Q1K
abbrev Q1R:AC:= .seq (.seq (.run [.o 4 (.mv (.k (.int .i64 0)))]) (.block 0 (.loop Q1L))) (.seq (.run [.m 59 bD, .o 60 (.bin .leq kq (.k (.int .i64 20000))), .m 2 nq]) .ret)
abbrev Q1T:AC:= .seq (.run [.o 1 (.box aV), .o 2 (.mv (.k (.bool false)))]) (.seq (.run [.o 7 (.ah bb 0), .o 8 (.load bF false 1), .c 9 kx [bX,(.k (.int .i64 0))], .m 3 cw]) Q1R)
abbrev Q1X:AC:= .seq (.run [(.o 7 (.build [(.int .i64 0),(.int .i64 0)] [(0,(1,(.k (.int .i64 1))))])), .op none none (.store df bF 2)]) .ret
abbrev Q2F:AC:= .seq (.seq (.run [.o 20 (.ah bD 0), .o 21 (.load dc false 1), .o 22 (.bin .eql dj (.k (.int .i64 0)))]) (.cond dm (.run [.o 23 (.load bb true 2), .c 24 vK [dD], .op none none (.store bD dd 2)]) .skip)) (.seq (.run [.o 25 (.load bD true 2), .op none none (.store df di 2)]) .ret)
abbrev Q2G:AC:= .seq (.seq (.run [.o 15 (.ah bD 0), .o 16 (.load ct false 1), .o 17 (.bin .eql cb (.k (.int .i64 0)))]) (.cond cQ (.run [.o 18 (.load bb true 2), .c 19 xq [cO], .op none none (.store bD cV 2)]) .skip)) Q2F
abbrev Q2H:AC:= .seq (.seq (.run [.o 10 (.ah bD 0), .o 11 (.load bI false 1), .o 12 (.bin .eql bO (.k (.int .i64 0)))]) (.cond bV (.run [.o 13 (.load bb true 2), .c 14 rO [bP], .op none none (.store bD bL 2)]) .skip)) Q2G
abbrev Q2K:AC:= .seq (.run [.o 1 (.box aV), .o 2 (.alloc [(.int .i64 0),(.int .i64 0)])]) (.seq (.seq (.run [.o 4 (.load bb true 2), .c 5 wG [cT], .o 6 (.un .not bd)]) (.cond bH Q1X .skip)) (.seq (.run [.o 8 (.load bb true 2), .c 9 nr [bX], .o 3 (.alloc [(.int .i64 0),(.int .i64 0)]), .op none none (.store bD cw 2)]) Q2H))
abbrev Q2O:AC:= .seq (.run [.o 1 (.box aV), .o 2 (.mv (.k (.bool false)))]) (.seq (.run [.o 3 (.load bb true 2), .c 4 rz [bD], .o 5 (.uV cT 0 false 1), .o 6 (.bin .eql bd (.k (.int .i64 0))), .m 2 bH]) .ret)
abbrev Q2W:AC:= .par [.o 19 (.build [(.slice .full 0 []),(.slice .full 0 [])] []), .o 20 (.load bd true 2), .op none none (.store df cV 2), .op none none (.store bD dc 2)] [(0,0),(2,0),(1,1),(3,0)]
abbrev Q32:AC:= .seq (.seq (.run [.o 16 (.ah bd 0), .o 17 (.load cb false 1), .o 18 (.bin .neq cQ (.k (.int .i64 0)))]) (.cond cO (.seq Q2W .ret) .skip)) (.seq (.run [.o 21 (.load cT true 2), .o 22 (.build [(.int .i64 0),(.int .i64 0)] []), .op none none (.store df dj 2), .op none none (.store bD dm 2)]) .ret)
abbrev Q33:AC:= .seq (.seq (.run [.o 11 (.ah bd 0), .o 12 (.load bO false 1), .o 13 (.bin .eql bV (.k (.int .i64 0)))]) (.cond bP (.run [.o 14 (.load cT true 2), .c 15 rz [bL], .op none none (.store bd ct 2)]) .skip)) Q32
abbrev Q35:AC:= .seq (.run [.o 2 (.alloc [(.slice .full 0 []),(.slice .full 0 [])]), .o 3 (.alloc [(.int .i64 0),(.int .i64 0)])]) (.seq (.run [.m 7 aV, .c 8 vL [bF], .m 6 bX, .o 9 (.ext bH 0), .o 10 (.ext bH 1), .o 4 (.alloc [(.slice .full 0 []),(.slice .full 0 [])]), .o 5 (.alloc [(.int .i64 0),(.int .i64 0)]), .op none none (.store cT cw 2), .op none none (.store bd bI 2)]) Q33)
abbrev Q3A:AC:= .cond dD (.seq (.run [.o 4 (.mv (.k (.bool false)))]) .ret) .skip
abbrev Q3G:AC:= .par [.o 30 (.ah df 1), .o 31 (.load fk false 1), .m 32 bd, .o 33 (.bE fe fv 5), .o 34 (.load fp true 5), .o 35 (.ah bD 1), .o 36 (.load fz false 1), .m 37 bd, .o 38 (.bE fI fQ 5), .o 39 (.load gx true 5), .o 6 (.alloc [(.str []),(.slice .full 0 []),(.slice .full 0 []),(.slice .full 0 []),(.slice .full 0 [])]), .o 7 (.alloc [(.str []),(.slice .full 0 []),(.slice .full 0 []),(.slice .full 0 []),(.slice .full 0 [])]), .op none none (.store bH fA 5), .op none none (.store bF gh 5)] [(10,0),(11,0),(0,0),(1,2),(2,0),(3,0),(4,2),(12,0),(5,0),(6,3),(7,0),(8,0),(9,3),(13,0)]
abbrev Q3H:AC:= .run [.o 40 (.ah bH 0), .o 41 (.load gK false 1), .o 42 (.ah bF 0), .o 43 (.load ie false 1), .o 44 (.bin .neq gk iy), .m 45 iR, .g 46 45 false (.ah bH 1), .g 47 45 false (.load jh false 1), .g 48 45 false (.len jz), .g 49 45 false (.ah bF 1), .g 50 45 false (.load iX false 1), .g 51 45 false (.len jQ), .g 52 45 false (.bin .neq iS ji), .o 53 (.pick jg (.k (.bool true)) jA), .m 54 jR, .g 55 54 false (.ah bH 2), .g 56 54 false (.load kp false 1), .g 57 54 false (.ah bF 2), .g 58 54 false (.load lO false 1), .d 59 54 false mH [lz,lA], .g 60 54 false (.un .not kq), .o 61 (.pick kb (.k (.bool true)) nq), .m 62 nY, .g 63 62 false (.ah bH 4), .g 64 62 false (.load nZ false 1), .g 65 62 false (.ah bF 4), .g 66 62 false (.load rX false 1), .d 67 62 false mH [pS,s6], .g 68 62 false (.un .not qw), .o 69 (.pick oC (.k (.bool true)) ra), .m 70 tY, .g 71 70 false (.ah bH 3), .g 72 70 false (.load xE false 1), .g 73 70 false (.ah bF 3), .g 74 70 false (.load xF false 1), .d 75 70 false mI [vS,xG], .g 76 70 false (.un .not xH), .o 77 (.pick rh (.k (.bool true)) vT)]
abbrev Q3K:AC:= .cond xI (.seq (.run [.o 4 (.mv (.k (.bool false)))]) .ret) .skip
abbrev Q3Q:AC:= .par [.o 84 (.ah bH 1), .o 85 (.load Fe false 1), .m 86 bX, .o 87 (.bE Ff Fg 2), .o 88 (.load Fh true 2), .o 89 (.ah bF 1), .o 90 (.load Fj false 1), .m 91 bX, .o 92 (.bE Fk Fl 2), .o 93 (.load Fm true 2), .o 94 (.eqs true [2,1] Fi HU)] [(0,0),(1,0),(2,0),(3,0),(4,0),(5,0),(6,0),(7,0),(8,0),(9,0),(10,0)]
abbrev Q3T:AC:= .cond HV (.seq (.run [.o 4 (.mv (.k (.bool false)))]) .ret) .skip
abbrev Q3Z:AC:= .seq (.cond Fb .skip (.exit 2)) (.seq (.block 3 (.seq (.run [.m 83 xK, .m 8 Fc]) (.seq Q3Q Q3T))) (.run [.o 95 (.bin .add xK (.k (.int .i64 1))), .m 81 HW]))
abbrev Q43:AC:= .seq (.run [.o 78 (.ah bH 1), .o 79 (.load vU false 1), .o 80 (.len Bm), .o 81 (.mv (.k (.int .i64 0)))]) (.block 2 (.loop (.seq (.run [.o 82 (.bin .lss xK xJ)]) Q3Z)))
abbrev Q49:AC:= .seq (.block 1 (.seq (.run [.m 29 ek, .m 5 fa]) (.seq Q3G (.seq (.seq Q3H Q3K) Q43)))) (.run [.o 96 (.bin .add ek (.k (.int .i64 1))), .m 27 L6])
abbrev Q4D:AC:= .block 0 (.loop (.seq (.run [.o 28 (.bin .lss ek ez)]) (.seq (.cond eZ .skip (.exit 0)) Q49)))
abbrev Q4H:AC:= .seq (.seq (.run [.o 24 (.ah df 1), .o 25 (.load dd false 1), .o 26 (.len di), .o 27 (.mv (.k (.int .i64 0)))]) Q4D) (.seq (.run [.o 4 (.mv (.k (.bool true)))]) .ret)
abbrev Q4I:AC:= .seq (.seq (.run [.o 9 (.ah df 0), .o 10 (.load cw false 1), .o 11 (.ah bD 0), .o 12 (.load bO false 1), .c 13 mH [bI,bV], .o 14 (.un .not bP), .m 15 bL, .g 16 15 false (.ah df 1), .g 17 15 false (.load cb false 1), .g 18 15 false (.len cQ), .g 19 15 false (.ah bD 1), .g 20 15 false (.load cV false 1), .g 21 15 false (.len dc), .g 22 15 false (.bin .neq cO dj), .o 23 (.pick ct (.k (.bool true)) dm)]) Q3A) Q4H
abbrev Q4J:AC:= .seq (.run [.o 2 (.box aV), .o 3 (.box bb), .o 4 (.mv (.k (.bool false)))]) Q4I
abbrev Q4O:AC:= .cond dD (.seq (.run [.o 2 (.mv (.k (.bool false)))]) .ret) .skip
abbrev Q4V:AC:= .run [.o 33 (.ah bd 1), .o 34 (.load fp false 1), .o 35 (.len fA), .o 36 (.bin .gtr fz (.k (.int .i64 8))), .m 37 fI, .g 38 37 false (.ah bd 2), .g 39 37 false (.load gx false 1), .g 40 37 false (.len gh), .g 41 37 false (.bin .gtr gK (.k (.int .i64 16))), .o 42 (.pick fQ (.k (.bool true)) gk), .m 43 ie, .g 44 43 false (.ah bd 0), .g 45 43 false (.load iR false 1), .d 46 43 false o7 [jg], .g 47 43 false (.un .not jh), .o 48 (.pick iy (.k (.bool true)) jz), .m 49 iS, .g 50 49 false (.ah bd 2), .g 51 49 false (.load jQ false 1), .d 52 49 false ox [ji], .g 53 49 false (.un .not jA), .o 54 (.pick iX (.k (.bool true)) jR), .m 55 kb, .g 56 55 false (.ah bd 4), .g 57 55 false (.load lz false 1), .d 58 55 false ox [lO], .g 59 55 false (.un .not lA), .o 60 (.pick kp (.k (.bool true)) kq)]
abbrev Q4Y:AC:= .cond nq (.seq (.run [.o 2 (.mv (.k (.bool false)))]) .ret) .skip
abbrev Q57:AC:= .cond xE (.seq (.run [.o 2 (.mv (.k (.bool false)))]) .ret) .skip
abbrev Q5C:AC:= .seq (.block 3 (.seq (.run [.o 66 (.bE oC pS 2), .o 67 (.load s6 true 2), .o 7 (.alloc [(.str []),(.bool false)]), .op none none (.store bF qw 2)]) (.seq (.run [.o 68 (.ah bF 0), .o 69 (.load ra false 1), .c 70 o7 [tY], .o 71 (.un .not rh)]) Q57))) (.run [.o 72 (.bin .add pS (.k (.int .i64 1))), .m 64 vS])
abbrev Q5G:AC:= .block 2 (.loop (.seq (.run [.o 65 (.bin .lss pS nZ)]) (.seq (.cond rX .skip (.exit 2)) Q5C)))
abbrev Q5L:AC:= .cond xI (.seq (.run [.o 2 (.mv (.k (.bool false)))]) .ret) .skip
abbrev Q5N:AC:= .seq (.seq (.run [.o 61 (.ah bd 1), .o 62 (.load nY false 1), .o 63 (.len oC), .o 64 (.mv (.k (.int .i64 0)))]) Q5G) (.seq (.run [.m 73 bD, .o 74 (.ah bd 3), .o 75 (.load xG false 1), .c 76 lq [xF,xH,(.k (.int .i64 1))], .o 77 (.un .not vT)]) Q5L)
abbrev Q5S:AC:= .seq (.block 1 (.seq (.run [.o 31 (.bE ek fa 5), .o 32 (.load fe true 5), .o 5 (.alloc [(.str []),(.slice .full 0 []),(.slice .full 0 []),(.slice .full 0 []),(.slice .full 0 [])]), .op none none (.store bd fv 5)]) (.seq (.seq Q4V Q4Y) Q5N))) (.run [.o 78 (.bin .add fa (.k (.int .i64 1))), .m 29 vU])
abbrev Q5W:AC:= .block 0 (.loop (.seq (.run [.o 30 (.bin .lss fa eZ)]) (.seq (.cond fk .skip (.exit 0)) Q5S)))
abbrev Q60:AC:= .seq (.seq (.run [.o 26 (.ah bb 1), .o 27 (.load ez false 1), .o 28 (.len ek), .o 29 (.mv (.k (.int .i64 0)))]) Q5W) (.seq (.run [.o 2 (.mv (.k (.bool true)))]) .ret)
abbrev Q62:AC:= .seq (.seq (.run [.o 8 (.ah bb 0), .o 9 (.load bX false 1), .o 10 (.len cw), .o 11 (.bin .gtr bI (.k (.int .i64 16))), .m 12 bO, .g 13 12 false (.ah bb 1), .g 14 12 false (.load bP false 1), .g 15 12 false (.len bL), .g 16 12 false (.bin .gtr ct (.k (.int .i64 16))), .o 17 (.pick bV (.k (.bool true)) cb), .m 18 cQ, .g 19 18 false (.ah bb 0), .g 20 18 false (.load cV false 1), .d 21 18 false ox [dc], .g 22 18 false (.un .not dj), .o 23 (.pick cO (.k (.bool true)) dm)]) Q4O) (.seq (.run [.o 24 (.build [(.int .i64 0)] []), .o 25 (.box dd), .m 3 di]) Q60)
abbrev Q63:AC:= .seq (.run [.o 1 (.box aV), .o 2 (.mv (.k (.bool false)))]) Q62
abbrev Q67:AC:= .seq (.run [(.o 16 (.build [(.int .i64 0),(.int .i64 0)] [(0,(1,(.k (.int .i64 1))))])), .op none none (.store df cb 2)]) .ret
abbrev Q6J:AC:= .seq (.block 1 (.seq (.run [.o 22 (.bE cO dc 5), .o 23 (.load dm true 5), .o 5 (.alloc [(.str []),(.slice .full 0 []),(.slice .full 0 []),(.slice .full 0 []),(.slice .full 0 [])]), .op none none (.store bd dD 5)]) (.run [.m 24 bD, .o 25 (.ah bd 0), .o 26 (.load di false 1), .o 27 (.c9 [(.str [])] 1 1 [(0,ez)]), .o 28 (.app 1 16 dd ek), .m 3 eZ]))) (.run [.o 29 (.bin .add dc (.k (.int .i64 1))), .m 20 fa])
abbrev Q6N:AC:= .block 0 (.loop (.seq (.run [.o 21 (.bin .lss dc cV)]) (.seq (.cond dj .skip (.exit 0)) Q6J)))
abbrev Q6S:AC:= .seq (.run [(.o 53 (.build [(.int .i64 0),(.int .i64 0)] [(0,(1,(.k (.int .i64 5))))])), .op none none (.store df jR 2)]) .ret
abbrev Q73:AC:= .seq (.run [(.o 73 (.build [(.int .i64 0),(.int .i64 0)] [(0,(1,(.k (.int .i64 5))))])), .op none none (.store df xF 2)]) .ret
abbrev Q7C:AC:= .seq (.run [.o 89 (.ah bV 0), .o 90 (.ah Fj 0), .o 91 (.load Fk false 1),(.o 92 (.build [(.int .i64 0),(.int .i64 0)] [(0,(1,(.k (.int .i64 5)))),(1,(1,Fl))])), .op none none (.store df Fm 2)]) .ret
abbrev Q7I:AC:= .seq (.block 5 (.seq (.run [.o 80 (.bE vT vU 17), .o 81 (.load xJ true 17), .o 12 (.alloc [(.int .i64 0),(.int .i64 0),(.slice .full 0 []),(.str []),(.str []),(.int .i64 0),(.int .i64 0),(.str []),(.slice .full 0 []),(.bool false),(.slice .full 0 []),(.slice .full 0 []),(.slice .full 0 []),(.int .i64 0),(.int .i64 0),(.int .i64 0),(.int .i64 0)]), .op none none (.store bV xK 17)]) (.seq (.run [.o 82 (.load bb true 2), .o 83 (.load cw true 5), .m 84 bD, .o 85 (.ah bV 0), .o 86 (.load Ff true 13), .c 87 rP [Fb,Fc,Fe,Fg], .o 88 (.un .not Fh)]) (.cond Fi Q7C .skip)))) (.run [.o 93 (.bin .add vU (.k (.int .i64 1))), .m 78 HU])
abbrev Q7M:AC:= .block 4 (.loop (.seq (.run [.o 79 (.bin .lss vU xI)]) (.seq (.cond Bm .skip (.exit 4)) Q7I)))
abbrev Q7O:AC:= .seq (.seq (.run [.m 66 bI, .c 67 pB [s6], .m 68 qw, .g 69 68 false (.mv bI), .g 70 68 false (.wx 63 [bb]), .d 71 68 false gJ [tY,rh], .o 72 (.pick ra (.k (.bool true)) xE)]) (.cond vS Q73 .skip)) (.seq (.run [.m 74 bF, .m 75 bX, .c 76 iD [xG,xH], .o 77 (.len vT), .o 78 (.mv (.k (.int .i64 0)))]) Q7M)
abbrev Q7T:AC:= .seq (.block 3 (.seq (.run [.m 61 kq, .o 62 (.bE lO kq 5), .o 63 (.load oC true 5), .o 9 (.alloc [(.str []),(.slice .full 0 []),(.slice .full 0 []),(.slice .full 0 []),(.slice .full 0 [])]), .m 8 nY, .op none none (.store cw nZ 5)]) (.seq (.run [.o 64 (.load cw true 5), .c 65 zt [pS], .m 10 rX]) Q7O))) (.run [.o 94 (.bin .add kq (.k (.int .i64 1))), .m 59 HV])
abbrev Q7X:AC:= .block 2 (.loop (.seq (.run [.o 60 (.bin .lss kq lA)]) (.seq (.cond nq .skip (.exit 2)) Q7T)))
abbrev Q81:AC:= .seq (.seq (.run [.o 56 (.ah bb 1), .o 57 (.load lz false 1), .o 58 (.len lO), .o 59 (.mv (.k (.int .i64 0)))]) Q7X) (.seq (.run [.o 95 (.build [(.int .i64 0),(.int .i64 0)] []), .op none none (.store df HW 2)]) .ret)
abbrev Q83:AC:= .seq (.seq (.run [.o 32 (.ah bb 0), .o 33 (.load fv false 1), .c 34 pB [fp], .m 35 fA, .g 36 35 false (.mv bD), .d 37 35 false pB [fI], .o 38 (.pick fz (.k (.bool true)) fQ), .m 39 gx, .g 40 39 false (.mv bH), .g 41 39 false (.bin .lss gK (.k (.int .i64 0))), .o 42 (.pick gh (.k (.bool true)) gk), .m 43 ie, .g 44 43 false (.ah bb 1), .g 45 43 false (.load iR false 1), .g 46 43 false (.mv bH), .g 47 43 false (.bE jg jh 5), .g 48 43 false (.ah jz 1), .g 49 43 false (.load iS false 1), .g 50 43 false (.len iX), .g 51 43 false (.bin .gtr jQ (.k (.int .i64 0))), .o 52 (.pick iy (.k (.bool true)) ji)]) (.cond jA Q6S .skip)) (.seq (.run [.o 54 (.load bb true 2), .c 55 nH [kb], .m 7 kp]) Q81)
abbrev Q85:AC:= .seq (.seq (.run [.o 17 (.ah bb 1), .o 18 (.load cQ false 1), .o 19 (.len cO), .o 20 (.mv (.k (.int .i64 0)))]) Q6N) (.seq (.run [.m 30 bD,(.c 31 jZ [fk,(.k (.str [109,97,105,110]))]), .m 6 fe]) Q83)
abbrev Q87:AC:= .seq (.seq (.run [.o 13 (.load bb true 2), .c 14 wG [bP], .o 15 (.un .not bL)]) (.cond ct Q67 .skip)) (.seq (.run [.o 3 (.mv (.k (.slice .full 0 [])))]) Q85)
abbrev Q88:AC:= .seq (.run [.o 1 (.box aV), .o 2 (.alloc [(.int .i64 0),(.int .i64 0)])]) Q87
abbrev Q8C:AC:= .seq (.run [(.o 9 (.build [(.int .i64 0),(.int .i64 0)] [(0,(1,(.k (.int .i64 1))))])), .op none none (.store df cw 2)]) .ret
abbrev Q8L:AC:= .seq (.run [.o 31 (.ah cT 0), .o 32 (.ah fe 0), .o 33 (.load fv false 1),(.o 34 (.build [(.int .i64 0),(.int .i64 0)] [(0,(1,(.k (.int .i64 6)))),(1,(1,fp))])), .op none none (.store df fA 2)]) .ret
abbrev Q8O:AC:= .seq (.run [.o 18 (.bE bL cb 17), .o 19 (.load cO true 17), .o 4 (.alloc [(.int .i64 0),(.int .i64 0),(.slice .full 0 []),(.str []),(.str []),(.int .i64 0),(.int .i64 0),(.str []),(.slice .full 0 []),(.bool false),(.slice .full 0 []),(.slice .full 0 []),(.slice .full 0 []),(.int .i64 0),(.int .i64 0),(.int .i64 0),(.int .i64 0)]), .op none none (.store cT cV 17)]) (.seq (.run [.o 20 (.ah cT 0), .o 21 (.ah dc 1), .o 22 (.load dj false 1), .o 23 (.bin .eql dm (.k (.int .i64 4))), .m 24 dD, .g 25 24 true (.load bb true 2), .g 26 24 true (.ah cT 0), .g 27 24 true (.load ez true 13), .d 28 24 true xv [di,ek], .g 29 24 true (.un .not eZ), .o 30 (.pick dd fa (.k (.bool false)))]) (.cond fk Q8L .skip))
abbrev Q8S:AC:= .seq (.cond cQ .skip (.exit 0)) (.seq (.block 1 Q8O) (.run [.o 35 (.bin .add cb (.k (.int .i64 1))), .m 16 fz]))
abbrev Q8W:AC:= .seq (.run [.o 10 (.load bb true 2), .c 11 nH [bI], .o 12 (.dN bO), .o 13 (.ah bV 2), .o 14 (.load bP false 1), .o 15 (.len bL), .o 16 (.mv (.k (.int .i64 0)))]) (.block 0 (.loop (.seq (.run [.o 17 (.bin .lss cb ct)]) Q8S)))
abbrev Q90:AC:= .seq (.seq (.run [.o 5 (.load bb true 2), .c 6 nr [bd], .o 7 (.uV bH 0 false 1), .o 8 (.bin .neq bF (.k (.int .i64 0)))]) (.cond bX Q8C .skip)) (.seq Q8W (.seq (.run [.o 36 (.build [(.int .i64 0),(.int .i64 0)] []), .op none none (.store df fI 2)]) .ret))
abbrev Q91:AC:= .seq (.run [.o 1 (.box aV), .o 2 (.alloc [(.int .i64 0),(.int .i64 0)])]) Q90
abbrev Q96:AC:= .seq (.run [(.o 14 (.build [(.int .i64 0),(.int .i64 0)] [(0,(1,(.k (.int .i64 1))))])), .op none none (.store df bL 2)]) .ret
abbrev Q9M:AC:= .seq (.run [.o 47 (.ah cw 0), .o 48 (.ah jz 0), .o 49 (.load iS false 1),(.o 50 (.build [(.int .i64 0),(.int .i64 0)] [(0,(1,(.k (.int .i64 7)))),(1,(1,iX))])), .op none none (.store df jQ 2)]) .ret
abbrev Q9P:AC:= .seq (.run [.m 32 bH, .o 33 (.ah cw 0), .o 34 (.ah fp 2), .o 35 (.load fA false 1), .c 36 rA [fv,fz], .m 31 fI, .o 37 (.ext fe 0), .o 38 (.ext fe 1), .m 6 fQ, .m 7 gx]) (.seq (.run [.m 39 bF, .o 40 (.un .not gh), .m 41 gK, .g 42 41 false (.mv bD), .g 43 41 false (.load cw true 17), .d 44 41 false xw [ie,iy], .g 45 41 false (.un .not iR), .o 46 (.pick gk (.k (.bool true)) jg)]) (.cond jh Q9M .skip))
abbrev Q9T:AC:= .seq (.block 3 (.seq (.run [.o 29 (.bE di ek 17), .o 30 (.load fa true 17), .o 9 (.alloc [(.int .i64 0),(.int .i64 0),(.slice .full 0 []),(.str []),(.str []),(.int .i64 0),(.int .i64 0),(.str []),(.slice .full 0 []),(.bool false),(.slice .full 0 []),(.slice .full 0 []),(.slice .full 0 []),(.int .i64 0),(.int .i64 0),(.int .i64 0),(.int .i64 0)]), .op none none (.store cw fk 17)]) Q9P)) (.run [.o 51 (.bin .add ek (.k (.int .i64 1))), .m 27 ji])
abbrev Q9X:AC:= .block 2 (.loop (.seq (.run [.o 28 (.bin .lss ek ez)]) (.seq (.cond eZ .skip (.exit 2)) Q9T)))
abbrev QA2:AC:= .seq (.run [(.o 61 (.build [(.int .i64 0),(.int .i64 0)] [(0,(1,(.k (.int .i64 7))))])), .op none none (.store df nY 2)]) .ret
abbrev QA6:AC:= .seq (.seq (.run [.m 23 bD, .m 24 cT, .c 25 iD [dD,dd], .o 26 (.len di), .o 27 (.mv (.k (.int .i64 0)))]) Q9X) (.seq (.run [.m 53 bH, .o 54 (.ah bd 4), .o 55 (.load kb false 1), .c 56 rA [jR,kp], .m 52 lz, .o 57 (.ext jA 0), .o 58 (.ext jA 1), .m 7 lA]) (.seq (.run [.m 59 bF, .o 60 (.un .not kq)]) (.cond nq QA2 .skip)))
abbrev QA8:AC:= .seq (.run [.o 6 (.mv (.k (.slice .full 0 [])))]) (.seq (.run [.o 7 (.mv (.k (.bool true)))]) QA6)
abbrev QAC:AC:= .seq (.block 1 (.seq (.run [.m 20 cO, .o 21 (.bE cb cO 5), .o 22 (.load dj true 5), .o 5 (.alloc [(.str []),(.slice .full 0 []),(.slice .full 0 []),(.slice .full 0 []),(.slice .full 0 [])]), .m 4 dc, .op none none (.store bd dm 5)]) QA8)) (.run [.o 62 (.bin .add cO (.k (.int .i64 1))), .m 18 oC])
abbrev QAG:AC:= .block 0 (.loop (.seq (.run [.o 19 (.bin .lss cO cQ)]) (.seq (.cond cV .skip (.exit 0)) QAC)))
abbrev QAK:AC:= .seq (.seq (.run [.o 15 (.ah bb 1), .o 16 (.load ct false 1), .o 17 (.len cb), .o 18 (.mv (.k (.int .i64 0)))]) QAG) (.seq (.run [.o 63 (.build [(.int .i64 0),(.int .i64 0)] []), .op none none (.store df nZ 2)]) .ret)
abbrev QAM:AC:= .seq (.run [.o 10 (.load bb true 2), .c 11 sS [bI], .m 3 bO]) (.seq (.seq (.run [.m 12 bD, .o 13 (.IL false bV (.k .fS))]) (.cond bP Q96 .skip)) QAK)
abbrev QAN:AC:= .seq (.run [.o 1 (.box aV), .o 2 (.alloc [(.int .i64 0),(.int .i64 0)])]) QAM
abbrev QAR:AC:= .seq (.run [(.o 12 (.build [(.int .i64 0),(.int .i64 0)] [(0,(1,(.k (.int .i64 1))))])), .op none none (.store df bV 2)]) .ret
abbrev QAZ:AC:= .par [.m 21 bD, .o 22 (.ah bd 0), .o 23 (.load dm false 1), .o 24 (.load bb true 2), .o 25 (.ah bd 0), .o 26 (.load di false 1), .c 27 sT [dd,ez], .op none none (.AZ dj dD ek)] [(3,0),(4,0),(5,0),(6,0),(0,0),(1,0),(2,1),(7,0)]
abbrev QB3:AC:= .seq (.block 1 (.seq (.run [.o 19 (.bE ct cQ 5), .o 20 (.load cV true 5), .o 5 (.alloc [(.str []),(.slice .full 0 []),(.slice .full 0 []),(.slice .full 0 []),(.slice .full 0 [])]), .op none none (.store bd dc 5)]) QAZ)) (.run [.o 28 (.bin .add cQ (.k (.int .i64 1))), .m 17 eZ])
abbrev QB7:AC:= .block 0 (.loop (.seq (.run [.o 18 (.bin .lss cQ cb)]) (.seq (.cond cO .skip (.exit 0)) QB3)))
abbrev QBF:AC:= .seq (.run [.o 54 (.ah bF 0), .o 55 (.ah kb 0), .o 56 (.load kp false 1),(.o 57 (.build [(.int .i64 0),(.int .i64 0)] [(0,(1,(.k (.int .i64 8)))),(1,(1,lz))])), .op none none (.store df lO 2)]) .ret
abbrev QBI:AC:= .seq (.run [.o 37 (.bE fp fz 17), .o 38 (.load fQ true 17), .o 7 (.alloc [(.int .i64 0),(.int .i64 0),(.slice .full 0 []),(.str []),(.str []),(.int .i64 0),(.int .i64 0),(.str []),(.slice .full 0 []),(.bool false),(.slice .full 0 []),(.slice .full 0 []),(.slice .full 0 []),(.int .i64 0),(.int .i64 0),(.int .i64 0),(.int .i64 0)]), .op none none (.store bF gx 17)]) (.seq (.run [.o 39 (.ah bF 0), .o 40 (.ah gh 1), .o 41 (.load gK false 1), .o 42 (.bin .eql gk (.k (.int .i64 4))), .m 43 ie, .g 44 43 true (.ah bF 0), .g 45 43 true (.load iR true 13), .g 46 43 true (.mv bD), .g 47 43 true (.ah bF 0), .g 48 43 true (.ah jz 4), .g 49 43 true (.load iS false 1), .g 50 43 true (.yg jh iX (.slice .full 0 [])), .d 51 43 true tX [jg,jQ], .g 52 43 true (.un .not ji), .o 53 (.pick iy jA (.k (.bool false)))]) (.cond jR QBF .skip))
abbrev QBM:AC:= .seq (.cond fI .skip (.exit 2)) (.seq (.block 3 QBI) (.run [.o 58 (.bin .add fz (.k (.int .i64 1))), .m 35 lA]))
abbrev QBQ:AC:= .seq (.run [.o 29 (.load bb true 2), .c 30 nH [fa], .o 31 (.dN fk), .o 32 (.ah fe 2), .o 33 (.load fv false 1), .o 34 (.len fp), .o 35 (.mv (.k (.int .i64 0)))]) (.block 2 (.loop (.seq (.run [.o 36 (.bin .lss fz fA)]) QBM)))
abbrev QBU:AC:= .seq (.seq (.run [.o 14 (.ah bb 1), .o 15 (.load bL false 1), .o 16 (.len ct), .o 17 (.mv (.k (.int .i64 0)))]) QB7) (.seq QBQ (.seq (.run [.o 59 (.build [(.int .i64 0),(.int .i64 0)] []), .op none none (.store df kq 2)]) .ret))
abbrev QBW:AC:= .seq (.seq (.run [.o 8 (.load bb true 2), .c 9 rO [bX], .o 10 (.uV cw 0 false 1), .o 11 (.bin .neq bI (.k (.int .i64 0)))]) (.cond bO QAR .skip)) (.seq (.run [.op (some 13) none .wy, .m 3 bP]) QBU)
abbrev QBX:AC:= .seq (.run [.o 1 (.box aV), .o 2 (.alloc [(.int .i64 0),(.int .i64 0)])]) QBW
abbrev QC1:AC:= .par [.o 16 (.build [(.slice .full 0 []),(.slice .full 0 [])] []), .o 17 (.load bd true 2), .op none none (.store df cb 2), .op none none (.store bD cQ 2)] [(0,0),(2,0),(1,1),(3,0)]
abbrev QC8:AC:= .par [.o 29 (.build [(.slice .full 0 []),(.slice .full 0 [])] []), .m 30 bH, .o 31 (.dN fk), .o 32 (.ah fe 2), .o 33 (.load fv true 2), .op none none (.store df fa 2), .op none none (.store bD fp 2)] [(0,0),(5,0),(1,0),(2,0),(3,0),(4,1),(6,0)]
abbrev QCE:AC:= .seq (.seq (.run [.m 23 bH, .o 24 (.dN dD), .o 25 (.ah dd 2), .o 26 (.ah di 0), .o 27 (.load ez false 1), .o 28 (.bin .neq ek (.k (.int .i64 0)))]) (.cond eZ (.seq QC8 .ret) .skip)) (.seq (.run [.o 34 (.load bF true 2), .c 35 rQ [fA], .o 36 (.build [(.int .i64 0),(.int .i64 0)] []), .op none none (.store df fz 2), .op none none (.store bD fI 2)]) .ret)
abbrev QCH:AC:= .seq (.seq (.run [.o 13 (.ah bd 0), .o 14 (.load bP false 1), .o 15 (.bin .neq bL (.k (.int .i64 0)))]) (.cond ct (.seq QC1 .ret) .skip)) (.seq (.run [.m 18 cT, .o 19 (.build [(.slice .full 0 []),(.int .i64 0),(.int .i64 0),(.int .i64 0),(.int .i64 0)] [(0,(1,cO))]), .o 20 (.box cV), .m 6 dc]) (.seq (.run [.m 21 bH, .c 22 nT [dj], .o 7 (.alloc [(.slice .full 0 []),(.slice .full 0 [])]), .op none none (.store bF dm 2)]) QCE))
abbrev QCJ:AC:= .seq (.run [.o 2 (.alloc [(.slice .full 0 []),(.slice .full 0 [])]), .o 3 (.alloc [(.int .i64 0),(.int .i64 0)])]) (.seq (.run [.m 9 aV, .c 10 C1 [cw], .m 8 bI, .o 11 (.ext bX 0), .o 12 (.ext bX 1), .o 5 (.alloc [(.int .i64 0),(.int .i64 0)]), .m 4 bO, .op none none (.store bd bV 2)]) QCH)
abbrev QCO:AC:= .cond cb (.seq (.run [.o 2 (.mv (.k (.bool false)))]) .ret) .skip
abbrev QCS:AC:= .seq (.seq (.run [.m 3 aV, .o 4 (.nk bD), .o 5 (.bin .lss cT (.k (.int .i64 1))), .m 6 bd, .g 7 6 false (.mv aV), .g 8 6 false (.nk bF), .g 9 6 false (.bin .gtr bX (.k (.int .i64 8))), .o 10 (.pick bH (.k (.bool true)) cw), .m 11 bI, .g 12 11 false (.mv aV), .g 13 11 false (.qf bV (.k (.int .i64 0))), .d 14 11 false qt [bP], .g 15 11 false (.un .not bL), .o 16 (.pick bO (.k (.bool true)) ct)]) QCO) (.seq (.run [.m 17 aV, .c 18 yx [cQ,(.k (.int .i64 0))], .m 19 aV, .o 20 (.nk cV), .o 21 (.bin .eql cO dc), .m 22 dj, .g 23 22 true (.mv aV), .d 24 22 true wH [dD], .g 25 22 true (.un .not dd), .o 26 (.pick dm di (.k (.bool false))), .m 2 ez]) .ret)
abbrev QCT:AC:= .seq (.run [.o 2 (.mv (.k (.bool false)))]) QCS
abbrev QD4:AC:= .seq (.block 1 (.seq (.run [.o 11 (.bE bF cw 5), .o 12 (.load bO true 5), .o 5 (.alloc [(.str []),(.slice .full 0 []),(.slice .full 0 []),(.slice .full 0 []),(.slice .full 0 [])]), .op none none (.store bd bV 5)]) (.run [.m 13 bD, .o 14 (.ah bd 3), .o 15 (.load bL false 1), .c 16 lu [ct], .o 17 (.bin .add bP cb), .m 3 cQ]))) (.run [.o 18 (.bin .add cw (.k (.int .i64 1))), .m 9 cO])
abbrev QD8:AC:= .block 0 (.loop (.seq (.run [.o 10 (.bin .lss cw bX)]) (.seq (.cond bI .skip (.exit 0)) QD4)))
abbrev QDC:AC:= .seq (.seq (.run [.o 6 (.ah bb 1), .o 7 (.load bH false 1), .o 8 (.len bF), .o 9 (.mv (.k (.int .i64 0)))]) QD8) (.seq (.run [.m 19 bD, .m 2 cV]) .ret)
abbrev QDE:AC:= .seq (.run [.o 1 (.box aV), .o 2 (.mv (.k (.int .i64 0)))]) (.seq (.run [.o 3 (.mv (.k (.int .i64 0)))]) QDC)
abbrev QDR:AC:= .seq (.run [.m 13 bD, .o 14 (.load bd true 5), .c 15 uJ [bL], .o 16 (.app 16 232 bP ct), .m 3 cb]) (.seq (.run [.m 17 bD, .o 18 (.len cQ), .o 19 (.bin .gtr cO (.k (.int .i64 200)))]) (.cond cV (.seq (.run [.m 20 bD, .m 2 dc]) .ret) .skip))
abbrev QDV:AC:= .seq (.block 1 (.seq (.run [.o 11 (.bE bF cw 5), .o 12 (.load bO true 5), .o 5 (.alloc [(.str []),(.slice .full 0 []),(.slice .full 0 []),(.slice .full 0 []),(.slice .full 0 [])]), .op none none (.store bd bV 5)]) QDR)) (.run [.o 21 (.bin .add cw (.k (.int .i64 1))), .m 9 dj])
abbrev QDZ:AC:= .block 0 (.loop (.seq (.run [.o 10 (.bin .lss cw bX)]) (.seq (.cond bI .skip (.exit 0)) QDV)))
abbrev QE3:AC:= .seq (.seq (.run [.o 6 (.ah bb 1), .o 7 (.load bH false 1), .o 8 (.len bF), .o 9 (.mv (.k (.int .i64 0)))]) QDZ) (.seq (.run [.m 22 bD, .m 2 dm]) .ret)
abbrev QE5:AC:= .seq (.run [.o 1 (.box aV), .o 2 (.mv (.k (.slice .full 0 [])))]) (.seq (.run [.o 3 (.mv (.k (.slice .full 0 [])))]) QE3)
abbrev QEB:AC:= .seq (.run [.o 10 (.ah bb 0), .o 11 (.load bI false 1), .o 12 (.len bO), .o 13 (.bin .gtr bV (.k (.int .i64 0)))]) (.cond bP (.run [.o 14 (.ah bb 0), .o 15 (.load bL false 1), .o 16 (.len ct), .o 17 (.bin .mul (.k (.int .i64 2)) cb), .o 18 (.bin .add (.k (.int .i64 1)) cQ), .m 3 cO]) .skip)
abbrev QEO:AC:= .seq (.run [.o 45 (.ah bF 1), .o 46 (.load jg false 1)]) (.cond jh (.run [.m 47 bD, .o 48 (.bin .add jz (.k (.int .i64 1))), .m 3 iS]) .skip)
abbrev QES:AC:= .seq (.block 3 (.seq (.run [.o 43 (.bE gh gk 2), .o 44 (.load iy true 2), .o 7 (.alloc [(.str []),(.bool false)]), .op none none (.store bF iR 2)]) QEO)) (.run [.o 49 (.bin .add gk (.k (.int .i64 1))), .m 41 iX])
abbrev QEW:AC:= .block 2 (.loop (.seq (.run [.o 42 (.bin .lss gk gK)]) (.seq (.cond ie .skip (.exit 2)) QES)))
abbrev QF1:AC:= .seq (.run [.o 50 (.ah bd 1), .o 51 (.load jQ false 1), .o 52 (.len ji), .o 53 (.bin .gtr jA (.k (.int .i64 0)))]) (.cond jR (.run [.m 54 bD, .o 55 (.bin .sub kb (.k (.int .i64 1))), .m 3 kp]) .skip)
abbrev QF5:AC:= .seq (.run [.o 56 (.ah bd 2), .o 57 (.load lz false 1), .o 58 (.len lO), .o 59 (.bin .gtr lA (.k (.int .i64 0)))]) (.cond kq (.run [.m 60 bD, .o 61 (.ah bd 2), .o 62 (.load nY false 1), .o 63 (.len oC), .o 64 (.bin .mul (.k (.int .i64 2)) nZ), .o 65 (.bin .add (.k (.int .i64 1)) pS), .o 66 (.bin .add nq rX), .m 3 s6]) .skip)
abbrev QFE:AC:= .seq (.block 5 (.seq (.run [.o 72 (.bE ra rh 16), .o 73 (.load vS true 16), .o 9 (.alloc [(.int .i64 0),(.int .i64 0),(.slice .full 0 []),(.str []),(.str []),(.int .i64 0),(.int .i64 0),(.str []),(.slice .full 0 []),(.bool false),(.slice .full 0 []),(.slice .full 0 []),(.slice .full 0 []),(.int .i64 0),(.int .i64 0),(.bool false)]), .op none none (.store cw xF 16)]) (.run [.m 74 bD, .o 75 (.ah cw 0), .o 76 (.load xH true 13), .c 77 sU [vT], .o 78 (.bin .add xG xI), .m 3 vU]))) (.run [.o 79 (.bin .add rh (.k (.int .i64 1))), .m 70 Bm])
abbrev QFG:AC:= .seq (.run [.o 71 (.bin .lss rh tY)]) (.seq (.cond xE .skip (.exit 4)) QFE)
abbrev QFK:AC:= .seq QF5 (.seq (.run [.o 67 (.load bd true 5), .c 68 uJ [qw], .o 69 (.len ra), .o 70 (.mv (.k (.int .i64 0)))]) (.block 4 (.loop QFG)))
abbrev QFM:AC:= .seq (.seq (.run [.o 38 (.ah bd 1), .o 39 (.load gx false 1), .o 40 (.len gh), .o 41 (.mv (.k (.int .i64 0)))]) QEW) (.seq QF1 QFK)
abbrev QFO:AC:= .seq (.run [.o 24 (.bE dc dm 5), .o 25 (.load dd true 5), .o 5 (.alloc [(.str []),(.slice .full 0 []),(.slice .full 0 []),(.slice .full 0 []),(.slice .full 0 [])]), .op none none (.store bd di 5)]) (.seq (.run [.m 26 bD, .o 27 (.ah bd 1), .o 28 (.load ek false 1), .o 29 (.len eZ), .o 30 (.bin .mul (.k (.int .i64 2)) fa), .o 31 (.bin .add (.k (.int .i64 6)) fk), .o 32 (.ah bd 4), .o 33 (.load fv false 1), .o 34 (.len fp), .o 35 (.bin .mul (.k (.int .i64 2)) fA), .o 36 (.bin .add fe fz), .o 37 (.bin .add ez fI), .m 3 fQ]) QFM)
abbrev QFQ:AC:= .run [.o 80 (.bin .add dm (.k (.int .i64 1))), .m 22 xJ]
abbrev QFT:AC:= .seq (.run [.o 23 (.bin .lss dm dj)]) (.seq (.cond dD .skip (.exit 0)) (.seq (.block 1 QFO) QFQ))
abbrev O6:AC:= .seq (.run [.m 81 bD, .m 2 xK]) .ret
abbrev QFZ:AC:= .seq (.seq (.run [.o 19 (.ah bb 1), .o 20 (.load cV false 1), .o 21 (.len dc), .o 22 (.mv (.k (.int .i64 0)))]) (.block 0 (.loop QFT))) O6
abbrev QG2:AC:= .seq (.run [.o 1 (.box aV), .o 2 (.mv (.k (.int .i64 0)))]) (.seq (.run [.o 3 (.mv (.k (.int .i64 0)))]) (.seq QEB QFZ))
abbrev QG7:AC:= .cond bO (.seq (.run [.o 2 (.mv (.k (.str [])))]) .ret) .skip
abbrev QGD:AC:= .seq (.run [.o 12 (.ah bb 0), .o 13 (.load bV false 1), .o 14 (.len bP), .o 15 (.bin .gtr bL (.k (.int .i64 0)))]) (.cond ct (.run [.o 16 (.ah bb 0), .o 17 (.load cb false 1),(.c 18 nU [cQ,(.k (.str [44,32]))]), .o 19 (.bin .add (.k (.str [103,108,111,98,97,108,32])) cO), .o 20 (.bin .add cV (.k (.str [59,10]))), .m 3 dc]) .skip)
abbrev QGR:AC:= .seq (.run [.o 35 (.ah bX 1), .o 36 (.load fz false 1)]) (.cond fI (.run [.m 37 bH, .o 38 (.ah bX 0), .o 39 (.load gx false 1), .o 40 (.bin .add (.k (.str [114,101,102,32])) gh), .o 41 (.c9 [(.str [])] 1 1 [(0,gK)]), .o 42 (.app 1 16 fQ gk), .m 6 ie]) (.run [.m 43 bH, .o 44 (.ah bX 0), .o 45 (.load iR false 1), .o 46 (.c9 [(.str [])] 1 1 [(0,jg)]), .o 47 (.app 1 16 iy jh), .m 6 jz]))
abbrev QGV:AC:= .seq (.block 3 (.seq (.run [.o 33 (.bE fa fe 2), .o 34 (.load fp true 2), .o 8 (.alloc [(.str []),(.bool false)]), .op none none (.store bX fA 2)]) QGR)) (.run [.o 48 (.bin .add fe (.k (.int .i64 1))), .m 31 iS])
abbrev QGZ:AC:= .block 2 (.loop (.seq (.run [.o 32 (.bin .lss fe fk)]) (.seq (.cond fv .skip (.exit 2)) QGV)))
abbrev QH1:AC:= .par [.m 49 bD, .o 50 (.ah bd 0), .o 51 (.load jQ false 1), .o 52 (.bin .add (.k (.str [112,114,111,99,32])) ji), .o 53 (.bin .add jA (.k (.str [40]))), .m 54 bH,(.c 55 nU [kb,(.k (.str [44,32]))]), .o 56 (.bin .add jR kp), .o 57 (.bin .add lz (.k (.str [41,32,123,10]))), .o 58 (.bin .add iX lO), .m 3 lA] [(5,0),(6,0),(0,0),(1,0),(2,1),(3,0),(4,0),(7,0),(8,0),(9,0),(10,0)]
abbrev QH5:AC:= .seq (.run [.o 59 (.ah bd 2), .o 60 (.load kq false 1), .o 61 (.len nq), .o 62 (.bin .gtr nY (.k (.int .i64 0)))]) (.cond oC (.run [.m 63 bD, .o 64 (.ah bd 2), .o 65 (.load pS false 1),(.c 66 nU [rX,(.k (.str [44,32]))]), .o 67 (.bin .add (.k (.str [32,118,97,114,32])) s6), .o 68 (.bin .add qw (.k (.str [59,10]))), .o 69 (.bin .add nZ ra), .m 3 tY]) .skip)
abbrev QH6:AC:= .par [.m 70 bD, .o 71 (.ah bd 3), .o 72 (.load xE false 1),(.c 73 pJ [vS,(.k (.str [32]))]), .o 74 (.ah bd 4), .o 75 (.load xG false 1),(.c 76 uK [xH,(.k (.str [58,32]))]), .o 77 (.bin .add xF vT), .o 78 (.bin .add xI (.k (.str [125,10]))), .o 79 (.bin .add rh vU), .m 3 Bm] [(1,0),(2,0),(3,0),(4,0),(5,1),(6,0),(0,0),(7,0),(8,0),(9,0),(10,0)]
abbrev QH9:AC:= .seq (.seq (.run [.o 28 (.ah bd 1), .o 29 (.load eZ false 1), .o 30 (.len fa), .o 31 (.mv (.k (.int .i64 0)))]) QGZ) (.seq QH1 (.seq QH5 QH6))
abbrev QHB:AC:= .seq (.run [.o 26 (.bE dm dd 5), .o 27 (.load ez true 5), .o 5 (.alloc [(.str []),(.slice .full 0 []),(.slice .full 0 []),(.slice .full 0 []),(.slice .full 0 [])]), .op none none (.store bd ek 5)]) (.seq (.run [.o 6 (.mv (.k (.slice .full 0 [])))]) QH9)
abbrev QHF:AC:= .seq (.cond di .skip (.exit 0)) (.seq (.block 1 QHB) (.run [.o 80 (.bin .add dd (.k (.int .i64 1))), .m 24 xJ]))
abbrev QHG:AC:= .seq (.run [.o 25 (.bin .lss dd dD)]) QHF
abbrev QHL:AC:= .seq (.run [.m 81 bD, .m 2 xK]) .ret
abbrev QHM:AC:= .seq (.seq (.run [.o 21 (.ah bb 1), .o 22 (.load dj false 1), .o 23 (.len dm), .o 24 (.mv (.k (.int .i64 0)))]) (.block 0 (.loop QHG))) QHL
abbrev QHP:AC:= .seq (.seq (.run [.o 9 (.load bb true 2), .c 10 Bh [cw], .o 11 (.un .not bI)]) QG7) (.seq (.run [.o 3 (.mv (.k (.str [])))]) (.seq QGD QHM))
abbrev QHQ:AC:= .seq (.run [.o 1 (.box aV), .o 2 (.mv (.k (.str [])))]) QHP
open Go.Proofs
theorem ng:Has Tryz.prog wh 32 [(2,none)] Q0N:=⟨Tryz.f10,by kernel_rfl,by kernel_rfl⟩
theorem Ec:Has Tryz.prog sQ 26 [(0,none)] Q0T:=⟨Tryz.f12,by kernel_rfl,by kernel_rfl⟩
theorem J0:Has Tryz.prog zp 61 [(2,none)] Q1T:=⟨Tryz.f13,by kernel_rfl,by kernel_rfl⟩
theorem pD:Has Tryz.prog rz 26 [(2,(some (true,2)))] Q2K:=⟨Tryz.f14,by kernel_rfl,by kernel_rfl⟩
theorem J1:Has Tryz.prog uI 7 [(2,none)] Q2O:=⟨Tryz.f16,by kernel_rfl,by kernel_rfl⟩
theorem tZ:Has Tryz.prog sR 23 [(2,(some (true,2))),(3,(some (true,2)))] Q35:=⟨Tryz.f19,by kernel_rfl,by kernel_rfl⟩
theorem Oq:Has Tryz.prog C0 97 [(4,none)] Q4J:=⟨Tryz.f21,by kernel_rfl,by kernel_rfl⟩
theorem L7:Has Tryz.prog wG 79 [(2,none)] Q63:=⟨Tryz.f22,by kernel_rfl,by kernel_rfl⟩
theorem yy:Has Tryz.prog nr 96 [(2,(some (true,2)))] Q88:=⟨Tryz.f23,by kernel_rfl,by kernel_rfl⟩
theorem yz:Has Tryz.prog rO 37 [(2,(some (true,2)))] Q91:=⟨Tryz.f24,by kernel_rfl,by kernel_rfl⟩
theorem Ab:Has Tryz.prog xq 64 [(2,(some (true,2)))] QAN:=⟨Tryz.f25,by kernel_rfl,by kernel_rfl⟩
theorem yA:Has Tryz.prog vK 60 [(2,(some (true,2)))] QBX:=⟨Tryz.f26,by kernel_rfl,by kernel_rfl⟩
theorem Gi:Has Tryz.prog vL 37 [(2,(some (true,2))),(3,(some (true,2)))] QCJ:=⟨Tryz.f27,by kernel_rfl,by kernel_rfl⟩
theorem oD:Has Tryz.prog o7 27 [(2,none)] QCT:=⟨Tryz.f28,by kernel_rfl,by kernel_rfl⟩
theorem HX:Has Tryz.prog xr 20 [(2,none)] QDE:=⟨Tryz.f33,by kernel_rfl,by kernel_rfl⟩
theorem L8:Has Tryz.prog Bg 23 [(2,none)] QE5:=⟨Tryz.f38,by kernel_rfl,by kernel_rfl⟩
theorem Gj:Has Tryz.prog vM 82 [(2,none)] QG2:=⟨Tryz.f41,by kernel_rfl,by kernel_rfl⟩
theorem Ac:Has Tryz.prog xu 82 [(2,none)] QHQ:=⟨Tryz.f42,by kernel_rfl,by kernel_rfl⟩
end Go.Abs
