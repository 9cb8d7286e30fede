/-
  What is proved here: part 1 of the road to the claim (Frame, Frame2, Walk, Par, Par1, Par2, Par3, Step, Wp, Types, Mir, MirLex, MirTree, MirMay, Swap0, Nums, Codes0, Have0).
  No conditions.
-/
import Derived.Test.YtiopamakecmpkaaGreatCkM0
import Derived.Attr
import Derived.Test.YtiopamakecmpkaaGreatProg
import Derived.KernelRfl

set_option linter.unusedSimpArgs false
set_option linter.unusedVariables false

/-! Frame -/

namespace Go.Abs
def Tag.ok (m:Nat):Tag→Bool
 | .tok t _=>decide (t<m)
 | _=>true
def Tag.cb (ts:List Nat):Tag→Tag
 | .tok t y=>match ts[t]? with | some t'=> .tok t' y | none=> .shared
 | g=>g
mutual
def D.ok (n m:Nat):D→Bool
 | .ptr o _=>decide (o<n)
 | .dE row _=>D.bp n m row
 | .slice g _ rows=>g.ok m && D.hO n m rows
 | .agg cs=>D.bp n m cs
 | .tuple ds=>D.bp n m ds
 | .fi _ o=>decide (o<n)
 | .gb _ cs=>D.bp n m cs
 | .fQ o=>decide (o<n)
 | .eB _ o _ _=>decide (o<n)
 | .fj o _ _=>decide (o<n)
 | _=>true
def D.bp (n m:Nat):List D→Bool
 | []=>true
 | d::r=>D.ok n m d && D.bp n m r
def D.hO (n m:Nat):List (List D)→Bool
 | []=>true
 | d::r=>D.bp n m d && D.hO n m r
end
mutual
def D.cb (os ts:List Nat):D→D
 | .ptr o off=>match os[o]? with | some o'=> .ptr o' off | none=> .junk
 | .dE row off=> .dE (D.dW os ts row) off
 | .slice g z rows=> .slice (g.cb ts) z (D.om os ts rows)
 | .agg cs=> .agg (D.dW os ts cs)
 | .tuple ds=> .tuple (D.dW os ts ds)
 | .junk=> .junk
 | .int k x=> .int k x
 | .bool b=> .bool b
 | .str l=> .str l
 | .eO=> .eO
 | .val v=> .val v
 | .fi T o=>match os[o]? with | some o'=> .fi T o' | none=> .junk
 | .gb f cs=> .gb f (D.dW os ts cs)
 | .fQ o=>match os[o]? with | some o'=> .fQ o' | none=> .junk
 | .eB z o g len=>match os[o]? with | some o'=> .eB z o' g len | none=> .junk
 | .fj o g off=>match os[o]? with | some o'=> .fj o' g off | none=> .junk
 | .fu z=> .fu z
def D.dW (os ts:List Nat):List D→List D
 | []=> []
 | d::r=>D.cb os ts d::D.dW os ts r
def D.om (os ts:List Nat):List (List D)→List (List D)
 | []=> []
 | d::r=>D.dW os ts d::D.om os ts r
end
theorem fO (os ts:List Nat) : ∀ l,D.dW os ts l=l.map (D.cb os ts)
 | []=>by simp [D.dW]
 | d::r=>by simp [D.dW,fO os ts r]
theorem A4 (os ts:List Nat) : ∀ l,D.om os ts l=l.map (D.dW os ts)
 | []=>by simp [D.om]
 | d::r=>by simp [D.om,A4 os ts r]
theorem xe (n m:Nat) : ∀ l,D.bp n m l=l.all (D.ok n m)
 | []=>by simp [D.bp]
 | d::r=>by simp [D.bp,xe n m r]
theorem CW (n m:Nat) : ∀ l,D.hO n m l=l.all (D.bp n m)
 | []=>by simp [D.hO]
 | d::r=>by simp [D.hO,CW n m r]
theorem uy {n m:Nat} {l:List D} (h:D.bp n m l=true) {i:Nat} {d:D} (e:l[i]? = some d):D.ok n m d=true:=by
 rw [xe]at h;exact List.all_eq_true.1 h d (List.mem_of_getElem? e)
theorem Xg {n m:Nat} {l:List (List D)} (h:D.hO n m l=true) {i:Nat} {d:List D} (e:l[i]? = some d):D.bp n m d=true:=by
 rw [CW]at h;exact List.all_eq_true.1 h d (List.mem_of_getElem? e)
section
variable {M M0:Map} {s s0:St} {os ts:List Nat}
theorem iz.A5 (ke : ∀ (i:Nat) t,ts[i]? = some t→M0.be i=M.be t) (ht : ∀ (i t:Nat),ts[i]? = some t→s0.aA[i]? = s.aA[t]?) (hlen:s0.aA.length=ts.length) {g:Tag} {z len cap:Nat} {base:Option (Nat×Nat)} (BE:g.ok ts.length=true) (h:iz M s (g.cb ts) z len base cap):iz M0 s0 g z len base cap:=by
 cases g with
 | full=>exact h
 | shared=>exact h
 | tok t y=>
  have hF:t<ts.length:=by simpa [Tag.ok]using BE
  have e:ts[t]? = some ts[t]:=List.getElem?_eq_getElem hF
  simp only [Tag.cb,e]at h
  obtain⟨h1,h2⟩:=h
  refine⟨by omega,fun n hn=> ?_⟩
  rw [ht t _ e]at hn
  rw [ke t _ e]
  exact h2 n hn
theorem RD.A5 (hG:M0.G=M.G) (pT : ∀ (i:Nat) o,os[i]? = some o→M0.loc i=M.loc o) (kN:s0.aw.length=os.length)
 (ke : ∀ (i:Nat) t,ts[i]? = some t→M0.be i=M.be t) (ht : ∀ (i t:Nat),ts[i]? = some t→s0.aA[i]? = s.aA[t]?) (hlen:s0.aA.length=ts.length) {d:D} {v:Value} (h:RD M s d v) :
 ∀ d0:D,d0.cb os ts=d→d0.ok os.length ts.length=true→RD M0 s0 d0 v:=by
 have mb : ∀ (i:Nat) o,os[i]? = some o→M0.mu i=M.mu o:=fun i o h=>congrArg Prod.fst (pT i o h)
 have tag:=fun {g z len cap base}=>@iz.A5 M M0 s s0 ts ke ht hlen g z len cap base
 induction h with
 | junk v=>
  intro d0 e ok
  cases d0 <;> simp only [D.cb]at e <;> try (cases e;done)
  ·exact .junk v
  ·rename_i o off
   have hF:o<os.length:=by simpa [D.ok]using ok
   rw [List.getElem?_eq_getElem hF]at e;cases e
  ·rename_i T o
   have hF:o<os.length:=by simpa [D.ok]using ok
   rw [List.getElem?_eq_getElem hF]at e;cases e
  ·rename_i o
   have hF:o<os.length:=by simpa [D.ok]using ok
   rw [List.getElem?_eq_getElem hF]at e;cases e
  ·rename_i z o g len
   have hF:o<os.length:=by simpa [D.ok]using ok
   rw [List.getElem?_eq_getElem hF]at e;cases e
  ·rename_i o g off
   have hF:o<os.length:=by simpa [D.ok]using ok
   rw [List.getElem?_eq_getElem hF]at e;cases e
 | fu z a=>intro d0 e ok;cases d0 <;> simp only [D.cb]at e <;> first | (cases e;exact .fu _ _) | (split at e <;> cases e) | cases e
 | eB z o g len b cap A ho hm ha hl=>
  intro d0 e ok
  cases d0 <;> simp only [D.cb]at e <;> first | (cases e;done) | skip
  all_goals try (split at e <;> cases e;done)
  rename_i z0 o0 g0 ZT
  have hF:o0<os.length:=by simpa [D.ok]using ok
  rw [List.getElem?_eq_getElem hF]at e
  cases e
  exact RD.eB (s:=s0) z o0 g len b cap A (by omega) ((congrArg Prod.snd (pT o0 _ (List.getElem?_eq_getElem hF))).trans hm) ha hl
 | fj z o g off b cap A ho hm ha=>
  intro d0 e ok
  cases d0 <;> simp only [D.cb]at e <;> first | (cases e;done) | skip
  all_goals try (split at e <;> cases e;done)
  rename_i o0 g0 R8
  have hF:o0<os.length:=by simpa [D.ok]using ok
  rw [List.getElem?_eq_getElem hF]at e
  cases e
  exact RD.fj (s:=s0) z o0 g off b cap A (by omega) ((congrArg Prod.snd (pT o0 _ (List.getElem?_eq_getElem hF))).trans hm) ha
 | val v hv=>intro d0 e ok;cases d0 <;> simp only [D.cb]at e <;> first | (cases e;exact .val _ hv) | (split at e <;> cases e) | cases e
 | fi T o v ho ht hv=>
  intro d0 e ok
  cases d0 <;> simp only [D.cb]at e <;> first | (split at e <;> cases e;done) | skip
  all_goals try (cases e;done)
  rename_i T0 o0
  have hF:o0<os.length:=by simpa [D.ok]using ok
  rw [List.getElem?_eq_getElem hF]at e
  cases e
  have hl:=pT o0 _ (List.getElem?_eq_getElem hF)
  exact .fi _ o0 v (by omega) ((congrArg (fun x=>x.2.ty?) hl).trans ht) (by rw [mb o0 _ (List.getElem?_eq_getElem hF)];exact hv)
 | int k x=>intro d0 e ok;cases d0 <;> simp only [D.cb]at e <;> first | (cases e;exact .int _ _) | (split at e <;> cases e) | cases e
 | bool b=>intro d0 e ok;cases d0 <;> simp only [D.cb]at e <;> first | (cases e;exact .bool _) | (split at e <;> cases e) | cases e
 | str l=>intro d0 e ok;cases d0 <;> simp only [D.cb]at e <;> first | (cases e;exact .str _) | (split at e <;> cases e) | cases e
 | eO=>intro d0 e ok;cases d0 <;> simp only [D.cb]at e <;> first | (cases e;exact .eO) | (split at e <;> cases e) | cases e
 | fQ o ho hm=>
  intro d0 e ok
  cases d0 <;> simp only [D.cb]at e <;> first | (cases e;done) | skip
  all_goals try (split at e <;> cases e;done)
  rename_i o0
  have hF:o0<os.length:=by simpa [D.ok]using ok
  rw [List.getElem?_eq_getElem hF]at e
  cases e
  rw [← mb o0 _ (List.getElem?_eq_getElem hF)]
  exact RD.fQ (s:=s0) o0 (by omega) ((congrArg Prod.snd (pT o0 _ (List.getElem?_eq_getElem hF))).trans hm)
 | gb f ds vs hl _ ih=>
  intro d0 e ok
  cases d0 <;> simp only [D.cb]at e <;> first | (split at e <;> cases e;done) | skip
  all_goals try (cases e;done)
  rename_i f0 O8
  simp only [D.gb.injEq]at e
  obtain⟨rfl,rfl⟩:=e
  simp only [D.ok]at ok
  rw [fO]at hl ih
  refine .gb _ O8 vs (by simpa using hl) (fun i d v e1 e2=>ih i _ v (by rw [List.getElem?_map,e1];rfl) e2 d rfl (uy ok e1))
 | ptr o off ho hm=>
  intro d0 e ok
  cases d0 <;> simp only [D.cb]at e <;> first | (cases e;done) | skip
  all_goals try (split at e <;> cases e;done)
  rename_i o0 R8
  have hF:o0<os.length:=by simpa [D.ok]using ok
  rw [List.getElem?_eq_getElem hF]at e
  cases e
  rw [← mb o0 _ (List.getElem?_eq_getElem hF)]
  exact RD.ptr (s:=s0) o0 _ (by omega) (by rw [show M0.ob o0=_ from congrArg Prod.snd (pT o0 _ (List.getElem?_eq_getElem hF))];exact hm)
 | dE row off b k h1 h2 ih=>
  intro d0 e ok
  cases d0 <;> simp only [D.cb]at e <;> first | (split at e <;> cases e;done) | skip
  all_goals try (cases e;done)
  rename_i ahD R8
  simp only [D.dE.injEq]at e
  obtain⟨rfl,rfl⟩:=e
  simp only [D.ok]at ok
  rw [fO]at h1 ih
  refine .dE ahD R8 b k (fun i d e=> ?_) (fun i d u e eu=> ?_)
  ·rw [hG];exact h1 i _ (by rw [List.getElem?_map,e];rfl)
  ·rw [hG]at eu;exact ih i _ u (by rw [List.getElem?_map,e];rfl) eu d rfl (uy ok e)
 | iP g z cap hc o5=>
  intro d0 e ok
  cases d0 <;> simp only [D.cb]at e <;> first | (split at e <;> cases e;done) | skip
  all_goals try (cases e;done)
  rename_i g0 z0 tJ
  simp only [D.slice.injEq]at e
  obtain⟨rfl,rfl,e⟩:=e
  have:tJ = []:=by cases tJ <;> simp [D.om]at e;rfl
  subst this
  simp only [D.ok,Bool.and_eq_true]at ok
  exact .iP g0 z0 cap hc (tag ok.1 o5)
 | lG z a cap=>
  intro d0 e ok
  cases d0 <;> simp only [D.cb]at e <;> first | (split at e <;> cases e;done) | skip
  all_goals try (cases e;done)
  rename_i g0 z0 tJ
  simp only [D.slice.injEq]at e
  obtain⟨hg,rfl,e⟩:=e
  have:tJ = []:=by cases tJ <;> simp [D.om]at e;rfl
  subst this
  simp only [D.ok,Bool.and_eq_true]at ok
  have:g0 = .shared:=by
   cases g0 with
   | tok t y=>
    have ht:t<ts.length:=by simpa [Tag.ok]using ok.1
    simp [Tag.cb,ht]at hg
   | shared=>rfl
   | _=>simp [Tag.cb]at hg
  subst this
  exact .lG _ a cap
 | slice g z rows b k cap hl hs h1 h2 o5 ih=>
  intro d0 e ok
  cases d0 <;> simp only [D.cb]at e <;> first | (split at e <;> cases e;done) | skip
  all_goals try (cases e;done)
  rename_i g0 z0 tJ
  simp only [D.slice.injEq]at e
  obtain⟨rfl,rfl,rfl⟩:=e
  simp only [D.ok,Bool.and_eq_true]at ok
  rw [A4]at hl hs h1 ih o5
  simp only [A4,List.length_map]at hl o5 ⊢
  have ek : ∀ (i:Nat) (row:List D),tJ[i]? = some row→(tJ.map (D.dW os ts))[i]? = some (D.dW os ts row):=fun i row e=>by rw [List.getElem?_map,e];rfl
  have qs : ∀ (row:List D) (j:Nat) (d:D),row[j]? = some d→(D.dW os ts row)[j]? = some (D.cb os ts d):=fun row j d e=>by rw [fO,List.getElem?_map,e];rfl
  refine .slice g0 z0 tJ b k cap hl (fun row hr=> ?_) (fun i row j d e1 e2=> ?_) (fun i row j d u e1 e2 eu=> ?_) (tag ok.1 o5)
  ·have:=hs (D.dW os ts row) (List.mem_map.2 ⟨row,hr,rfl⟩)
   rwa [fO,List.length_map]at this
  ·rw [hG];exact h1 i _ j _ (ek i row e1) (qs row j d e2)
  ·rw [hG]at eu;exact ih i _ j _ u (ek i row e1) (qs row j d e2) eu d rfl (uy (Xg ok.2 e1) e2)
 | agg cells vs hl h1 _ ih=>
  intro d0 e ok
  cases d0 <;> simp only [D.cb]at e <;> first | (split at e <;> cases e;done) | skip
  all_goals try (cases e;done)
  rename_i O8
  simp only [D.agg.injEq]at e
  subst e
  simp only [D.ok]at ok
  rw [fO]at hl ih
  refine .agg O8 vs (by simpa using hl) h1 (fun i d v e1 e2=>ih i _ v (by rw [List.getElem?_map,e1];rfl) e2 d rfl (uy ok e1))
 | tuple ds vs hl _ ih=>
  intro d0 e ok
  cases d0 <;> simp only [D.cb]at e <;> first | (split at e <;> cases e;done) | skip
  all_goals try (cases e;done)
  rename_i O8
  simp only [D.tuple.injEq]at e
  subst e
  simp only [D.ok]at ok
  rw [fO]at hl ih
  refine .tuple O8 vs (by simpa using hl) (fun i d v e1 e2=>ih i _ v (by rw [List.getElem?_map,e1];rfl) e2 d rfl (uy ok e1))
theorem RD.cb (hG:M0.G=M.G) (pT : ∀ i,i<s0.aw.length→∃ o,os[i]? = some o∧o<s.aw.length∧M.loc o=M0.loc i)
 (ke : ∀ i,i<s0.aA.length→∃ t,ts[i]? = some t∧t<s.aA.length∧s.aA[t]? = s0.aA[i]? ∧M.be t=M0.be i) {d:D} {v:Value} (h:RD M0 s0 d v):RD M s (d.cb os ts) v:=by
 have tag : ∀ {g:Tag} {z len cap:Nat} {base:Option (Nat×Nat)},iz M0 s0 g z len base cap→iz M s (g.cb ts) z len base cap:=by
  intro g z len cap base h
  cases g with
  | full=>exact h
  | shared=>exact h
  | tok t y=>
   obtain⟨h1,h2⟩:=h
   obtain⟨t',e,hF,OY,hb⟩:=ke t h1
   simp only [Tag.cb,e]
   refine⟨hF,fun n hn=> ?_⟩
   rw [hb]
   exact h2 n (OY ▸ hn)
 induction h with
 | junk v=>simp only [D.cb];exact .junk v
 | int k x=>simp only [D.cb];exact .int k x
 | bool b=>simp only [D.cb];exact .bool b
 | str l=>simp only [D.cb];exact .str l
 | eO=>simp only [D.cb];exact .eO
 | ptr o off ho hk=>
  obtain⟨o',e,hF,hm⟩:=pT o ho
  simp only [D.cb,e]
  have hb:M.ob o'=M0.ob o:=congrArg Prod.snd hm
  have hm:M.mu o'=M0.mu o:=congrArg Prod.fst hm
  rw [← hm]
  exact .ptr o' off hF (by rw [hb];exact hk)
 | fQ o ho hk=>
  obtain⟨o',e,hF,hm⟩:=pT o ho
  simp only [D.cb,e]
  have hb:M.ob o'=M0.ob o:=congrArg Prod.snd hm
  have hm:M.mu o'=M0.mu o:=congrArg Prod.fst hm
  rw [← hm]
  exact .fQ o' hF (by rw [hb];exact hk)
 | fu z a=>simp only [D.cb];exact .fu z a
 | eB z o g len b cap A ho hk ha hl=>
  obtain⟨o',e,hF,hm⟩:=pT o ho
  simp only [D.cb,e]
  exact .eB z o' g len b cap A hF ((congrArg Prod.snd hm).trans hk) ha hl
 | fj z o g off b cap A ho hk ha=>
  obtain⟨o',e,hF,hm⟩:=pT o ho
  simp only [D.cb,e]
  exact .fj z o' g off b cap A hF ((congrArg Prod.snd hm).trans hk) ha
 | gb f ds vs hl _ ih=>
  simp only [D.cb,fO]
  refine .gb f _ vs (by simpa using hl) (fun i d v e1 e2=> ?_)
  simp only [List.getElem?_map,Option.map_eq_some_iff]at e1
  obtain⟨d',e1,rfl⟩:=e1
  exact ih i d' v e1 e2
 | val v hv=>simp only [D.cb];exact .val v hv
 | fi T o v ho ht hv=>
  obtain⟨o',e,hF,hm⟩:=pT o ho
  simp only [D.cb,e]
  have h1:M.mu o'=M0.mu o:=congrArg Prod.fst hm
  have h2:M.ty o'=M0.ty o:=congrArg (fun x=>x.2.ty?) hm
  exact .fi T o' v hF (by rw [h2];exact ht) (by rw [h1];exact hv)
 | dE row off b k h1 h2 ih=>
  simp only [D.cb,fO]
  refine .dE _ off b k (fun i d e=> ?_) (fun i d u e eu=> ?_)
  ·simp only [List.getElem?_map,Option.map_eq_some_iff]at e
   obtain⟨d',e,rfl⟩:=e
   rw [← hG];exact h1 i d' e
  ·simp only [List.getElem?_map,Option.map_eq_some_iff]at e
   obtain⟨d',e,rfl⟩:=e
   rw [← hG]at eu;exact ih i d' u e eu
 | iP g z cap hc ht=>simp only [D.cb,D.om];exact .iP _ z cap hc (tag ht)
 | lG z a cap=>simp only [D.cb,D.om,Tag.cb];exact .lG z a cap
 | slice g z rows b k cap hl hs h1 h2 ht ih=>
  simp only [D.cb,A4]
  have hlen:(rows.map (D.dW os ts)).length=rows.length:=by simp
  have key:=RD.slice (M:=M) (s:=s) (g.cb ts) z (rows.map (D.dW os ts)) b k cap (by rw [hlen];exact hl) (fun row hr=>by
   obtain⟨iQ,h',rfl⟩:=List.mem_map.1 hr
   rw [fO,List.length_map];exact hs iQ h')
   (fun i row j d e1 e2=>by
    simp only [List.getElem?_map,Option.map_eq_some_iff]at e1
    obtain⟨iQ,e1,rfl⟩:=e1
    rw [fO]at e2
    simp only [List.getElem?_map,Option.map_eq_some_iff]at e2
    obtain⟨d',e2,rfl⟩:=e2
    rw [← hG];exact h1 i iQ j d' e1 e2)
   (fun i row j d u e1 e2 eu=>by
    simp only [List.getElem?_map,Option.map_eq_some_iff]at e1
    obtain⟨iQ,e1,rfl⟩:=e1
    rw [fO]at e2
    simp only [List.getElem?_map,Option.map_eq_some_iff]at e2
    obtain⟨d',e2,rfl⟩:=e2
    rw [← hG]at eu;exact ih i iQ j d' u e1 e2 eu)
   (by rw [hlen];exact tag ht)
  rw [hlen]at key
  exact key
 | agg cells vs hl h1 _ ih=>
  simp only [D.cb,fO]
  refine .agg _ vs (by simpa using hl) h1 (fun i d v e1 e2=> ?_)
  simp only [List.getElem?_map,Option.map_eq_some_iff]at e1
  obtain⟨d',e1,rfl⟩:=e1
  exact ih i d' v e1 e2
 | tuple ds vs hl _ ih=>
  simp only [D.cb,fO]
  refine .tuple _ vs (by simpa using hl) (fun i d v e1 e2=> ?_)
  simp only [List.getElem?_map,Option.map_eq_some_iff]at e1
  obtain⟨d',e1,rfl⟩:=e1
  exact ih i d' v e1 e2
def jG {α:Type} : List Nat→List α→List α→List α
 | [],new,l=>l++new
 | _::_,[],l=>l
 | o::os,x::xs,l=>jG os xs (l.set o x)
def jf (os:List Nat) (n k:Nat):List Nat:=os++(List.range k).map (n + ·)
theorem we {α:Type} : ∀ (os:List Nat) (xs l:List α),os.length≤xs.length→(jG os xs l).length=l.length+(xs.length - os.length)
 | [],xs,l,_=>by simp [jG]
 | o::os,[],l,h=>by simp at h
 | o::os,x::xs,l,h=>by
  simp only [jG]
  rw [we os xs _ (by simpa using h)]
  simp
theorem B9 {α:Type} : ∀ (os:List Nat) (xs l:List α),os.length≤xs.length→os.Nodup→(∀ o∈os,o<l.length)→
 (∀ (i:Nat) (o:Nat),os[i]? = some o→(jG os xs l)[o]? = xs[i]?)∧(∀ o,o<l.length→o∉os→(jG os xs l)[o]? = l[o]?)∧
 (∀ k,(jG os xs l)[l.length+k]? = xs[os.length+k]?)
 | [],xs,l,_,_,_=>by
  refine⟨by simp,fun o ho _=>by simp only [jG];rw [List.getElem?_append_left ho],fun k=>by simp only [jG];rw [List.getElem?_append_right (by omega)];simp⟩
 | o::os,[],l,h,_,_=>by simp at h
 | o::os,x::xs,l,h,hn,hF=>by
  simp only [List.nodup_cons]at hn
  have BF : ∀ q∈os,q<(l.set o x).length:=fun q hq=>by simpa using hF q (by simp [hq])
  obtain⟨h1,h2,h3⟩:=B9 os xs (l.set o x) (by simpa using h) hn.2 BF
  have ho:o<l.length:=hF o (by simp)
  simp only [jG]
  refine⟨fun i q e=> ?_,fun q hq hq2=> ?_,fun k=> ?_⟩
  ·cases i with
   | zero=>
    simp only [List.getElem?_cons_zero,Option.some.injEq]at e
    subst e
    rw [h2 o (by simpa using ho) hn.1]
    simp [ho]
   | succ i=>simpa using h1 i q (by simpa using e)
  ·have sB:q≠o:=fun e=>hq2 (by simp [e])
   rw [h2 q (by simpa using hq) (fun h=>hq2 (by simp [h])),List.getElem?_set_ne (Ne.symm sB)]
  ·have:=h3 k
   simp only [List.length_set]at this
   rw [this]
   simp only [List.length_cons]
   rw [show os.length+1+k=(os.length+k)+1 by omega];simp
theorem BG (os:List Nat) (n k i:Nat):(jf os n k)[i]? = if i<os.length then os[i]? else if i<os.length+k then some (n+(i - os.length))else none:=by
 unfold jf
 split
 ·rename_i h;rw [List.getElem?_append_left h]
 ·rename_i h
  rw [List.getElem?_append_right (by omega)]
  split
  ·rename_i h2
   rw [List.getElem?_map,List.getElem?_range (by omega)];rfl
  ·rename_i h2
   rw [List.getElem?_eq_none]
   simp;omega
def posOf:List Nat→Nat→Option Nat
 | [],_=>none
 | x::r,o=>if x=o then some 0 else(posOf r o).map (· + 1)
theorem iB : ∀ {l:List Nat} {o i:Nat},posOf l o=some i→l[i]? = some o
 | x::r,o,i,h=>by
  simp only [posOf]at h
  split at h
  ·rename_i e;cases h;simp [e]
  ·cases hp:posOf r o with
   | none=>rw [hp]at h;cases h
   | some j=>rw [hp]at h;cases h;simpa using iB hp
theorem lz : ∀ {l:List Nat} {o i:Nat},l.Nodup→l[i]? = some o→posOf l o=some i
 | x::r,o,i,hn,h=>by
  simp only [List.nodup_cons]at hn
  simp only [posOf]
  cases i with
  | zero=>simp at h;simp [h]
  | succ i=>
   simp at h
   have:x≠o:=fun e=>hn.1 (by rw [e];exact List.mem_of_getElem? h)
   rw [if_neg this,lz hn.2 h];rfl
end
end Go.Abs

/-! Frame2 -/

namespace Go.Abs
theorem yX {l:List Nat} {n k:Nat} (h:l.Nodup) (hl : ∀ o∈l,o<n):(jf l n k).Nodup:=by
 unfold jf
 rw [List.nodup_append]
 refine⟨h, ?_,fun a ha b hb=> ?_⟩
 ·rw [List.nodup_iff_pairwise_ne,List.pairwise_map]
  exact List.Pairwise.imp (fun h=>by omega) (List.nodup_iff_pairwise_ne.1 List.nodup_range)
 ·obtain⟨c,hc,rfl⟩:=List.mem_map.1 hb
  have:=hl a ha
  omega
def fE (M:Map) (os ts:List Nat):Map:=⟨M.G,fun i=>M.loc (os.getD i 0),fun i=>M.be (ts.getD i 0)⟩
def xf (M M0:Map) (os ts:List Nat):Map:=
 ⟨M0.G,fun o=>match posOf os o with | some i=>M0.loc i | none=>M.loc o,fun t=>match posOf ts t with | some i=>M0.be i | none=>M.be t⟩
section
variable {P:Program} {M:Map} {s s0:St} {w:World} {os ts:List Nat}
theorem rC {l:List Nat} {i o:Nat} (h:l[i]? = some o):l.getD i 0=o:=by simp [List.getD,h]
theorem Rel.sub (r:Rel M s w) (tr:os.Nodup) (KF:ts.Nodup) (kN : ∀ o∈os,o<s.aw.length)
 (ho:s0.aw.length=os.length) (oo : ∀ (i o:Nat) (ds:List D),os[i]? = some o→s0.aw[i]? = some ds→s.aw[o]? = some (D.dW os ts ds)∧D.bp os.length ts.length ds=true)
 (ht:s0.aA.length=ts.length) (sQ : ∀ (i t:Nat),ts[i]? = some t→s0.aA[i]? = s.aA[t]?):Rel (fE M os ts) s0 w:=by
 have nth : ∀ i,i<s0.aw.length→∃ o,os[i]? = some o∧o<s.aw.length:=fun i hi=>⟨os[i],List.getElem?_eq_getElem (by omega),kN _ (List.getElem_mem _)⟩
 have loc : ∀ (i:Nat) o,os[i]? = some o→(fE M os ts).loc i=M.loc o:=fun i o h=>by simp only [fE,rC h]
 have mu : ∀ (i:Nat) o,os[i]? = some o→(fE M os ts).mu i=M.mu o:=fun i o h=>congrArg Prod.fst (loc i o h)
 have be : ∀ (i:Nat) t,ts[i]? = some t→(fE M os ts).be i=M.be t:=fun i t h=>by simp only [fE,rC h]
 have Vi : ∀ t,s0.live t→∃ t',ts[t]? = some t'∧s.live t':=fun t ⟨n,hn⟩=>by
  have hF:=(List.getElem?_eq_some_iff.1 hn).1
  have e:ts[t]? = some ts[t]:=List.getElem?_eq_getElem (by omega)
  exact⟨_,e,n,by rw [← sQ t _ e];exact hn⟩
 refine⟨r.comm,fun i ds e=> ?_,fun i hi off=> ?_,fun i i' hi gZ e=> ?_,fun t n e=> ?_,fun t b c z i hl e hi=> ?_,fun t t' b c z c' z' h h' e e'=> ?_⟩
 ·obtain⟨o,h1,_⟩:=nth i (List.getElem?_eq_some_iff.1 e).1
  obtain⟨h2,h3⟩:=oo i o ds h1 e
  obtain⟨vs,T,g1,g2,g3,g4⟩:=r.obj o _ h2
  refine⟨vs,T,by rw [loc i o h1];exact g1,by rw [fO]at g2;simpa using g2,⟨g3.1,by rw [show(fE M os ts).ty i=M.ty o from congrArg (fun x=>x.2.ty?) (loc i o h1)];exact g3.2⟩,fun j d v e1 e2=> ?_⟩
  exact RD.A5 (M:=M) (M0:=fE M os ts) (s:=s) rfl loc ho be sQ ht (g4 j (d.cb os ts) v (by rw [fO,List.getElem?_map,e1];rfl) e2) d rfl (uy h3 e1)
 ·obtain⟨o,h1,h2⟩:=nth i hi
  rw [mu i o h1];exact r.ji o h2 off
 ·obtain⟨o,h1,h2⟩:=nth i hi
  obtain⟨o',rk,xg⟩:=nth i' gZ
  rw [mu i o h1,mu i' o' rk]at e
  have:=r.inj o o' h2 xg e
  subst this
  have a:=lz tr h1
  have b:=lz tr rk
  rw [a]at b;cases b;rfl
 ·obtain⟨t',h1,h2⟩:=Vi t ⟨n,e⟩
  rw [be t t' h1]
  exact r.tok t' n (by rw [← sQ t t' h1];exact e)
 ·obtain⟨t',h1,h2⟩:=Vi t hl
  obtain⟨o,h3,h4⟩:=nth i hi
  rw [be t t' h1]at e
  rw [mu i o h3]
  exact r.eW t' b c z o h2 e h4
 ·obtain⟨q,h1,h2⟩:=Vi t h
  obtain⟨q',rk,xg⟩:=Vi t' h'
  rw [be t q h1]at e
  rw [be t' q' rk]at e'
  have:=r.fR q q' b c z c' z' h2 xg e e'
  subst this
  have a:=lz KF h1
  have b:=lz KF rk
  rw [a]at b;cases b;rfl
end
def St.back (s:St) (os ts:List Nat) (s':St):St:=
 ⟨jG os (s'.aw.map (D.dW (jf os s.aw.length (s'.aw.length - os.length)) (jf ts s.aA.length (s'.aA.length - ts.length)))) s.aw,jG ts s'.aA s.aA⟩
def D.back (s:St) (os ts:List Nat) (s':St) (d:D):D:=
 d.cb (jf os s.aw.length (s'.aw.length - os.length)) (jf ts s.aA.length (s'.aA.length - ts.length))
theorem dV.frame {P:Program} {f:FuncId} {L0 args:List D} {s s0:St} {Q0 Q:D→St→Prop} (os ts:List Nat) (h:dV P f L0 s0 Q0) (tr:os.Nodup) (KF:ts.Nodup) (kN : ∀ o∈os,o<s.aw.length) (wZ : ∀ t∈ts,t<s.aA.length)
 (ho:s0.aw.length=os.length) (oo : ∀ (i o:Nat) (ds:List D),os[i]? = some o→s0.aw[i]? = some ds→s.aw[o]? = some (D.dW os ts ds)∧D.bp os.length ts.length ds=true)
 (ht:s0.aA.length=ts.length) (sQ : ∀ (i t:Nat),ts[i]? = some t→s0.aA[i]? = s.aA[t]?)
 (G3:args=D.dW os ts L0) (BE:D.bp os.length ts.length L0=true) (k : ∀ d s',Q0 d s'→Q (d.back s os ts s') (s.back os ts s')):dV P f args s Q:=by
 intro M w fY r jR dK ha
 have r0:=r.sub tr KF kN ho oo ht sQ
 have loc : ∀ (i:Nat) o,os[i]? = some o→(fE M os ts).loc i=M.loc o:=fun i o h=>by simp only [fE,rC h]
 have mu : ∀ (i:Nat) o,os[i]? = some o→(fE M os ts).mu i=M.mu o:=fun i o h=>congrArg Prod.fst (loc i o h)
 have be : ∀ (i:Nat) t,ts[i]? = some t→(fE M os ts).be i=M.be t:=fun i t h=>by simp only [fE,rC h]
 subst G3
 have ZU:Laid (fE M os ts) s0 w:=by
  intro g cs hg
  obtain⟨h1,h2,h3⟩:=jR g cs hg
  refine⟨h1,fun o hF=> ?_,fun t c z hl hb=> ?_⟩
  ·obtain⟨o',mT⟩ : ∃ o',os[o]? = some o':=⟨_,List.getElem?_eq_getElem (by omega)⟩
   rw [mu o o' mT]
   exact h2 o' (kN o' (List.mem_of_getElem? mT))
  ·obtain⟨n,hn⟩:=hl
   have hF:=(List.getElem?_eq_some_iff.1 hn).1
   obtain⟨t',Fv⟩ : ∃ t',ts[t]? = some t':=⟨_,List.getElem?_eq_getElem (by omega)⟩
   rw [be t t' Fv]at hb
   exact h3 t' c z ⟨n,by rw [← sQ t t' Fv];exact hn⟩ hb
 have hc:=h (fE M os ts) w fY r0 ZU (by rw [dK,fO,List.length_map]) (fun i d v e1 e2=>
  RD.A5 (M:=M) (M0:=fE M os ts) (s:=s) rfl loc ho be sQ ht (ha i (d.cb os ts) v (by rw [fO,List.getElem?_map,e1];rfl) e2) d rfl (uy BE e1))
 refine hc.mono ?_
 rintro en w' ⟨xh,d,v,s',rfl,hq,e,r',hv⟩
 have HI:=e.le.n
 have CD:=e.le.t
 generalize L3:jf os s.aw.length (s'.aw.length - os.length)=k8
 generalize L4:jf ts s.aA.length (s'.aA.length - ts.length)=oq
 have nd:k8.Nodup:=by rw [← L3];exact yX tr kN
 have ndt:oq.Nodup:=by rw [← L4];exact yX KF wZ
 have L5 : ∀ i,k8[i]? = if i<os.length then os[i]? else if i<s'.aw.length then some (s.aw.length+(i - os.length))else none:=fun i=>by
  rw [← L3,BG];split
  ·rfl
  ·rw [show os.length+(s'.aw.length - os.length)=s'.aw.length by omega]
 have L6 : ∀ i,oq[i]? = if i<ts.length then ts[i]? else if i<s'.aA.length then some (s.aA.length+(i - ts.length))else none:=fun i=>by
  rw [← L4,BG];split
  ·rfl
  ·rw [show ts.length+(s'.aA.length - ts.length)=s'.aA.length by omega]
 have hsb:s.back os ts s' = ⟨jG os (s'.aw.map (D.dW k8 oq)) s.aw,jG ts s'.aA s.aA⟩:=by simp only [St.back,L3,L4]
 have hdb:d.back s os ts s'=d.cb k8 oq:=by simp only [D.back,L3,L4]
 have k7:=k d s' hq
 rw [hsb,hdb]at k7
 obtain⟨p1,p2,p3⟩:=B9 os (s'.aw.map (D.dW k8 oq)) s.aw (by simp;omega) tr kN
 obtain⟨q1,q2,q3⟩:=B9 ts s'.aA s.aA (by omega) KF wZ
 have HP:=we os (s'.aw.map (D.dW k8 oq)) s.aw (by simp;omega)
 have HQ:=we ts s'.aA s.aA (by omega)
 simp only [List.length_map]at HP
 generalize Kz:(⟨jG os (s'.aw.map (D.dW k8 oq)) s.aw,jG ts s'.aA s.aA⟩:St)=s2 at k7
 have so:s2.aw=jG os (s'.aw.map (D.dW k8 oq)) s.aw:=by rw [← Kz]
 have st:s2.aA=jG ts s'.aA s.aA:=by rw [← Kz]
 -- the framed objects
 have fo : ∀ (i o:Nat),k8[i]? = some o→o<s2.aw.length∧s2.aw[o]? = (s'.aw[i]?).map (D.dW k8 oq)∧i<s'.aw.length∧(i<os.length→o<s.aw.length∧os[i]? = some o)∧(os.length≤i→s.aw.length≤o):=by
  intro i o hi
  rw [L5]at hi
  split at hi
  ·rename_i h1
   have hF:=kN o (List.mem_of_getElem? hi)
   refine⟨by rw [so,HP];omega,by rw [so,p1 i o hi,List.getElem?_map],by omega,fun _=>⟨hF,hi⟩,fun h=>by omega⟩
  ·split at hi
   ·rename_i h1 h2
    cases hi
    refine⟨by rw [so,HP];omega, ?_,h2,fun h=>by omega,fun _=>by omega⟩
    rw [so,p3,List.getElem?_map,show os.length+(i - os.length)=i by omega]
   ·cases hi
 have ft : ∀ (i t:Nat),oq[i]? = some t→t<s2.aA.length∧s2.aA[t]? = s'.aA[i]? ∧i<s'.aA.length∧(i<ts.length→t<s.aA.length∧ts[i]? = some t)∧(ts.length≤i→s.aA.length≤t):=by
  intro i t hi
  rw [L6]at hi
  split at hi
  ·rename_i h1
   have hF:=wZ t (List.mem_of_getElem? hi)
   refine⟨by rw [st,HQ];omega,by rw [st,q1 i t hi],by omega,fun _=>⟨hF,hi⟩,fun h=>by omega⟩
  ·split at hi
   ·rename_i h1 h2
    cases hi
    refine⟨by rw [st,HQ];omega, ?_,h2,fun h=>by omega,fun _=>by omega⟩
    rw [st,q3,show ts.length+(i - ts.length)=i by omega]
   ·cases hi
 -- all others
 have uo : ∀ o,o<s2.aw.length→posOf k8 o=none→o<s.aw.length∧o∉os∧s2.aw[o]? = s.aw[o]? :=by
  intro o hF hp
  have ou : ∀ i,k8[i]? ≠some o:=fun i hi=>by rw [lz nd hi]at hp;cases hp
  have h1:o<s.aw.length:=by
   rcases Nat.lt_or_ge o s.aw.length with h | h
   ·exact h
   ·exfalso
    rw [so,HP]at hF
    refine ou (os.length+(o - s.aw.length)) ?_
    rw [L5,if_neg (by omega),if_pos (by omega)]
    congr 1;omega
  have h2:o∉os:=fun hm=>by
   obtain⟨i,hi⟩:=List.mem_iff_getElem?.1 hm
   have qe:=(List.getElem?_eq_some_iff.1 hi).1
   exact ou i (by rw [L5,if_pos qe];exact hi)
  exact⟨h1,h2,by rw [so,p2 o h1 h2]⟩
 have ut : ∀ t,t<s2.aA.length→posOf oq t=none→t<s.aA.length∧t∉ts∧s2.aA[t]? = s.aA[t]? :=by
  intro t hF hp
  have ou : ∀ i,oq[i]? ≠some t:=fun i hi=>by rw [lz ndt hi]at hp;cases hp
  have h1:t<s.aA.length:=by
   rcases Nat.lt_or_ge t s.aA.length with h | h
   ·exact h
   ·exfalso
    rw [st,HQ]at hF
    refine ou (ts.length+(t - s.aA.length)) ?_
    rw [L6,if_neg (by omega),if_pos (by omega)]
    congr 1;omega
  have h2:t∉ts:=fun hm=>by
   obtain⟨i,hi⟩:=List.mem_iff_getElem?.1 hm
   have qe:=(List.getElem?_eq_some_iff.1 hi).1
   exact ou i (by rw [L6,if_pos qe];exact hi)
  exact⟨h1,h2,by rw [st,q2 t h1 h2]⟩
 generalize Pa:xf M xh k8 oq=M2
 have mG:xh.G=M2.G:=by rw [← Pa];rfl
 have lo : ∀ (i o:Nat),k8[i]? = some o→M2.loc o=xh.loc i:=fun i o hi=>by rw [← Pa];simp only [xf,lz nd hi]
 have Vj : ∀ o,posOf k8 o=none→M2.loc o=M.loc o:=fun o hp=>by rw [← Pa];simp only [xf,hp]
 have mo : ∀ (i o:Nat),k8[i]? = some o→M2.mu o=xh.mu i:=fun i o hi=>congrArg Prod.fst (lo i o hi)
 have HR : ∀ o,posOf k8 o=none→M2.mu o=M.mu o:=fun o hp=>congrArg Prod.fst (Vj o hp)
 have mt : ∀ (i t:Nat),oq[i]? = some t→M2.be t=xh.be i:=fun i t hi=>by rw [← Pa];simp only [xf,lz ndt hi]
 have HS : ∀ t,posOf oq t=none→M2.be t=M.be t:=fun t hp=>by rw [← Pa];simp only [xf,hp]
 have le:Le M s M2 s2:=by
  refine⟨fun b o v hg=>by rw [← mG];exact e.le.G b o v hg,by rw [so,HP];omega,fun o hF=> ?_,by rw [st,HQ];omega,fun t n' hF nV=> ?_⟩
  ·cases hp:posOf k8 o with
   | none=>rw [Vj o hp];exact .refl _
   | some i=>
    have hi:=iB hp
    rw [lo i o hi]
    obtain⟨_,_,_,h1,h2⟩:=fo i o hi
    have qe:i<os.length:=by
     rcases Nat.lt_or_ge i os.length with h | h
     ·exact h
     ·have:=h2 h;omega
    have h3:=e.le.loc i (by omega)
    rw [loc i o (h1 qe).2]at h3
    exact h3
  ·cases hp:posOf oq t with
   | none=>
    obtain⟨_,_,h3⟩:=ut t (by rw [st,HQ];omega) hp
    rw [h3]at nV
    exact⟨n',nV,Nat.le_refl _,fun _=>HS t hp⟩
   | some i=>
    have hi:=iB hp
    obtain⟨_,g1,_,h1,h2⟩:=ft i t hi
    have qe:i<ts.length:=by
     rcases Nat.lt_or_ge i ts.length with h | h
     ·exact h
     ·have:=h2 h;omega
    rw [g1]at nV
    obtain⟨n,h3,h4,h5⟩:=e.le.tk i n' (by omega) nV
    refine⟨n,by rw [← sQ i t (h1 qe).2];exact h3,h4,fun eq=> ?_⟩
    rw [mt i t hi,h5 eq,be i t (h1 qe).2]
 have ZV : ∀ {d:D} {v:Value},RD xh s' d v→RD M2 s2 (d.cb k8 oq) v:=fun hd=>RD.cb mG
  (fun i hi=>by
   obtain⟨o,ho⟩ : ∃ o,k8[i]? = some o:=by
    rw [L5];split
    ·rename_i h1;exact⟨_,List.getElem?_eq_getElem h1⟩
    ·exact⟨_,rfl⟩
   exact⟨o,ho,(fo i o ho).1,lo i o ho⟩)
  (fun i hi=>by
   obtain⟨t,ht⟩ : ∃ t,oq[i]? = some t:=by
    rw [L6];split
    ·rename_i h1;exact⟨_,List.getElem?_eq_getElem h1⟩
    ·exact⟨_,rfl⟩
   exact⟨t,ht,(ft i t ht).1,(ft i t ht).2.1,mt i t ht⟩) hd
 -- blocks that the callee did not know
 have G4 : ∀ i,s0.live i→∃ t,ts[i]? = some t∧s.live t:=fun i ⟨n,hn⟩=>by
  have hF:=(List.getElem?_eq_some_iff.1 hn).1
  have e1:ts[i]? = some ts[i]:=List.getElem?_eq_getElem (by omega)
  exact⟨_,e1,n,by rw [← sQ i _ e1];exact hn⟩
 have L7 : ∀ b,b<w.heap.size→(∀ (i o:Nat),os[i]? = some o→M.mu o≠b)→(∀ (i t:Nat) c z,ts[i]? = some t→s.live t→M.be t≠some (b,c,z))→
  w'.heap[b]? = w.heap[b]? ∧∀ off,xh.G b off=M.G b off:=by
  intro b hb h1 h2
  refine⟨e.kept b hb (fun i hi=> ?_) (fun i c z hl=> ?_),fun off=> ?_⟩
  ·have e1:os[i]? = some os[i]:=List.getElem?_eq_getElem (by omega)
   rw [mu i _ e1];exact h1 i _ e1
  ·obtain⟨t,e1,hF⟩:=G4 i hl
   rw [be i t e1];exact h2 i t c z e1 hF
  ·apply Classical.byContradiction
   intro eJ
   rcases e.pS b off eJ with h3 | ⟨i,c,z,hl,h3⟩
   ·omega
   ·obtain⟨t,e1,hF⟩:=G4 i hl
    rw [be i t e1]at h3
    exact h2 i t c z e1 hF h3
 have Vk : ∀ o,o<s.aw.length→o∉os→w'.heap[M.mu o]? = w.heap[M.mu o]? ∧∀ off,xh.G (M.mu o) off=M.G (M.mu o) off:=fun o hF ou=>
  L7 _ (r.pF hF) (fun i o' h1 h2=>ou (by rw [← r.inj o' o (kN o' (List.mem_of_getElem? h1)) hF h2];exact List.mem_of_getElem? h1))
   (fun i t c z _ hl h2=>r.eW t _ c z o hl h2 hF rfl)
 have ad5 : ∀ t b c z,s.live t→t∉ts→M.be t=some (b,c,z)→w'.heap[b]? = w.heap[b]? ∧∀ off,xh.G b off=M.G b off:=fun t b c z hl ou hb=>
  L7 b (r.rU hl hb) (fun i o h1=>r.eW t b c z o hl hb (kN o (List.mem_of_getElem? h1)))
   (fun i t' c' z' h1 me h2=>ou (by rw [r.fR t t' b c z c' z' hl me hb h2];exact List.mem_of_getElem? h1))
 have lv : ∀ t,s2.live t→(∃ i,oq[i]? = some t∧s'.live i)∨(posOf oq t=none∧s.live t∧t∉ts):=by
  rintro t ⟨n,hn⟩
  cases hp:posOf oq t with
  | none=>
   obtain⟨h1,h2,h3⟩:=ut t (List.getElem?_eq_some_iff.1 hn).1 hp
   exact .inr ⟨rfl,⟨n,by rw [← h3];exact hn⟩,h2⟩
  | some i=>
   have hi:=iB hp
   exact .inl ⟨i,hi,n,by rw [← (ft i t hi).2.1];exact hn⟩
 -- where a framed object lies
 have Vl : ∀ (i o:Nat),k8[i]? = some o→(o<s.aw.length∧o∈os∧xh.mu i=M.mu o)∨w.heap.size≤xh.mu i:=by
  intro i o hi
  obtain⟨_,_,h1,h2,h3⟩:=fo i o hi
  rcases e.mo h1 with ⟨h4,h5⟩ | h4
  ·have h:i<os.length:=by omega
   exact .inl ⟨(h2 h).1,List.mem_of_getElem? (h2 h).2,by rw [h5,mu i o (h2 h).2]⟩
  ·exact .inr h4
 have Vm : ∀ (i t b c z:Nat),oq[i]? = some t→s'.live i→xh.be i=some (b,c,z)→(s.live t∧t∈ts∧∃ c' z',M.be t=some (b,c',z'))∨w.heap.size≤b:=by
  intro i t b c z hi hl hb
  rcases e.o7 i b c z hl hb with ⟨h1,c',z',h2⟩ | h1
  ·obtain⟨t',e1,hF⟩:=G4 i h1
   have qe:=(List.getElem?_eq_some_iff.1 e1).1
   obtain⟨_,_,_,h3,_⟩:=ft i t hi
   have:=(h3 qe).2
   rw [e1]at this;cases this
   rw [be i _ e1]at h2
   exact .inl ⟨hF,List.mem_of_getElem? e1,c',z',h2⟩
  ·exact .inr h1
 refine⟨M2,d.cb k8 oq,v,s2,rfl,k7, ?_, ?_,ZV hv⟩
 ·-- Ext
  refine⟨le,fun b hb h1 h2=> ?_,fun o h1 h2=> ?_,fun t b c z hl hb=> ?_,fun b off eJ=> ?_,e.size,e.os,e.tape,e.output⟩
  ·exact(L7 b hb (fun i o h3=>h1 o (kN o (List.mem_of_getElem? h3))) (fun i t c z _ hl=>h2 t c z hl)).1
  ·cases hp:posOf k8 o with
   | none=>
    have:=(uo o h2 hp).1
    rcases h1 with h1 | h1
    ·omega
    ·exact(h1 (HR o hp)).elim
   | some i=>
    have hi:=iB hp
    rw [mo i o hi]at h1 ⊢
    rcases Vl i o hi with ⟨h3,_,h5⟩ | h3
    ·rcases h1 with h1 | h1
     ·omega
     ·exact(h1 h5).elim
    ·exact h3
  ·rcases lv t hl with ⟨i,hi,me⟩ | ⟨hp,me,_⟩
   ·rw [mt i t hi]at hb
    rcases Vm i t b c z hi me hb with ⟨h1,_,h2⟩ | h1
    ·exact .inl ⟨h1,h2⟩
    ·exact .inr h1
   ·rw [HS t hp]at hb
    exact .inl ⟨me,c,z,hb⟩
  ·rw [← mG]at eJ
   rcases e.pS b off eJ with h1 | ⟨i,c,z,hl,hb⟩
   ·exact .inl h1
   ·obtain⟨t,e1,hF⟩:=G4 i hl
    rw [be i t e1]at hb
    exact .inr ⟨t,c,z,hF,hb⟩
 ·-- Rel
  refine⟨fun b o v hg=>r'.comm b o v (by rw [mG];exact hg),fun o ds CS=> ?_,fun o hF off=> ?_,fun o o' hF BF heq=> ?_,fun t n hn=> ?_,fun t b c z o hl hb hF=> ?_,fun t t' b c z c' z' hl me hb tj=> ?_⟩
  ·cases hp:posOf k8 o with
   | some i=>
    have hi:=iB hp
    obtain⟨_,g1,_⟩:=fo i o hi
    rw [g1]at CS
    obtain⟨mS,h1,rfl⟩:=Option.map_eq_some_iff.1 CS
    obtain⟨vs,T,h2,h3,h4,h5⟩:=r'.obj i mS h1
    refine⟨vs,T,by rw [lo i o hi];exact h2,by rw [fO];simpa using h3,⟨h4.1,by rw [show M2.ty o=xh.ty i from congrArg (fun x=>x.2.ty?) (lo i o hi)];exact h4.2⟩,fun j d v e1 e2=> ?_⟩
    rw [fO]at e1
    simp only [List.getElem?_map,Option.map_eq_some_iff]at e1
    obtain⟨d',e1,rfl⟩:=e1
    exact ZV (h5 j d' v e1 e2)
   | none=>
    obtain⟨h1,h2,h3⟩:=uo o (List.getElem?_eq_some_iff.1 CS).1 hp
    rw [h3]at CS
    obtain⟨vs,T,g1,g2,g3,g4⟩:=r.obj o ds CS
    exact⟨vs,T,by rw [Vj o hp];exact g1.keep (Vk o h1 h2).1,g2,⟨g3.1,by rw [show M2.ty o=M.ty o from congrArg (fun x=>x.2.ty?) (Vj o hp)];exact g3.2⟩,fun j d v e1 e2=>(g4 j d v e1 e2).mono le⟩
  ·cases hp:posOf k8 o with
   | some i=>
    have hi:=iB hp
    rw [mo i o hi, ← mG];exact r'.ji i (fo i o hi).2.2.1 off
   | none=>
    obtain⟨h1,h2,h3⟩:=uo o hF hp
    rw [HR o hp, ← mG,(Vk o h1 h2).2 off];exact r.ji o h1 off
  ·cases hp:posOf k8 o with
   | some i=>
    have hi:=iB hp
    rw [mo i o hi]at heq
    cases l8:posOf k8 o' with
    | some i'=>
     have gZ:=iB l8
     rw [mo i' o' gZ]at heq
     have:=r'.inj i i' (fo i o hi).2.2.1 (fo i' o' gZ).2.2.1 heq
     subst this
     rw [hi]at gZ;cases gZ;rfl
    | none=>
     obtain⟨h1,h2,_⟩:=uo o' BF l8
     rw [HR o' l8]at heq
     rcases Vl i o hi with ⟨h3,h4,h5⟩ | h3
     ·rw [h5]at heq
      have:=r.inj o o' h3 h1 heq
      subst this;exact(h2 h4).elim
     ·have:=r.pF h1;omega
   | none=>
    obtain⟨h1,h2,_⟩:=uo o hF hp
    rw [HR o hp]at heq
    cases l8:posOf k8 o' with
    | some i'=>
     have gZ:=iB l8
     rw [mo i' o' gZ]at heq
     rcases Vl i' o' gZ with ⟨h3,h4,h5⟩ | h3
     ·rw [h5]at heq
      have:=r.inj o o' h1 h3 heq
      subst this;exact(h2 h4).elim
     ·have:=r.pF h1;omega
    | none=>
     obtain⟨rk,_,_⟩:=uo o' BF l8
     rw [HR o' l8]at heq
     exact r.inj o o' h1 rk heq
  ·rcases lv t ⟨n,hn⟩with ⟨i,hi,hl⟩ | ⟨hp,hl,ou⟩
   ·rw [mt i t hi, ← mG]
    exact r'.tok i n (by rw [← (ft i t hi).2.1];exact hn)
   ·obtain⟨_,_,h3⟩:=ut t (List.getElem?_eq_some_iff.1 hn).1 hp
    rw [h3]at hn
    rw [HS t hp]
    rcases r.tok t n hn with h4 | ⟨b,cap,size,vs,T,g1,g2,g3,g4,g5⟩
    ·exact .inl h4
    ·obtain⟨k1,k2⟩:=ad5 t b cap size hl ou g1
     exact .inr ⟨b,cap,size,vs,T,g1,by rw [k1];exact g2,g3,g4,fun off ho=>by rw [← mG,k2 off];exact g5.1 off ho,g5.2⟩
  ·rcases lv t hl with ⟨i,hi,me⟩ | ⟨hp,me,ou⟩
   ·rw [mt i t hi]at hb
    cases HT:posOf k8 o with
    | some j=>
     have hj:=iB HT
     rw [mo j o hj]
     exact r'.eW i b c z j me hb (fo j o hj).2.2.1
    | none=>
     obtain⟨h1,h2,_⟩:=uo o hF HT
     rw [HR o HT]
     rcases Vm i t b c z hi me hb with ⟨h3,_,c',z',h4⟩ | h3
     ·exact r.eW t b c' z' o h3 h4 h1
     ·have:=r.pF h1;omega
   ·rw [HS t hp]at hb
    cases HT:posOf k8 o with
    | some j=>
     have hj:=iB HT
     rw [mo j o hj]
     rcases Vl j o hj with ⟨h3,_,h5⟩ | h3
     ·rw [h5];exact r.eW t b c z o me hb h3
     ·have:=r.rU me hb;omega
    | none=>
     obtain⟨h1,_,_⟩:=uo o hF HT
     rw [HR o HT];exact r.eW t b c z o me hb h1
  ·rcases lv t hl with ⟨i,hi,yY⟩ | ⟨hp,hF,ou⟩
   ·rw [mt i t hi]at hb
    rcases lv t' me with ⟨i',gZ,Sb⟩ | ⟨l8,BF,Vn⟩
    ·rw [mt i' t' gZ]at tj
     have:=r'.fR i i' b c z c' z' yY Sb hb tj
     subst this
     rw [hi]at gZ;cases gZ;rfl
    ·rw [HS t' l8]at tj
     rcases Vm i t b c z hi yY hb with ⟨h3,h4,c2,z2,h5⟩ | h3
     ·have:=r.fR t t' b c2 z2 c' z' h3 BF h5 tj
      subst this;exact(Vn h4).elim
     ·have:=r.rU BF tj;omega
   ·rw [HS t hp]at hb
    rcases lv t' me with ⟨i',gZ,Sb⟩ | ⟨l8,BF,Vn⟩
    ·rw [mt i' t' gZ]at tj
     rcases Vm i' t' b c' z' gZ Sb tj with ⟨h3,h4,c2,z2,h5⟩ | h3
     ·have:=r.fR t t' b c z c2 z2 hF h3 hb h5
      subst this;exact(ou h4).elim
     ·have:=r.rU hF hb;omega
    ·rw [HS t' l8]at tj
     exact r.fR t t' b c z c' z' hF BF hb tj
end Go.Abs

/-! Walk -/

namespace Go.Abs
def Wk (d d':D):Prop:=∀ (M:Map) (s:St) (v:Value),RD M s d v→RD M s d' v
inductive jH:List D→List D→Prop where
 | nil:jH [] []
 | cons {d d':D} {l l':List D} (h:Wk d d') (t:jH l l'):jH (d::l) (d'::l')
inductive gU:List (List D)→List (List D)→Prop where
 | nil:gU [] []
 | cons {r r':List D} {l l':List (List D)} (h:jH r r') (t:gU l l'):gU (r::l) (r'::l')
theorem Wk.refl (d:D):Wk d d:=fun _ _ _ h=>h
theorem Wk.trans {a b c:D} (h:Wk a b) (k:Wk b c):Wk a c:=fun M s v r=>k M s v (h M s v r)
theorem Wk.junk (d:D):Wk d .junk:=fun _ _ v _=> .junk v
theorem jH.refl : ∀ l,jH l l
 | []=> .nil
 | d::l=> .cons (Wk.refl d) (jH.refl l)
theorem gU.refl : ∀ l,gU l l
 | []=> .nil
 | d::l=> .cons (jH.refl d) (gU.refl l)
theorem jH.len {l l':List D} (h:jH l l'):l.length=l'.length:=by
 induction h with
 | nil=>rfl
 | cons _ _ ih=>simp [ih]
theorem gU.len {l l':List (List D)} (h:gU l l'):l.length=l'.length:=by
 induction h with
 | nil=>rfl
 | cons _ _ ih=>simp [ih]
theorem jH.get {l l':List D} (h:jH l l') : ∀ {i:Nat} {d':D},l'[i]? = some d'→∃ d,l[i]? = some d∧Wk d d':=by
 induction h with
 | nil=>intro i d' e;simp at e
 | cons hd _ ih=>
  intro i d' e
  cases i with
  | zero=>simp at e;subst e;exact⟨_,rfl,hd⟩
  | succ i=>simp at e;simpa using ih e
theorem gU.get {l l':List (List D)} (h:gU l l') : ∀ {i:Nat} {d':List D},l'[i]? = some d'→∃ d,l[i]? = some d∧jH d d':=by
 induction h with
 | nil=>intro i d' e;simp at e
 | cons hd _ ih=>
  intro i d' e
  cases i with
  | zero=>simp at e;subst e;exact⟨_,rfl,hd⟩
  | succ i=>simp at e;simpa using ih e
theorem jH.append {a a' b b':List D} (h:jH a a') (k:jH b b'):jH (a++b) (a'++b'):=by
 induction h with
 | nil=>exact k
 | cons hd _ ih=>exact .cons hd ih
theorem gU.append {a a' b b':List (List D)} (h:gU a a') (k:gU b b'):gU (a++b) (a'++b'):=by
 induction h with
 | nil=>exact k
 | cons hd _ ih=>exact .cons hd ih
theorem Wk.agg {l l':List D} (h:jH l l'):Wk (.agg l) (.agg l'):=by
 intro M s v r
 cases r with
 | agg _ vs hl h1 hr=>
  refine .agg _ vs (by rw [← hl,h.len]) h1 fun i d' u e e2=> ?_
  obtain⟨d,e1,hw⟩:=h.get e
  exact hw M s u (hr i d u e1 e2)
theorem Wk.tuple {l l':List D} (h:jH l l'):Wk (.tuple l) (.tuple l'):=by
 intro M s v r
 cases r with
 | tuple _ vs hl hr=>
  refine .tuple _ vs (by rw [← hl,h.len]) fun i d' u e e2=> ?_
  obtain⟨d,e1,hw⟩:=h.get e
  exact hw M s u (hr i d u e1 e2)
theorem Wk.rows {g:Tag} {z:Nat} {l l':List (List D)} (h:gU l l'):Wk (.slice g z l) (.slice g z l'):=by
 intro M s v r
 cases r with
 | iP _ _ cap hc ht=>cases h;exact .iP _ _ _ hc ht
 | lG _ a cap=>cases h;exact .lG _ a cap
 | slice _ _ _ b k cap hl hs h1 h2 ht=>
  rw [h.len]
  refine .slice g z l' b k cap (by rw [← h.len];exact hl) (fun row hm=> ?_) (fun i row j d e e2=> ?_) (fun i row j d u e e2 eu=> ?_) (by rw [← h.len];exact ht)
  ·obtain⟨i,hi,he⟩:=List.mem_iff_getElem.1 hm
   obtain⟨r0,g1,g2⟩:=h.get (i:=i) (by rw [List.getElem?_eq_getElem hi,he])
   rw [← g2.len];exact hs r0 (List.mem_of_getElem? g1)
  ·obtain⟨r0,g1,g2⟩:=h.get e
   obtain⟨d0,g3,_⟩:=g2.get e2
   exact h1 i r0 j d0 g1 g3
  ·obtain⟨r0,g1,g2⟩:=h.get e
   obtain⟨d0,g3,g4⟩:=g2.get e2
   exact g4 M s u (h2 i r0 j d0 u g1 g3 eu)
theorem Wk.shared (g:Tag) (z:Nat) (l:List (List D)):Wk (.slice g z l) (.slice .shared z l):=by
 intro M s v r
 cases r with
 | iP _ _ cap hc ht=>exact .iP _ _ _ hc trivial
 | lG _ a cap=>exact .lG _ a cap
 | slice _ _ _ b k cap hl hs h1 h2 ht=>exact .slice _ _ _ b k cap hl hs h1 h2 trivial
theorem Wk.slice {g:Tag} {z:Nat} {l l':List (List D)} (h:gU l l'):Wk (.slice g z l) (.slice .shared z l'):=(Wk.shared g z l).trans (Wk.rows h)
theorem Wk.nil (g:Tag) (z z':Nat):Wk (.slice g z []) (.slice .shared z' []):=by
 intro M s v r
 cases r with
 | iP _ _ cap hc ht=>exact .iP _ _ _ hc trivial
 | lG _ a cap=>exact .lG _ a cap
 | slice _ _ _ b k cap hl hs h1 h2 ht=>exact .slice _ _ [] b k cap hl (by simp) (by simp) (by simp) trivial
theorem Wk.ahE (z z':Nat):Wk (.slice .full z []) (.slice .full z' []):=by
 intro M s v r
 cases r with
 | iP _ _ cap hc ht=>exact .iP _ _ _ hc ht
 | slice _ _ _ b k cap hl hs h1 h2 ht=>exact .slice _ _ [] b k cap hl (by simp) (by simp) (by simp) ht
theorem Rel.wg {M:Map} {s:St} {w:World} {aw:List (List D)} (r:Rel M s w) (h:gU s.aw aw):Rel M ⟨aw,s.aA⟩ w∧Le M s M ⟨aw,s.aA⟩:=by
 have le:Le M s M ⟨aw,s.aA⟩:=⟨fun _ _ _ h=>h,Nat.le_of_eq h.len,fun _ _=> .refl _,Nat.le_refl _,fun t n' _ e=>⟨n',e,Nat.le_refl _,fun _=>rfl⟩⟩
 have hl:=h.len
 refine⟨⟨r.comm,fun o ds e=> ?_,fun o ho=>r.ji o (by rw [hl];exact ho),fun o o' ho mT=>r.inj o o' (by rw [hl];exact ho) (by rw [hl];exact mT),r.tok,
  fun t b c z o hv e ho=>r.eW t b c z o hv e (by rw [hl];exact ho),r.fR⟩,le⟩
 obtain⟨HU,g1,g2⟩:=h.get e
 obtain⟨vs,T,h1,h2,h3,h4⟩:=r.obj o HU g1
 refine⟨vs,T,h1,by rw [h2,g2.len],h3,fun i d v e1 e2=> ?_⟩
 obtain⟨d0,k1,k2⟩:=g2.get e1
 exact(k2 _ _ _ (h4 i d0 v k1 e2)).mono le
theorem Rel.blank {M:Map} {s:St} {w:World} (r:Rel M s w) :
 Rel (M.eQ s.aA.length none) {s with aA:=s.aA++ [some 0]} w∧Le M s (M.eQ s.aA.length none) {s with aA:=s.aA++ [some 0]}:=by
 have il : ∀ t,St.live {s with aA:=s.aA++ [some 0]} t→s.live t∨t=s.aA.length:=by
  rintro t ⟨k,hk⟩
  rcases Nat.lt_or_ge t s.aA.length with h | h
  ·rw [List.getElem?_append_left h]at hk;exact .inl ⟨k,hk⟩
  ·have:=(List.getElem?_eq_some_iff.1 hk).1
   simp at this;exact .inr (by omega)
 have hF : ∀ t,s.live t→t<s.aA.length:=fun t ⟨k,hk⟩=>(List.getElem?_eq_some_iff.1 hk).1
 have hold : ∀ t,t<s.aA.length→(M.eQ s.aA.length none).be t=M.be t:=fun t h=>by simp [Map.eQ];omega
 have dF:(M.eQ s.aA.length none).be s.aA.length=none:=by simp [Map.eQ]
 have le:Le M s (M.eQ s.aA.length none) {s with aA:=s.aA++ [some 0]}:=
  ⟨fun _ _ _ h=>h,Nat.le_refl _,fun _ _=> .refl _,by simp,fun t k h e=>by
   rw [List.getElem?_append_left h]at e
   exact⟨k,e,Nat.le_refl _,fun _=>hold t h⟩⟩
 refine⟨⟨r.comm,fun o ds e=> ?_,r.ji,r.inj,fun t k e=> ?_,fun t b' c z o hl e mT=> ?_,fun t t' b' c z c' z' h h' e e'=> ?_⟩,le⟩
 ·obtain⟨fy,T',h3,h4,h5,h6⟩:=r.obj o ds e
  exact⟨fy,T',h3,h4,h5,fun i d v e1 e2=>(h6 i d v e1 e2).mono le⟩
 ·rcases Nat.lt_or_ge t s.aA.length with h | h
  ·rw [List.getElem?_append_left h]at e
   rw [hold t h];exact r.tok t k e
  ·have:=(List.getElem?_eq_some_iff.1 e).1
   simp at this
   have:t=s.aA.length:=by omega
   subst this
   simp at e;subst e
   exact .inl ⟨dF,rfl⟩
 ·rcases il t hl with h | h
  ·rw [hold t (hF t h)]at e;exact r.eW t b' c z o h e mT
  ·subst h;rw [dF]at e;cases e
 ·rcases il t h with h | h <;> rcases il t' h' with h' | h'
  ·rw [hold t (hF t h)]at e;rw [hold t' (hF t' h')]at e';exact r.fR t t' b' c z c' z' h h' e e'
  ·subst h';rw [dF]at e';cases e'
  ·subst h;rw [dF]at e;cases e
  ·omega
theorem RD.own {M:Map} {s:St} {z z':Nat} {v:Value} (h:RD M s (.slice .full z []) v):RD (M.eQ s.aA.length none) {s with aA:=s.aA++ [some 0]} (.slice (.tok s.aA.length) z' []) v:=by
 have key : ∀ base:Option (Nat×Nat),iz (M.eQ s.aA.length none) {s with aA:=s.aA++ [some 0]} (.tok s.aA.length) z' 0 base 0:=by
  intro base
  refine⟨by simp,fun n e=> ?_⟩
  simp at e
  subst e
  exact⟨Nat.le_refl _,fun _=> .inl ⟨by simp [Map.eQ],rfl,fun h=>by cases h⟩⟩
 cases h with
 | iP _ _ cap hc ht=>subst hc;exact .iP _ _ _ rfl (key none)
 | slice _ _ _ b k cap hl hs h1 h2 ht=>
  have:cap=0:=ht
  subst this
  exact .slice _ _ [] b k 0 (Nat.le_refl _) (by simp) (by simp) (by simp) (key _)
section
variable {P:Program} {B:fv} {nt:Nat} {Q:Exit→Tm→St→Prop} {tm:Tm} {s:St}
theorem zX {M0 M:Map} {s0 s:St} {w0 w:World} (e:Ext M0 s0 w0 M s w) (le:Le M s (M.eQ s.aA.length none) {s with aA:=s.aA++ [some 0]}) :
 Ext M0 s0 w0 (M.eQ s.aA.length none) {s with aA:=s.aA++ [some 0]} w:=by
 refine e.trans ⟨le,fun _ _ _ _=>rfl,fun o h1 h2=>h1.elim (fun h1=>absurd h2 (Nat.not_lt.2 h1)) (fun h1=>(h1 rfl).elim),fun t b c z hl eq=> ?_,fun _ _ h=>(h rfl).elim,Nat.le_refl _,rfl,rfl,rfl⟩
 obtain⟨k,hk⟩:=hl
 rcases Nat.lt_or_ge t s.aA.length with h | h
 ·refine .inl ⟨⟨k,by rw [List.getElem?_append_left h]at hk;exact hk⟩,c,z, ?_⟩
  have:(M.eQ s.aA.length none).be t=M.be t:=by simp [Map.eQ];omega
  rw [← this];exact eq
 ·have:=(List.getElem?_eq_some_iff.1 hk).1
  simp at this
  have:t=s.aA.length:=by omega
  subst this
  simp [Map.eQ]at eq
theorem Sem.ov {ac:AC} (t z':Nat) {z:Nat} (hw:tm.get t = .slice .full z []) (h:Sem P B nt ac Q (tm.set t (.slice (.tok s.aA.length) z' [])) {s with aA:=s.aA++ [some 0]}):Sem P B nt ac Q tm s:=by
 intro c hc act w ⟨M,e,r,ht,h1,h2⟩
 obtain⟨r',le⟩:=r.blank
 refine h c hc act w ⟨_,zX e le,r',fun k=> ?_,h1,h2⟩
 rw [Tm.A0]
 split
 ·rename_i hk;subst hk;have:=ht k;rw [hw]at this;exact this.own
 ·exact(ht k).mono le
end
def aB (P:Program) (f:Nat) (args:List D) (s:St) (d:D) (s':St):Prop:=dV P f args s fun x y=>x=d∧y=s'
def iI (n m:Nat) (res:List (Nat×Option (Bool×Nat))) (d:D) (s':St):Exit→Tm→St→Prop
 | .normal,tm,s | .ret,tm,s=>∃ l,ay res tm s=some l∧Wk ((az l).fg n m) d∧gU (s.cut n m).aw s'.aw∧(s.cut n m).aA=s'.aA
 | _,_,_=>False
theorem dV.wg {P:Program} {f:FuncId} {args CX:List D} {s:St} {Q:D→St→Prop} (ha:jH args CX) (h:dV P f CX s Q):dV P f args s Q:=
 fun M w fY r jR hl hr=>h M w fY r jR (by rw [hl,ha.len]) fun i d v e1 e2=>by
  obtain⟨d0,g1,g2⟩:=ha.get e1
  exact g2 _ _ _ (hr i d0 v g1 e2)
theorem dV.Vo {P:Program} {f:FuncId} {args:List D} {s:St} {Q Q':D→St→Prop} (h:dV P f args s Q) (hq : ∀ d s1,Q d s1→∃ d' s',Wk d d'∧gU s1.aw s'.aw∧s1.aA=s'.aA∧Q' d' s'):dV P f args s Q':=
 fun M w fY r jR hl ha=>(h M w fY r jR hl ha).mono fun _ _ ⟨M',d,v,s1,h1,h2,h3,h4,h5⟩=>by
  obtain⟨d',s',g1,g2,g3,g4⟩:=hq d s1 h2
  obtain⟨r',le⟩:=h4.wg g2
  have hs:(⟨s'.aw,s1.aA⟩:St)=s':=by rw [g3]
  rw [hs]at r' le
  refine⟨M',d',v,s',h1,g4,h3.trans ⟨le,fun _ _ _ _=>rfl,fun o h1 h2=> ?_,fun t b c z hl e=> .inl ⟨by obtain⟨n,hn⟩:=hl;exact⟨n,by rw [g3];exact hn⟩,c,z,e⟩,fun _ _ h=>(h rfl).elim,Nat.le_refl _,rfl,rfl,rfl⟩,r',(g1 _ _ _ h5).mono le⟩
  rw [← g2.len]at h2
  exact h1.elim (fun h1=>absurd h2 (Nat.not_lt.2 h1)) fun h1=>(h1 rfl).elim
theorem aB.intro {P:Program} {f:FuncId} {af:AF} {args:List D} {s:St} {d:D} {s':St} (h0 : ∃ fn,P.funcs[f]? = some fn∧cF P fn=some af) (hl:args.length≤af.ntmps)
 (h : ∀ B:fv,B.s=s→Sem P B af.ntmps af.body (iI s.aw.length s.aA.length af.results d s') (nX 0 args) s):aB P f args s d s':=by
 obtain⟨fn,hf,hc⟩:=h0
 refine dV.Vo (dV.intro (Q:=fun d1 s1=>Wk d1 d∧gU s1.aw s'.aw∧s1.aA=s'.aA) hf hc hl fun B hB=>(h B hB).mono fun e tm s1 hr=> ?_) fun d1 s1 ⟨h1,h2,h3⟩=>⟨d,s',h1,h2,h3,rfl,rfl⟩
 subst hB
 cases e with
 | normal=>obtain⟨l,h1,h2,h3,h4⟩:=hr;exact⟨l,h1,_,_,Nat.le_refl _,Nat.le_refl _,h2,h3,h4⟩
 | ret=>obtain⟨l,h1,h2,h3,h4⟩:=hr;exact⟨l,h1,_,_,Nat.le_refl _,Nat.le_refl _,h2,h3,h4⟩
 | exit id=>exact hr.elim
 | goto l=>exact hr.elim
 | panic ch=>exact hr.elim
 | outgrown=>exact hr.elim
theorem aB.use {P:Program} {f:FuncId} {args:List D} {s:St} {d:D} {s':St} {Q:D→St→Prop} (h:aB P f args s d s') (hq:Q d s'):dV P f args s Q:=
 dV.mono h fun x y ⟨h1,h2⟩=>by subst h1;subst h2;exact hq
mutual
theorem rE (os ts:List Nat) : ∀ d,D.ok 0 0 d=true→D.cb os ts d=d
 | .junk,_=>by simp [D.cb]
 | .int k n,_=>by simp [D.cb]
 | .bool b,_=>by simp [D.cb]
 | .str l,_=>by simp [D.cb]
 | .eO,_=>by simp [D.cb]
 | .val v,_=>by simp [D.cb]
 | .fi T o,h=>by simp [D.ok]at h
 | .fQ o,h=>by simp [D.ok]at h
 | .eB z o g len,h=>by simp [D.ok]at h
 | .fj o g off,h=>by simp [D.ok]at h
 | .fu z,_=>by simp [D.cb]
 | .gb f cs,h=>by
  simp only [D.ok]at h
  simp only [D.cb,eY os ts cs h]
 | .ptr o f,h=>by simp [D.ok]at h
 | .dE r f,h=>by
  simp only [D.ok]at h
  simp only [D.cb,eY os ts r h]
 | .slice g z rows,h=>by
  simp only [D.ok,Bool.and_eq_true]at h
  simp only [D.cb,iL os ts rows h.2]
  cases g with
  | tok t y=>simp [Tag.ok]at h
  | full=>rfl
  | shared=>rfl
 | .agg cs,h=>by
  simp only [D.ok]at h
  simp only [D.cb,eY os ts cs h]
 | .tuple cs,h=>by
  simp only [D.ok]at h
  simp only [D.cb,eY os ts cs h]
theorem eY (os ts:List Nat) : ∀ l,D.bp 0 0 l=true→D.dW os ts l=l
 | [],_=>by simp [D.dW]
 | d::r,h=>by
  simp only [D.bp,Bool.and_eq_true]at h
  simp only [D.dW,rE os ts d h.1,eY os ts r h.2]
theorem iL (os ts:List Nat) : ∀ l,D.hO 0 0 l=true→D.om os ts l=l
 | [],_=>by simp [D.om]
 | d::r,h=>by
  simp only [D.hO,Bool.and_eq_true]at h
  simp only [D.om,eY os ts d h.1,iL os ts r h.2]
end
mutual
theorem Er {n m n' m':Nat} (hn:n≤n') (hm:m≤m') : ∀ d,D.ok n m d=true→D.ok n' m' d=true
 | .junk,_=>rfl
 | .int k n,_=>rfl
 | .bool b,_=>rfl
 | .str l,_=>rfl
 | .eO,_=>rfl
 | .val v,_=>rfl
 | .fi T o,h=>by simp [D.ok]at h ⊢;omega
 | .fQ o,h=>by simp [D.ok]at h ⊢;omega
 | .eB z o g len,h=>by simp [D.ok]at h ⊢;omega
 | .fj o g off,h=>by simp [D.ok]at h ⊢;omega
 | .fu z,_=>rfl
 | .gb f cs,h=>by
  simp only [D.ok]at h ⊢
  exact gS hn hm cs h
 | .ptr o f,h=>by simp only [D.ok,decide_eq_true_eq]at h ⊢;omega
 | .dE r f,h=>by
  simp only [D.ok]at h ⊢
  exact gS hn hm r h
 | .slice g z rows,h=>by
  simp only [D.ok,Bool.and_eq_true]at h ⊢
  refine⟨?_,lM hn hm rows h.2⟩
  cases g with
  | tok t y=>simp only [Tag.ok,decide_eq_true_eq]at h ⊢;omega
  | full=>rfl
  | shared=>rfl
 | .agg cs,h=>by
  simp only [D.ok]at h ⊢
  exact gS hn hm cs h
 | .tuple cs,h=>by
  simp only [D.ok]at h ⊢
  exact gS hn hm cs h
theorem gS {n m n' m':Nat} (hn:n≤n') (hm:m≤m') : ∀ l,D.bp n m l=true→D.bp n' m' l=true
 | [],_=>rfl
 | d::r,h=>by
  simp only [D.bp,Bool.and_eq_true]at h ⊢
  exact⟨Er hn hm d h.1,gS hn hm r h.2⟩
theorem lM {n m n' m':Nat} (hn:n≤n') (hm:m≤m') : ∀ l,D.hO n m l=true→D.hO n' m' l=true
 | [],_=>rfl
 | d::r,h=>by
  simp only [D.hO,Bool.and_eq_true]at h ⊢
  exact⟨gS hn hm d h.1,lM hn hm r h.2⟩
end
def S0:St:=⟨[],[]⟩
section
variable {P:Program} {f:Nat}
theorem aB.pure {args:List D} {d:D} (h:aB P f args S0 d S0) (ha:D.bp 0 0 args=true) (hd:D.ok 0 0 d=true) (s:St):aB P f args s d s:=by
 refine dV.frame [] [] h List.nodup_nil List.nodup_nil (by simp) (by simp) rfl (by simp) rfl (by simp) (by rw [eY _ _ _ ha]) ha ?_
 rintro _ _ ⟨rfl,rfl⟩
 refine⟨rE _ _ _ hd, ?_⟩
 simp [St.back,jG,S0]
theorem aB.jY {args row iQ:List D} {d:D} (h:aB P f (.ptr 0 0::args) ⟨[row],[]⟩ d ⟨[iQ],[]⟩) (ha:D.bp 0 0 args=true) (hr:D.bp 0 0 row=true) (Hv:D.bp 0 0 iQ=true) (hd:D.ok 0 0 d=true)
 {s:St} {o:Nat} (ho:s.aw[o]? = some row):aB P f (.ptr o 0::args) s d ⟨s.aw.set o iQ,s.aA⟩:=by
 refine dV.frame [o] [] h (by simp) List.nodup_nil (by simpa using (List.getElem?_eq_some_iff.1 ho).1) (by simp) rfl (fun i o' ds e1 e2=> ?_) rfl (by simp) (by simp [D.dW,D.cb,eY _ _ _ ha])
  (by simp [D.bp,D.ok,gS (Nat.zero_le 1) (Nat.le_refl 0) _ ha]) ?_
 ·cases i with
  | zero=>simp at e1 e2;subst e1;subst e2;exact⟨by rw [eY _ _ _ hr];exact ho,gS (Nat.zero_le 1) (Nat.le_refl 0) _ hr⟩
  | succ i=>simp at e1
 ·rintro _ _ ⟨rfl,rfl⟩
  refine⟨rE _ _ _ hd, ?_⟩
  simp [St.back,jG,eY _ _ _ Hv]
end
end Go.Abs

/-! Par -/

namespace Go.Abs
theorem X.bX {x:X} {tm bt:Tm} (h : ∀ t∈x.reads,tm.get t=bt.get t):x.ev tm=x.ev bt:=by
 cases x with
 | s t=>exact h t (by simp [X.reads])
 | k d=>rfl
theorem qy {t:Nat} {x:X} : ∀ {l:List X},x∈l→t∈x.reads→t∈nq l
 | [],h,_=>by cases h
 | y::r,h,ht=>by
  simp only [nq,List.mem_append]
  rcases List.mem_cons.1 h with rfl | h
  ·exact .inl ht
  ·exact .inr (qy h ht)
theorem vv {x:Option X} {tm bt:Tm} (h : ∀ t∈zB x,tm.get t=bt.get t):x.map (·.ev tm)=x.map (·.ev bt):=by
 cases x with
 | none=>rfl
 | some y=>simp only [Option.map_some];rw [X.bX h]
theorem BH {o:AO} {tm bt:Tm} {s:St} (h : ∀ t∈o.reads,tm.get t=bt.get t):aW o tm s=aW o bt s:=by
 cases o with
 | mv x=>
  have hx:x.ev tm=x.ev bt:=X.bX fun t ht=>h t (by simp [AO.reads,ht])
  simp only [aW,hx]
 | pick c a b=>
  have hc:c.ev tm=c.ev bt:=X.bX fun t ht=>h t (by simp [AO.reads,ht])
  have ha:a.ev tm=a.ev bt:=X.bX fun t ht=>h t (by simp [AO.reads,ht])
  have hb:b.ev tm=b.ev bt:=X.bX fun t ht=>h t (by simp [AO.reads,ht])
  simp only [aW,hc,ha,hb]
 | alloc z=>
  rfl
 | sq z T=>rfl
 | zz x T=>
  have hx:x.ev tm=x.ev bt:=X.bX fun t ht=>h t (by simp [AO.reads,ht])
  simp only [aW,hx]
 | zA x y=>
  have hx:x.ev tm=x.ev bt:=X.bX fun t ht=>h t (by simp [AO.reads,ht])
  have hy:y.ev tm=y.ev bt:=X.bX fun t ht=>h t (by simp [AO.reads,ht])
  simp only [aW,hx,hy]
 | apps x y=>
  have hx:x.ev tm=x.ev bt:=X.bX fun t ht=>h t (by simp [AO.reads,ht])
  have hy:y.ev tm=y.ev bt:=X.bX fun t ht=>h t (by simp [AO.reads,ht])
  simp only [aW,hx,hy]
 | box x=>
  have hx:x.ev tm=x.ev bt:=X.bX fun t ht=>h t (by simp [AO.reads,ht])
  simp only [aW,hx]
 | zw x=>
  have hx:x.ev tm=x.ev bt:=X.bX fun t ht=>h t (by simp [AO.reads,ht])
  simp only [aW,hx]
 | load x g n=>
  have hx:x.ev tm=x.ev bt:=X.bX fun t ht=>h t (by simp [AO.reads,ht])
  simp only [aW,hx]
 | store p x n=>
  have hp:p.ev tm=p.ev bt:=X.bX fun t ht=>h t (by simp [AO.reads,ht])
  have hx:x.ev tm=x.ev bt:=X.bX fun t ht=>h t (by simp [AO.reads,ht])
  simp only [aW,hp,hx]
 | du x=>
  have hx:x.ev tm=x.ev bt:=X.bX fun t ht=>h t (by simp [AO.reads,ht])
  simp only [aW,hx]
 | bin op x y=>
  have hx:x.ev tm=x.ev bt:=X.bX fun t ht=>h t (by simp [AO.reads,ht])
  have hy:y.ev tm=y.ev bt:=X.bX fun t ht=>h t (by simp [AO.reads,ht])
  simp only [aW,hx,hy]
 | Bv n x y=>
  have hx:x.ev tm=x.ev bt:=X.bX fun t ht=>h t (by simp [AO.reads,ht])
  have hy:y.ev tm=y.ev bt:=X.bX fun t ht=>h t (by simp [AO.reads,ht])
  simp only [aW,hx,hy]
 | eqs n ks x y=>
  have hx:x.ev tm=x.ev bt:=X.bX fun t ht=>h t (by simp [AO.reads,ht])
  have hy:y.ev tm=y.ev bt:=X.bX fun t ht=>h t (by simp [AO.reads,ht])
  simp only [aW,hx,hy]
 | Fj n x y=>
  have hx:x.ev tm=x.ev bt:=X.bX fun t ht=>h t (by simp [AO.reads,ht])
  have hy:y.ev tm=y.ev bt:=X.bX fun t ht=>h t (by simp [AO.reads,ht])
  simp only [aW,hx,hy]
 | un op x=>
  have hx:x.ev tm=x.ev bt:=X.bX fun t ht=>h t (by simp [AO.reads,ht])
  simp only [aW,hx]
 | conv k x=>
  have hx:x.ev tm=x.ev bt:=X.bX fun t ht=>h t (by simp [AO.reads,ht])
  simp only [aW,hx]
 | Cv x=>
  have hx:x.ev tm=x.ev bt:=X.bX fun t ht=>h t (by simp [AO.reads,ht])
  simp only [aW,hx]
 | wU x=>
  have hx:x.ev tm=x.ev bt:=X.bX fun t ht=>h t (by simp [AO.reads,ht])
  simp only [aW,hx]
 | av x n=>
  have hx:x.ev tm=x.ev bt:=X.bX fun t ht=>h t (by simp [AO.reads,ht])
  simp only [aW,hx]
 | sn x n g m=>
  have hx:x.ev tm=x.ev bt:=X.bX fun t ht=>h t (by simp [AO.reads,ht])
  simp only [aW,hx]
 | ct x i n=>
  have hx:x.ev tm=x.ev bt:=X.bX fun t ht=>h t (by simp [AO.reads,ht])
  have hi:i.ev tm=i.ev bt:=X.bX fun t ht=>h t (by simp [AO.reads,ht])
  simp only [aW,hx,hi]
 | od x i=>
  have hx:x.ev tm=x.ev bt:=X.bX fun t ht=>h t (by simp [AO.reads,ht])
  have hi:i.ev tm=i.ev bt:=X.bX fun t ht=>h t (by simp [AO.reads,ht])
  simp only [aW,hx,hi]
 | ext x i=>
  have hx:x.ev tm=x.ev bt:=X.bX fun t ht=>h t (by simp [AO.reads,ht])
  simp only [aW,hx]
 | len x=>
  have hx:x.ev tm=x.ev bt:=X.bX fun t ht=>h t (by simp [AO.reads,ht])
  simp only [aW,hx]
 | lH x=>
  have hx:x.ev tm=x.ev bt:=X.bX fun t ht=>h t (by simp [AO.reads,ht])
  simp only [aW,hx]
 | app a b x y=>
  have hx:x.ev tm=x.ev bt:=X.bX fun t ht=>h t (by simp [AO.reads,ht])
  have hy:y.ev tm=y.ev bt:=X.bX fun t ht=>h t (by simp [AO.reads,ht])
  simp only [aW,hx,hy]
 | mm b x y=>
  have hx:x.ev tm=x.ev bt:=X.bX fun t ht=>h t (by simp [AO.reads,ht])
  have hy:y.ev tm=y.ev bt:=X.bX fun t ht=>h t (by simp [AO.reads,ht])
  simp only [aW,hx,hy]
 | build z ps=>
  have hp:(ps.map fun p=>(p.1,p.2.1,p.2.2.ev tm))=ps.map fun p=>(p.1,p.2.1,p.2.2.ev bt):=List.map_congr_left fun p hp=>by
   have:p.2.2.ev tm=p.2.2.ev bt:=X.bX fun t ht=>h t (by simp only [AO.reads];exact qy (List.mem_map_of_mem hp) ht)
   rw [this]
  simp only [aW,hp]
 | cL z m n ps=>
  have hp:(ps.map fun p=>(p.1,p.2.ev tm))=ps.map fun p=>(p.1,p.2.ev bt):=List.map_congr_left fun p hp=>by
   have:p.2.ev tm=p.2.ev bt:=X.bX fun t ht=>h t (by simp only [AO.reads];exact qy (List.mem_map_of_mem hp) ht)
   rw [this]
  simp only [aW,hp]
 | ug z m n ps=>
  have hp:(ps.map fun p=>(p.1,p.2.ev tm))=ps.map fun p=>(p.1,p.2.ev bt):=List.map_congr_left fun p hp=>by
   have:p.2.ev tm=p.2.ev bt:=X.bX fun t ht=>h t (by simp only [AO.reads];exact qy (List.mem_map_of_mem hp) ht)
   rw [this]
  simp only [aW,hp]
 | Cw n x lo hi=>
  have hx:x.ev tm=x.ev bt:=X.bX fun t ht=>h t (by simp [AO.reads,ht])
  have hl:lo.map (·.ev tm)=lo.map (·.ev bt):=vv fun t ht=>h t (by simp [AO.reads,ht])
  have hh:hi.map (·.ev tm)=hi.map (·.ev bt):=vv fun t ht=>h t (by simp [AO.reads,ht])
  simp only [aW,hx,hl,hh]
 | xU x lo hi=>
  have hx:x.ev tm=x.ev bt:=X.bX fun t ht=>h t (by simp [AO.reads,ht])
  have hl:lo.map (·.ev tm)=lo.map (·.ev bt):=vv fun t ht=>h t (by simp [AO.reads,ht])
  have hh:hi.map (·.ev tm)=hi.map (·.ev bt):=vv fun t ht=>h t (by simp [AO.reads,ht])
  simp only [aW,hx,hl,hh]
 | tD f xs=>
  have hp:(xs.map fun x=>x.ev tm)=xs.map fun x=>x.ev bt:=List.map_congr_left fun x hx=>X.bX fun t ht=>h t (by simp only [AO.reads];exact qy hx ht)
  simp only [aW,hp]
 | tF=>rfl
 | xV m k v=>
  have hm:m.ev tm=m.ev bt:=X.bX fun t ht=>h t (by simp [AO.reads,ht])
  have hk:k.ev tm=k.ev bt:=X.bX fun t ht=>h t (by simp [AO.reads,ht])
  have hv:v.ev tm=v.ev bt:=X.bX fun t ht=>h t (by simp [AO.reads,ht])
  simp only [aW,hm,hk,hv]
 | Ee a b z l c=>
  have hl:l.ev tm=l.ev bt:=X.bX fun t ht=>h t (by simp [AO.reads,ht])
  have hk:c.ev tm=c.ev bt:=X.bX fun t ht=>h t (by simp [AO.reads,ht])
  simp only [aW,hl,hk]
 | vj m k z=>
  have hm:m.ev tm=m.ev bt:=X.bX fun t ht=>h t (by simp [AO.reads,ht])
  have hk:k.ev tm=k.ev bt:=X.bX fun t ht=>h t (by simp [AO.reads,ht])
  simp only [aW,hm,hk]
theorem JN {x d:D} {agg:Bool} {size:Nat} {s s':St} (h:xX x agg size s=some (d,s')):s'=s:=by
 unfold xX at h
 (repeat' (split at h)) <;> first | (cases h;rfl) | cases h
theorem JO {o:AO} (ho:gK o.kind=false) {tm:Tm} {s s':St} {d:D} (h:aW o tm s=some (d,s')):s'=s:=by
 cases o <;> simp only [AO.kind,gK]at ho <;> first | cases ho | skip
 all_goals
  simp only [aW]at h
  first
   | (cases h;rfl)
   | (repeat' (split at h)) <;> first | exact JN h | (cases h;rfl) | cases h
theorem L8 {o:AO} (ho:o.kind = .pure) {tm:Tm} {s s':St} : (aW o tm s).map (·.1)=(aW o tm s').map (·.1):=by
 cases o <;> simp only [AO.kind]at ho <;> first | cases ho | skip
 all_goals
  simp only [aW]
  first
   | rfl
   | (repeat' split) <;> rfl
def jo (ai:AI) (tm:Tm) (s:St):Option D:=
 match ai with
 | .op _ none o=>(aW o tm s).map (·.1)
 | .op _ (some (t,want)) o=>
  match tm.get t with
  | .bool b=>if b=want then(aW o tm s).map (·.1)else some (.tuple [])
  | .tuple _=>some (.tuple [])
  | _=>none
 | _=>none
def rZ (P:Program) (ai:AI) (tm:Tm) (s:St) (d:D) (s':St):Prop:=
 match ai with
 | .op _ g o=>guarded g tm (aW o tm s=some (d,s')) (d = .tuple []∧s'=s)
 | .call _ g f xs=>guarded g tm (dV P f (xs.map (·.ev tm)) s fun x y=>x=d∧y=s') (d = .tuple []∧s'=s)
 | .nil .. =>False
 | .iS .. =>False
def kl (P:Program) (is:List AI) (K:Tm→St→Prop):List (Nat×Nat)→List St→Tm→St→Prop
 | [],_,tm,s=>K tm s
 | (q,b)::r,bD,tm,s=>
  match is[q]? with
  | none=>False
  | some ai=>
   match gK ai.kind with
   | true=>∃ d s',rZ P ai tm s d s'∧kl P is K r (s::bD) (tm.put ai.dst d) s'
   | false=>∃ d,jo ai tm s=some d∧(ai.kind = .load→∀ s'∈bD.take b,jo ai tm s'=some d)∧kl P is K r bD (tm.put ai.dst d) s
def Tm.eqv (a b:Tm):Prop:=∀ t,a.get t=b.get t
theorem Tm.kL (tm:Tm) (dst:Option Nat) (d:D) (t:Nat):(tm.put dst d).get t=if dst=some t then d else tm.get t:=by
 cases dst with
 | none=>simp [Tm.put]
 | some u=>
  simp only [Tm.put,Tm.A0,Option.some.injEq]
  by_cases h:t=u
  ·subst h;simp
  ·rw [if_neg h,if_neg (fun e=>h e.symm)]
theorem Tm.eqv.put {a b:Tm} (h:a.eqv b) (dst:Option Nat) (d:D):(a.put dst d).eqv (b.put dst d):=fun t=>by
 rw [Tm.kL,Tm.kL,h t]
theorem Tm.HV (tm:Tm) {x y:Option Nat} (h : ∀ t,x=some t→y≠some t) (d e:D):((tm.put x d).put y e).eqv ((tm.put y e).put x d):=fun t=>by
 simp only [Tm.kL]
 by_cases h1:x=some t
 ·simp only [h1,h t h1,if_true,if_false]
 ·simp only [h1,if_false]
theorem yZ {g:Option (Nat×Bool)} {tm bt:Tm} {A A' C:Prop} (h : ∀ t∈uh g,tm.get t=bt.get t) (ha:A→A') (hh:guarded g tm A C):guarded g bt A' C:=by
 cases g with
 | none=>exact ha hh
 | some p=>
  obtain⟨t,want⟩:=p
  unfold guarded at *
  simp only at *
  rw [← h t (by simp [uh])]
  split
  ·rename_i b hb
   rw [hb]at hh
   exact⟨fun e=>ha (hh.1 e),hh.2⟩
  ·rename_i hb
   rw [hb]at hh
   exact hh
  ·rename_i x h1 h2
   split at hh
   ·exact h1 _ ‹_›
   ·exact h2 _ ‹_›
   ·exact hh
theorem Fw {tm bt:Tm} : ∀ {l:List X},(∀ t∈nq l,tm.get t=bt.get t)→l.map (·.ev tm)=l.map (·.ev bt)
 | [],_=>rfl
 | x::r,h=>by
  simp only [List.map_cons]
  rw [X.bX fun t ht=>h t (by simp [nq,ht]),Fw (l:=r) fun t ht=>h t (by simp [nq,ht])]
theorem wh {P:Program} {ai:AI} {tm bt:Tm} {s s':St} {d:D} (h : ∀ t∈ai.reads,tm.get t=bt.get t) (hh:rZ P ai tm s d s'):rZ P ai bt s d s':=by
 cases ai with
 | op dst g o=>
  simp only [AI.reads,List.mem_append]at h
  exact yZ (fun t ht=>h t (.inl ht)) (fun e=>by rw [← BH fun t ht=>h t (.inr ht)];exact e) hh
 | call dst g f xs=>
  simp only [AI.reads,List.mem_append]at h
  exact yZ (fun t ht=>h t (.inl ht)) (fun e=>by rw [← Fw fun t ht=>h t (.inr ht)];exact e) hh
 | nil dst g n x=>exact hh
 | iS dst g t xs=>exact hh
theorem qf {ai:AI} {tm bt:Tm} {s:St} (h : ∀ t∈ai.reads,tm.get t=bt.get t):jo ai tm s=jo ai bt s:=by
 cases ai with
 | op dst g o=>
  simp only [AI.reads,List.mem_append]at h
  have he:=BH (s:=s) fun t ht=>h t (.inr ht)
  cases g with
  | none=>simp only [jo,he]
  | some p=>
   obtain⟨t,want⟩:=p
   simp only [jo,he,h t (.inl (by simp [uh]))]
 | call dst g f xs=>rfl
 | nil dst g n x=>rfl
 | iS dst g t xs=>rfl
theorem KH {dst:Option Nat} {g:Option (Nat×Bool)} {o:AO} (h:gK (AI.op dst g o).kind=false):(AI.op dst g o).kind=o.kind:=by
 unfold AI.kind at *
 split at h
 ·cases h
 ·rename_i heq;cases heq;rfl
 ·cases h
theorem Sc {ai:AI} (hk:ai.kind = .pure) {tm:Tm} {s s':St} : jo ai tm s=jo ai tm s':=by
 cases ai with
 | op dst g o=>
  have ho:o.kind = .pure:=by rw [← hk];exact(KH (by rw [hk];rfl)).symm
  have he:=L8 ho (tm:=tm) (s:=s) (s':=s')
  cases g with
  | none=>simp only [jo,he]
  | some p=>simp only [jo,he]
 | call dst g f xs=>rfl
 | nil dst g n x=>rfl
 | iS dst g t xs=>rfl
theorem apart_spec {a q:AI} (h:a.apart q=true):(∀ t,a.dst=some t→t∉q.reads)∧(∀ t,q.dst=some t→t∉a.reads)∧(∀ t,a.dst=some t→q.dst≠some t):=by
 unfold AI.apart at h
 simp only [Bool.and_eq_true]at h
 obtain⟨⟨h1,h2⟩,h3⟩:=h
 refine⟨fun t e=> ?_,fun t e=> ?_,fun t e e'=> ?_⟩
 ·rw [e]at h1;simpa [Cy]using h1
 ·rw [e]at h2;simpa [Cy]using h2
 ·rw [e,e']at h3;simp at h3
theorem sa {tm:Tm} {dst:Option Nat} {d:D} {l:List Nat} (h : ∀ t,dst=some t→t∉l) : ∀ t∈l,tm.get t=(tm.put dst d).get t:=fun t ht=>by
 rw [Tm.kL,if_neg fun e=>h t e ht]
section
variable {P:Program} {is:List AI} {K:Tm→St→Prop}
theorem sb (hK : ∀ tm bt s,Tm.eqv tm bt→K tm s→K bt s) : ∀ (R:List (Nat×Nat)) (bD:List St) (tm bt:Tm) (s:St),tm.eqv bt→kl P is K R bD tm s→kl P is K R bD bt s
 | [],_,tm,bt,s,e,h=>hK tm bt s e h
 | (q,b)::R,bD,tm,bt,s,e,h=>by
  unfold kl at *
  split at h
  ·exact h.elim
  ·rename_i ai vu
   split at h
   ·rename_i hc
    obtain⟨d,s',h1,h2⟩:=h
    exact⟨d,s',wh (fun t _=>e t) h1,sb hK R _ _ _ _ (e.put _ d) h2⟩
   ·rename_i hc
    obtain⟨d,h1,h2,h3⟩:=h
    refine⟨d, ?_,fun hl s' oh=> ?_,sb hK R _ _ _ _ (e.put _ d) h3⟩
    ·rw [← qf fun t _=>e t];exact h1
    ·rw [← qf fun t _=>e t];exact h2 hl s' oh
theorem HW (i:Nat) (l:List Nat):je is (i::l)=(if gK (iT is i)then 1 else 0)+je is l:=by
 unfold je
 rw [List.filter_cons]
 split <;> simp <;> omega
theorem wi (hK : ∀ tm bt s,Tm.eqv tm bt→K tm s→K bt s) {q b:Nat} {ai:AI} (hq:is[q]? = some ai) (hm:gK ai.kind=false) (Y:List (Nat×Nat)) :
 ∀ (X:List (Nat×Nat)) (bD:List St) (tm:Tm) (s:St),(∀ a∈X,kG is a.1 q=true)→(ai.kind = .load→je is (X.map (·.1))≤b)→
  kl P is K (X++(q,b)::Y) bD tm s→
  ∃ d,jo ai tm s=some d∧(ai.kind = .load→∀ s'∈bD.take (b - je is (X.map (·.1))),jo ai tm s'=some d)∧kl P is K (X++Y) bD (tm.put ai.dst d) s
 | [],bD,tm,s,_,_,h=>by
  simp only [List.nil_append,kl,hq,hm]at h
  obtain⟨d,h1,h2,h3⟩:=h
  exact⟨d,h1,fun hl s' oh=>h2 hl s' (by simpa [je]using oh),h3⟩
 | (a,c)::X,bD,tm,s,fZ,hb,h=>by
  have L9:=fZ (a,c) (by simp)
  unfold kG at L9
  split at L9
  ·rename_i ia iq hia tt
   rw [hq]at tt
   cases tt
   obtain⟨p1,p2,p3⟩:=apart_spec L9
   have zQ:iT is a=ia.kind:=by simp [iT,hia]
   have G2 : ∀ x∈X,kG is x.1 q=true:=fun x hx=>fZ x (List.mem_cons_of_mem _ hx)
   rw [List.map_cons,HW,zQ]at hb ⊢
   simp only [List.cons_append,kl,hia]at h ⊢
   cases hc:gK ia.kind
   ·simp only [hc,Bool.false_eq_true,if_false,Nat.zero_add]at h hb ⊢
    obtain⟨d,h1,h2,h3⟩:=h
    obtain⟨e,g1,g2,g3⟩:=wi hK hq hm Y X bD _ s G2 hb h3
    have cg : ∀ s,jo ai tm s=jo ai (tm.put ia.dst d) s:=fun s=>qf (sa p1)
    have cg' : ∀ s,jo ia tm s=jo ia (tm.put ai.dst e) s:=fun s=>qf (sa p2)
    refine⟨e,by rw [cg];exact g1,fun hl s' oh=>by rw [cg];exact g2 hl s' oh,d,by rw [← cg'];exact h1,fun hl s' oh=>by rw [← cg'];exact h2 hl s' oh, ?_⟩
    exact sb hK _ _ _ _ _ (Tm.HV tm p3 d e) g3
   ·simp only [hc,if_true]at h hb ⊢
    obtain⟨d,s1,h1,h3⟩:=h
    obtain⟨e,g1,g2,g3⟩:=wi hK hq hm Y X (s::bD) _ s1 G2 (fun hl=>by have:=hb hl;omega) h3
    have cg : ∀ s,jo ai tm s=jo ai (tm.put ia.dst d) s:=fun s=>qf (sa p1)
    have pI:jo ai tm s=some e:=by
     cases hk:ai.kind with
     | pure=>rw [cg,Sc hk (s':=s1)];exact g1
     | load=>
      have:=hb hk
      rw [cg]
      refine g2 hk s ?_
      rw [show b - je is (X.map (·.1))=(b - (1+je is (X.map (·.1))))+1 by omega,List.take_succ_cons]
      exact List.mem_cons_self
     | alloc=>rw [hk]at hm;cases hm
     | core=>rw [hk]at hm;cases hm
    refine⟨e,pI,fun hl s' oh=> ?_,d,s1,wh (sa p2) h1,sb hK _ _ _ _ _ (Tm.HV tm p3 d e) g3⟩
    have:=hb hl
    rw [cg]
    refine g2 hl s' ?_
    rw [show b - je is (X.map (·.1))=(b - (1+je is (X.map (·.1))))+1 by omega,List.take_succ_cons]
    exact List.mem_cons_of_mem _ oh
  ·cases L9
end
end Go.Abs

/-! Par1 -/

namespace Go.Abs
section
variable {P:Program}
theorem Pe {o:Oper} {z:List D} (h:CA P o=some (.alloc z)) : ∃ t,o.op = .alloc t∧zeroOf P t=some z:=by
 obtain⟨dst,op,type,pos,after,guard⟩:=o
 unfold CA at h
 simp only at h
 split at h
 case h_4 t=>
  split at h
  ·obtain⟨z',h1,h2⟩:=map_some h;cases h2
  ·obtain⟨z',h1,h2⟩:=map_some h;cases h2;exact⟨t,rfl,h1⟩
 all_goals
  first
   | (rw [Option.map_eq_some_iff]at h;obtain⟨_,_,h⟩:=h;cases h)
   | skip
 all_goals
  (repeat' (split at h)) <;> first | (cases h;done) | (rw [Option.map_eq_some_iff]at h;obtain⟨_,_,h⟩:=h;cases h)
theorem zY {nt:Nat} {ops:Array Oper} {o:Oper} {ai:AI} (h:cI P nt ops o=some ai) :
 ∃ g,ui ops o.guard=some g∧(∀ t,o.dst=some t→t<nt)∧rT P ops o g=some ai:=by
 have h2:=xd h
 unfold cI at h
 split at h
 ·cases h
 ·rename_i g hg
  split at h
  ·exact⟨g,hg,h2,h⟩
  ·cases h
theorem sE {ops:Array Oper} {o:Oper} {g:Option (Nat×Bool)} {ai:AI} (h:rT P ops o g=some ai):ai.dst=o.dst:=by
 unfold rT at h
 split at h
 ·split at h
  ·obtain⟨xs,_,rfl⟩:=map_some h;rfl
  ·cases h
 ·obtain⟨xs,_,rfl⟩:=map_some h;rfl
 ·split at h
  ·cases h;rfl
  ·split at h
   ·cases h;rfl
   ·cases h;rfl
   ·cases h
theorem sF {nt:Nat} {ops:Array Oper} {o:Oper} {ai:AI} (h:cI P nt ops o=some ai):ai.dst=o.dst:=by
 obtain⟨g,_,_,h⟩:=zY h
 exact sE h
theorem wj {nt:Nat} {ops:Array Oper} {i:Nat} {o:Oper} {ai:AI} (hi:ops[i]? = some o) (hc:cI P nt ops o=some ai)
 {M:Map} {s:St} {w:World} {tm:Tm} {act:Act} (r:Rel M s w) (jR:Laid M s w) (ht:lq M s tm act.tmps) {K':Tm→St→Prop} (h:iG P [ai] K' tm s)
 {K:Act→World→Prop} {Q:Exit→Act→World→Prop}
 (hK : ∀ d v s1 w1 M1,K' (tm.put ai.dst d) s1→Ext M s w M1 s1 w1→Rel M1 s1 w1→RD M1 s1 d v→K (act.put o.dst v) w1):wpOp P ops Q i K act w:=by
 obtain⟨g,hg,_,hb⟩:=zY hc
 rw [sE hb]at hK
 simp only [wpOp,hi]
 have skip:K' (tm.put o.dst (.tuple [])) s→K (act.put o.dst Go.undef) w:=fun hk=>hK _ _ _ _ _ hk (Ext.refl M s w) r .undef
 unfold rT at hb
 split at hb
 ·rename_i f args ny lX
  split at hb
  ·rename_i x8
   obtain⟨xs,nW,rfl⟩:=map_some hb
   simp only [iG]at h
   rcases jB hg ht h with ⟨hw,hA⟩ | ⟨hw,hB⟩
   ·simp only [hw,if_true]
    left
    have hex:(execOp act.eval o).run P w = .ok (.enter f (args.map act.eval)) w:=by
     obtain⟨dst,op,type,pos,after,guard⟩:=o
     simp only at lX
     subst lX
     exact wc act.eval dst f args ny type pos after guard rfl x8 w
    obtain⟨c1,c2⟩:=vt ht nW
    unfold Oper.wp
    rw [hex,Oper.upon_enter]
    refine(hA M w (args.map act.eval) r jR (by simp [c1]) (fun i d v e1 e2=>c2 i d v e1 (by simpa using e2))).mono ?_
    rintro en w' ⟨M',d,v,s',rfl,hk,e',r',hv⟩
    exact hK _ _ _ _ _ hk e' r' hv
   ·simp only [hw]
    exact skip hB
  ·cases hb
 ·rename_i t args ny lX
  obtain⟨xs,nW,rfl⟩:=map_some hb
  simp only [iG]at h
  rcases jB hg ht h with ⟨hw,hA⟩ | ⟨hw,hB⟩
  ·simp only [hw,if_true]
   left
   split at hA
   ·rename_i f mW tn
    obtain⟨x8,hA⟩:=hA
    have O3:=ht t
    rw [tn]at O3
    obtain⟨vs,sy,hlen,CT⟩:=O3.Kv
    have hex:(execOp act.eval o).run P w = .ok (.enter f (args.map act.eval++vs)) w:=by
     obtain⟨dst,op,type,pos,after,guard⟩:=o
     simp only at lX
     subst lX
     exact zT act.eval dst (.tmp t) f vs args ny type pos after guard sy x8 w
    have cc:=Ft nW ht hlen CT
    unfold Oper.wp
    rw [hex,Oper.upon_enter]
    refine(hA M w (args.map act.eval++vs) r jR cc.1 cc.2).mono ?_
    rintro en w' ⟨M',d,v,s',rfl,hk,e',r',hv⟩
    exact hK _ _ _ _ _ hk e' r' hv
   ·exact hA.elim
  ·simp only [hw]
   exact skip hB
 ·split at hb
  ·rename_i neg x HM
   cases hb
   simp only [iG]at h
   rcases jB hg ht h with ⟨hw,hA⟩ | ⟨hw,hB⟩
   ·simp only [hw,if_true]
    left
    split at hA
    ·rename_i g' z rows hx
     obtain⟨b,hb,hex⟩:=yW (w:=w) HM ht hx
     unfold Oper.wp
     rw [hex,Oper.upon_value]
     exact hK _ _ _ _ _ (hA b hb) (Ext.refl M s w) r (.bool _)
    ·exact hA.elim
   ·simp only [hw]
    exact skip hB
  ·have fin : ∀ ao,ai = .op o.dst g ao→(∀ d s',aW ao tm s=some (d,s')→db P M s w (execOp act.eval o) d s')→
    (if Region.wanted o (yielded ops act.tmps)=true then o.wp P act w K Q∨(o.asks P act w∧LetsOut Q)else K (act.put o.dst Go.undef) w):=by
    intro ao vu ZR
    subst vu
    simp only [iG]at h
    rcases jB hg ht h with ⟨hw,hA⟩ | ⟨hw,hB⟩
    ·simp only [hw,if_true]
     left
     split at hA
     ·rename_i d s' qd
      obtain⟨v,w',M',dn,r',hv,e'⟩:=ZR d s' qd
      unfold Oper.wp
      rcases dn with dn | ⟨dn,rfl⟩
      ·rw [dn,Oper.upon_value]
       exact hK _ _ _ _ _ hA e' r' hv
      ·rw [dn,Oper.upon_skip]
       exact hK _ _ _ _ _ hA e' r' hv
     ·exact hA.elim
    ·simp only [hw]
     exact skip hB
   split at hb
   ·rename_i z k n ps nz
    cases hb
    refine fin _ rfl (fun d s' qd=> ?_)
    split at qd
    ·exact x7 nz r ht qd
    ·exact rX nz r ht qd
   ·rename_i ao nz
    cases hb
    exact fin _ rfl (fun d s' qd=>rX nz r ht qd)
   ·cases hb
structure KI (M:Map) (s:St) (b:Nat):Prop where
 o : ∀ o,o<s.aw.length→M.mu o≠b
 t : ∀ t c z,s.live t→M.be t≠some (b,c,z)
 g : ∀ off,M.G b off=none
theorem KI.mono {M M':Map} {s s':St} {w w':World} {b:Nat} (h:KI M s b) (e:Ext M s w M' s' w') (hb:b<w.heap.size):KI M' s' b:=by
 refine⟨fun o ho=> ?_,fun t c z hl he=> ?_,fun off=> ?_⟩
 ·rcases e.mo ho with ⟨h1,h2⟩ | h1
  ·rw [h2];exact h.o o h1
  ·omega
 ·rcases e.o7 t b c z hl he with ⟨h1,c',z',h2⟩ | h1
  ·exact h.t t c' z' h1 h2
  ·omega
 ·by_cases hg:M'.G b off=M.G b off
  ·rw [hg];exact h.g off
  ·rcases e.pS b off hg with h1 | ⟨t,c,z,h1,h2⟩
   ·omega
   ·exact(h.t t c z h1 h2).elim
theorem Rel.idle {M:Map} {s:St} {w:World} (r:Rel M s w) (x:Obj):Rel M s (w.alloc x)∧Ext M s w M s (w.alloc x)∧KI M s w.heap.size:=by
 refine⟨⟨fun b o v e=> ?_,fun o ds e=> ?_,r.ji,r.inj,fun t n e=> ?_,r.eW,r.fR⟩, ?_,⟨fun o ho=> ?_,fun t c z hl e=> ?_,fun off=>r.Lt (Nat.le_refl _) off⟩⟩
 ·obtain⟨h3,h4⟩:=r.comm b o v e
  refine⟨?_,h4⟩
  rw [World.cell?_alloc_lt]
  ·exact h3
  ·exact r.B0 e
 ·obtain⟨vs,T,h3,h4,h5,h6⟩:=r.obj o ds e
  exact⟨vs,T,h3.keep (heap_alloc_old w _ _ h3.lt),h4,h5,h6⟩
 ·rcases r.tok t n e with h3 | ⟨b,cap,size,fy,T',h3,h4,h5⟩
  ·exact .inl h3
  ·exact .inr ⟨b,cap,size,fy,T',h3,by rw [heap_alloc_old w _ _ (kj h4)];exact h4,h5⟩
 ·exact⟨Le.refl M s,fun b hb _ _=>heap_alloc_old w _ b hb,fun o h3 h4=>by rcases h3 with h3 | h3;omega;exact(h3 rfl).elim,fun t b c z h e=> .inl ⟨h,c,z,e⟩,fun _ _ h=>(h rfl).elim,by simp,rfl,rfl,rfl⟩
 ·have:=r.pF ho;omega
 ·have:=r.rU hl e;omega
theorem Rel.ad6 {M:Map} {s:St} {w:World} (r:Rel M s w) {B:fv} (e:Ext B.M B.s B.w M s w) {b:Nat} (u:KI M s b) (hb:B.w.heap.size≤b)
 (ds:List D) (vs:Array Value) (T:TypeId) (hh:w.heap[b]? = some (.cells vs T (0,0))) (hl:vs.size=ds.length) (h1 : ∀ v∈vs,v.oneCell'=true)
 (h2 : ∀ (i:Nat) (d:D) (v:Value),ds[i]? = some d→vs[i]? = some v→RD M s d v) :
 Rel (M.dN s.aw.length b) {s with aw:=s.aw++ [ds]} w∧Ext B.M B.s B.w (M.dN s.aw.length b) {s with aw:=s.aw++ [ds]} w∧
 Le M s (M.dN s.aw.length b) {s with aw:=s.aw++ [ds]}:=by
 have le:=rp (M:=M) s b ds
 have mb : ∀ o,o<s.aw.length→(M.dN s.aw.length b).mu o=M.mu o:=fun o ho=>congrArg Prod.fst (sr M b .any ho)
 have dF:(M.dN s.aw.length b).mu s.aw.length=b:=by simp [Map.dN,Map.mu]
 refine⟨⟨r.comm,fun o mS e'=> ?_,fun o ho off=> ?_,fun o o' ho mT e'=> ?_,r.tok,fun t b' c z o hl e' ho=> ?_,r.fR⟩, ?_,le⟩
 ·rcases Nat.lt_or_ge o s.aw.length with ho | ho
  ·rw [List.getElem?_append_left ho]at e'
   obtain⟨fy,T',h3,h4,h5,h6⟩:=r.obj o mS e'
   refine⟨fy,T', ?_,h4,⟨h5.1,by rw [le.ty o ho];exact h5.2⟩,fun i d v e1 e2=>(h6 i d v e1 e2).mono le⟩
   rw [sr M b .any ho];exact h3
  ·rw [List.getElem?_append_right ho]at e'
   have:o=s.aw.length:=by
    have:=(List.getElem?_eq_some_iff.1 e').1
    simp at this;omega
   subst this
   simp at e';subst e'
   refine⟨vs,T, ?_,hl,⟨h1,fun T' h=>by simp [Map.dN,Map.ty,Ob.ty?]at h⟩,fun i d v e1 e2=>(h2 i d v e1 e2).mono le⟩
   have hl:(M.dN s.aw.length b).loc s.aw.length=(b, .any):=by simp [Map.dN]
   rw [hl];exact ik.of hh trivial
 ·simp at ho
  rcases Nat.lt_or_ge o s.aw.length with h3 | h3
  ·rw [mb o h3];exact r.ji o h3 off
  ·have:o=s.aw.length:=by omega
   subst this
   rw [dF];exact u.g off
 ·simp at ho mT
  rcases Nat.lt_or_ge o s.aw.length with h3 | h3 <;> rcases Nat.lt_or_ge o' s.aw.length with h4 | h4
  ·rw [mb o h3,mb o' h4]at e';exact r.inj o o' h3 h4 e'
  ·have:o'=s.aw.length:=by omega
   subst this
   rw [mb o h3,dF]at e'
   exact(u.o o h3 e').elim
  ·have:o=s.aw.length:=by omega
   subst this
   rw [mb o' h4,dF]at e'
   exact(u.o o' h4 e'.symm).elim
  ·omega
 ·simp at ho
  rcases Nat.lt_or_ge o s.aw.length with h3 | h3
  ·rw [mb o h3];exact r.eW t b' c z o hl e' h3
  ·have:o=s.aw.length:=by omega
   subst this
   rw [dF]
   intro he
   subst he
   exact u.t t c z hl e'
 ·refine⟨e.le.trans le,e.kept,fun o h3 h4=> ?_,e.o7,e.pS,e.size,e.os,e.tape,e.output⟩
  simp at h4
  rcases Nat.lt_or_ge o s.aw.length with h5 | h5
  ·rw [mb o h5]at h3 ⊢;exact e.pR o h3 h5
  ·have:o=s.aw.length:=by omega
   subst this
   rw [dF];exact hb
theorem JP {nt:Nat} {ops:Array Oper} {i:Nat} {o:Oper} {t:Nat} {z:List D} (hi:ops[i]? = some o) (hc:cI P nt ops o=some (.op (some t) none (.alloc z)))
 {w:World} {act:Act} {K:Act→World→Prop} {Q:Exit→Act→World→Prop}
 (hK : ∀ vs T,vs.size=z.length→(∀ v∈vs,v.oneCell'=true)→(∀ (M:Map) (s:St) (i:Nat) (d:D) (v:Value),z[i]? = some d→vs[i]? = some v→RD M s d v)→
  K (act.put (some t) (.pointer (some ⟨w.heap.size,0,none⟩))) (w.alloc (.cells vs T))):wpOp P ops Q i K act w:=by
 obtain⟨g,hg,_,hb⟩:=zY hc
 have pX:=sE hb
 simp only [AI.dst]at pX
 simp only [wpOp,hi]
 have lX:g=none∧CA P o=some (.alloc z):=by
  unfold rT at hb
  split at hb
  ·split at hb
   ·obtain⟨xs,_,h⟩:=map_some hb;cases h
   ·cases hb
  ·obtain⟨xs,_,h⟩:=map_some hb;cases h
  ·split at hb
   ·cases hb
   ·split at hb
    ·rename_i nz
     simp only [Option.some.injEq,AI.op.injEq]at hb
     obtain⟨_,_,h⟩:=hb
     split at h <;> cases h
    ·rename_i ao nz
     simp only [Option.some.injEq,AI.op.injEq]at hb
     obtain⟨_,h1,h2⟩:=hb
     subst h2
     exact⟨h1,nz⟩
    ·cases hb
 obtain⟨rfl,nz⟩:=lX
 obtain⟨T,hT,hz⟩:=Pe nz
 have hw:Region.wanted o (yielded ops act.tmps)=true:=by
  have:o.guard=none:=by
   cases Fm:o.guard with
   | none=>rfl
   | some p=>
    obtain⟨j,b⟩:=p
    rw [Fm]at hg
    unfold ui at hg
    simp only at hg
    split at hg <;> cases hg
  simp [Region.wanted,this]
 simp only [hw,if_true]
 left
 unfold zeroOf at hz
 split at hz
 ·rename_i inf LX
  split at hz
  ·rename_i v hv
   split at hz
   ·have dn:(execOp act.eval o).run P w = .ok (.value (.pointer (some ⟨w.heap.size,0,none⟩))) (w.alloc (.cells v.cells T)):=by
     obtain⟨dst,op,type,pos,after,guard⟩:=o
     simp only at hT
     subst hT
     simp [execOp,Instr.alloc,zeroValue,fT P LX,hv,newVar,newRow]
    have h3:=fun M s=>kJ (M:=M) (s:=s) hz
    obtain⟨h1,h2,_⟩:=h3 ⟨fun _ _=>none,fun _=>(0, .any),fun _=>none⟩ ⟨[],[]⟩
    unfold Oper.wp
    rw [dn,Oper.upon_value, ← pX]
    exact hK _ _ (by rw [h1];simp) (fun u hu=>h2 u (by simpa using hu)) (fun M s i d u e1 e2=>(h3 M s).2.2 i d u e1 (by simpa using e2))
   ·cases hz
  ·cases hz
 ·cases hz
end
end Go.Abs

/-! Par2 -/

namespace Go.Abs
section
variable {is:List AI} {af pt:List (List Nat)}
theorem za {pq:List Nat} {l l':List Nat} (h:l'.Sublist l) (hb:kz is pq l=true):kz is pq l'=true:=by
 induction h with
 | slnil=>rfl
 | cons a h ih=>
  simp only [kz,Bool.and_eq_true]at hb
  exact ih hb.2
 | cons_cons a h ih=>
  simp only [kz,Bool.and_eq_true,Bool.or_eq_true]at hb ⊢
  refine⟨hb.1.imp id fun h1=> ?_,ih hb.2⟩
  rw [List.all_eq_true]at h1 ⊢
  exact fun x hx=>h1 x (h.subset hx)
theorem A6 {f:Nat→Bool} {l l':List Nat} (h:l'.Sublist l) (ha:l.all f=true):l'.all f=true:=by
 rw [List.all_eq_true]at ha ⊢
 exact fun x hx=>ha x (h.subset hx)
theorem JQ {l l':List Nat} (h:l'.Sublist l):je is l'≤je is l:=(h.filter _).length_le
theorem Ma {pre Es:List Nat} {q b:Nat} (h:Es.Sublist pre) (hs:oe is pt pre q b=true):oe is pt Es q b=true:=by
 unfold oe at *
 split at hs
 ·exact A6 h hs
 ·exact A6 h hs
 ·simp only [Bool.and_eq_true]at hs ⊢
  exact⟨A6 h hs.1,za h hs.2⟩
 ·simp only [Bool.and_eq_true,decide_eq_true_eq]at hs ⊢
  exact⟨⟨A6 h hs.1.1,za h hs.1.2⟩,Nat.le_trans (JQ (h.filter _)) hs.2⟩
theorem HX : ∀ {R:List (Nat×Nat)} {pre Es:List Nat},Es.Sublist pre→tf is af pt pre R=true→tf is af pt Es R=true
 | [],_,_,_,_=>rfl
 | (q,b)::R,pre,Es,h,ho=>by
  simp only [tf,Bool.and_eq_true,Bool.not_eq_true']at ho ⊢
  obtain⟨⟨⟨h1,h2⟩,h3⟩,h4⟩:=ho
  refine⟨⟨⟨Ma h h1, ?_⟩,h3⟩,HX (h.cons_cons q) h4⟩
  rw [← Bool.not_eq_true,List.contains_iff_mem]at h2 ⊢
  exact fun hm=>h2 (h.subset hm)
theorem Et : ∀ {X:List (Nat×Nat)} {e:Nat×Nat} {Y:List (Nat×Nat)} {pre:List Nat},tf is af pt pre (X++e::Y)=true→tf is af pt pre (X++Y)=true
 | [],(q,b),Y,pre,h=>by
  simp only [List.nil_append,tf,Bool.and_eq_true]at h
  exact HX (List.sublist_cons_self q pre) h.2
 | (a,c)::X,e,Y,pre,h=>by
  simp only [List.cons_append,tf,Bool.and_eq_true]at h ⊢
  obtain⟨⟨⟨h1,h2⟩,h3⟩,h4⟩:=h
  refine⟨⟨⟨h1,h2⟩, ?_⟩,Et h4⟩
  rw [List.all_eq_true]at h3 ⊢
  intro j hj
  have:=h3 j hj
  simp only [Bool.and_eq_true,Bool.not_eq_true']at this ⊢
  refine⟨this.1, ?_⟩
  have h5:=this.2
  rw [← Bool.not_eq_true,List.contains_iff_mem]at h5 ⊢
  refine fun hm=>h5 ?_
  simp only [List.map_append,List.map_cons,List.mem_append,List.mem_cons]at hm ⊢
  exact hm.imp id .inr
theorem sG : ∀ {X:List (Nat×Nat)} {q b:Nat} {Y:List (Nat×Nat)} {pre:List Nat},tf is af pt pre (X++(q,b)::Y)=true→
 oe is pt ((X.map (·.1)).reverse++pre) q b=true∧q∉X.map (·.1)∧q∉pre∧(∀ j∈gR af q,j≠q∧j∉Y.map (·.1))∧tf is af pt (q::((X.map (·.1)).reverse++pre)) Y=true
 | [],q,b,Y,pre,h=>by
  simp only [List.nil_append,tf,Bool.and_eq_true,Bool.not_eq_true']at h
  obtain⟨⟨⟨h1,h2⟩,h3⟩,h4⟩:=h
  rw [← Bool.not_eq_true,List.contains_iff_mem]at h2
  refine⟨h1,by simp,h2,fun j hj=> ?_,h4⟩
  rw [List.all_eq_true]at h3
  have:=h3 j hj
  simp only [Bool.and_eq_true,bne_iff_ne,Bool.not_eq_true', ← Bool.not_eq_true,List.contains_iff_mem]at this
  exact this
 | (a,c)::X,q,b,Y,pre,h=>by
  simp only [List.cons_append,tf,Bool.and_eq_true]at h
  obtain⟨_,h4⟩:=h
  obtain⟨g1,g2,g3,g4,g5⟩:=sG h4
  simp only [List.map_cons,List.reverse_cons,List.append_assoc,List.singleton_append]
  refine⟨g1, ?_,fun h=>g3 (List.mem_cons_of_mem _ h),g4,g5⟩
  intro hm
  rcases List.mem_cons.1 hm with rfl | hm
  ·exact g3 (by simp)
  ·exact g2 hm
theorem A7 : ∀ {Y:List (Nat×Nat)} {pre:List Nat},tf is af pt pre Y=true→∀ x∈Y,x.1∉pre∧(iT is x.1 = .alloc→∀ a∈pre,kG is a x.1=true)
 | [],_,_,x,hx=>by cases hx
 | (q,b)::Y,pre,h,x,hx=>by
  simp only [tf,Bool.and_eq_true,Bool.not_eq_true']at h
  obtain⟨⟨⟨h1,h2⟩,_⟩,h4⟩:=h
  rw [← Bool.not_eq_true,List.contains_iff_mem]at h2
  rcases List.mem_cons.1 hx with rfl | hx
  ·refine⟨h2,fun hk a ha=> ?_⟩
   unfold oe at h1
   simp only [hk]at h1
   rw [List.all_eq_true]at h1
   exact h1 a ha
  ·obtain⟨g1,g2⟩:=A7 h4 x hx
   exact⟨fun h=>g1 (List.mem_cons_of_mem _ h),fun hk a ha=>g2 hk a (List.mem_cons_of_mem _ ha)⟩
theorem BI : ∀ {n:Nat},wV af pt n=true→∀ i,i<n→∀ j∈gR pt i,j∈gR af i∨∃ k∈gR af i,j∈gR pt k
 | 0,_,i,hi=>by omega
 | n+1,h,i,hi=>by
  simp only [wV,Bool.and_eq_true]at h
  rcases Nat.lt_or_ge i n with h1 | h1
  ·exact BI h.2 i h1
  ·have:i=n:=by omega
   subst this
   intro j hj
   have:=h.1
   rw [List.all_eq_true]at this
   have:=this j hj
   simp only [Bool.or_eq_true,List.contains_iff_mem,List.any_eq_true]at this
   exact this
theorem xi {pq:List Nat} : ∀ {l:List Nat},kz is pq l=true→∀ (x:Nat) (l1 l2:List Nat),l=l1++x::l2→iT is x = .alloc→x∈pq→∀ y∈l2,y∈pq
 | [],_,x,l1,l2,h=>by simp at h
 | a::l,hb,x,l1,l2,h=>by
  simp only [kz,Bool.and_eq_true,Bool.or_eq_true,Bool.not_eq_true',Bool.and_eq_false_iff]at hb
  intro hk hx y hy
  cases l1 with
  | nil=>
   simp only [List.nil_append,List.cons.injEq]at h
   obtain⟨rfl,rfl⟩:=h
   rcases hb.1 with h1 | h1
   ·rcases h1 with h1 | h1
    ·simp [hk]at h1
    ·rw [← Bool.not_eq_true,List.contains_iff_mem]at h1
     exact(h1 hx).elim
   ·rw [List.all_eq_true]at h1
    have:=h1 y hy
    rwa [List.contains_iff_mem]at this
  | cons b l1=>
   simp only [List.cons_append,List.cons.injEq]at h
   exact xi hb.2 x l1 l2 h.2 hk hx y hy
end
structure Pd where
 q:Nat
 t:Nat
 z:List D
 b:Nat
structure ZW (is:List AI) (R:List (Nat×Nat)) (B:fv) (M:Map) (s:St) (act:Act) (w:World) (p:Pd):Prop where
 mem:p.q∈R.map (·.1)
 ai:is[p.q]? = some (.op (some p.t) none (.alloc p.z))
 cells : ∃ (vs:Array Value) (T:TypeId),w.heap[p.b]? = some (.cells vs T (0,0))∧vs.size=p.z.length∧(∀ v∈vs,v.oneCell'=true)∧
  ∀ (M:Map) (s:St) (i:Nat) (d:D) (v:Value),p.z[i]? = some d→vs[i]? = some v→RD M s d v
 unk:KI M s p.b
 base:B.w.heap.size≤p.b
 slot:act.tmps.getD p.t Go.undef = .pointer (some ⟨p.b,0,none⟩)
def ya (P:Program) (is:List AI) (K:Tm→St→Prop) (B:fv) (nt:Nat) (R:List (Nat×Nat)) (dX:List Pd) (act:Act) (w:World):Prop:=
 ∃ (M:Map) (s:St) (tm sH:Tm) (bD:List St),Ext B.M B.s B.w M s w∧Rel M s w∧lq M s sH act.tmps∧(∀ t,(∀ p∈dX,p.t≠t)→sH.get t=tm.get t)∧
  act.tmps.size=nt∧act.defers = []∧kl P is K R bD tm s∧(∀ p∈dX,ZW is R B M s act w p)∧
  (∀ p∈dX,∀ p'∈dX,p.q=p'.q∨p.t=p'.t∨p.b=p'.b→p=p')
structure qz (is:List AI) (af pt:List (List Nat)) (dq:Array Bool) (R:List (Nat×Nat)) (dX:List Pd):Prop where
 ok:tf is af pt [] R=true
 Fx : ∀ i,i<is.length→(dq.getD i false=true↔(i∉R.map (·.1)∨∃ p∈dX,p.q=i))
 cl : ∀ i,i<is.length→dq.getD i false=true→∀ j∈gR pt i,dq.getD j false=true
 size:dq.size=is.length
 lt : ∀ x∈R,x.1<is.length
section
variable {P:Program} {is:List AI} {af pt:List (List Nat)} {K:Tm→St→Prop} {B:fv} {nt:Nat}
theorem ZX {dq:Array Bool} {q b:Nat} {R:List (Nat×Nat)} {dX:List Pd} {act:Act} {w:World} (hs:qz is af pt dq ((q,b)::R) dX) (h:ya P is K B nt ((q,b)::R) dX act w)
 {p:Pd} (hp:p∈dX) (tu:p.q=q) :
 qz is af pt dq R (dX.filter fun p'=>decide (p'.q≠q))∧ya P is K B nt R (dX.filter fun p'=>decide (p'.q≠q)) act w:=by
 have nN : ∀ p',p'∈(dX.filter fun p'=>decide (p'.q≠q))↔p'∈dX∧p'.q≠q:=fun p'=>by simp
 constructor
 ·have BE:=hs.ok
  have yc:=sG (X:= []) BE
  refine⟨Et (X:= []) BE,fun i hi=> ?_,hs.cl,hs.size,fun x hx=>hs.lt x (List.mem_cons_of_mem _ hx)⟩
  rw [hs.Fx i hi]
  simp only [List.map_cons,List.mem_cons,not_or]
  have ZY:q∉R.map (·.1):=fun hm=>by
   obtain⟨x,hx,rfl⟩:=List.mem_map.1 hm
   exact(A7 yc.2.2.2.2 x hx).1 (by simp)
  constructor
  ·rintro(⟨h1,h2⟩ | ⟨p',h1,h2⟩)
   ·exact .inl h2
   ·by_cases hq:i=q
    ·subst hq;exact .inl ZY
    ·exact .inr ⟨p',(nN p').2 ⟨h1,by rw [h2];exact hq⟩,h2⟩
  ·rintro(h1 | ⟨p',h1,h2⟩)
   ·by_cases hq:i=q
    ·subst hq;exact .inr ⟨p,hp,tu⟩
    ·exact .inl ⟨hq,h1⟩
   ·exact .inr ⟨p',((nN p').1 h1).1,h2⟩
 ·obtain⟨M,s,tm,sH,bD,e,r,ht,pI,hn,hd,hg,vw,sc⟩:=h
  have hk:=vw p hp
  obtain⟨vs,T,hh,hl,h1,h2⟩:=hk.cells
  have vu:=hk.ai
  rw [tu]at vu
  simp only [kl,vu,AI.kind,gK]at hg
  obtain⟨d,s',su,hg⟩:=hg
  have qd:aW (.alloc p.z) tm s=some (d,s'):=su
  simp only [aW,Option.some.injEq,Prod.mk.injEq]at qd
  obtain⟨rfl,rfl⟩:=qd
  obtain⟨r',e',le⟩:=r.ad6 e hk.unk hk.base p.z vs T hh hl h1 (h2 M s)
  refine⟨_,_,_,sH.put (some p.t) (.ptr s.aw.length 0),_,e',r',fun u=> ?_,fun t ZZ=> ?_,hn,hd,hg,fun p' l8=> ?_,fun p1 h1 p2 h2=>sc p1 ((nN p1).1 h1).1 p2 ((nN p2).1 h2).1⟩
  ·rw [Tm.kL]
   split
   ·rename_i heq
    cases heq
    rw [hk.slot]
    have:(M.dN s.aw.length p.b).mu s.aw.length=p.b:=by simp [Map.dN,Map.mu]
    have h5:=RD.ptr (M:=M.dN s.aw.length p.b) (s:= {s with aw:=s.aw++ [p.z]}) s.aw.length 0 (by simp) (by simp [Map.dN,Map.ob,Ob.plain])
    rw [this]at h5
    exact h5
   ·exact(ht u).mono le
  ·simp only [AI.dst]
   rw [Tm.kL,Tm.kL]
   split
   ·rfl
   ·rename_i eJ
    refine pI t fun p' l8=> ?_
    by_cases hq:p'.q=q
    ·have:=sc p' l8 p hp (.inl (hq.trans tu.symm))
     subst this
     exact fun h=>eJ (by rw [h])
    ·exact ZZ p' ((nN p').2 ⟨l8,hq⟩)
  ·obtain⟨hp1,hp2⟩:=(nN p').1 l8
   have td:=vw p' hp1
   refine⟨?_,td.ai,td.cells,⟨fun o ho=> ?_,td.unk.t,td.unk.g⟩,td.base,td.slot⟩
   ·have:=td.mem
    simp only [List.map_cons,List.mem_cons]at this
    exact this.resolve_left hp2
   ·simp at ho
    rcases Nat.lt_or_ge o s.aw.length with h5 | h5
    ·rw [show(M.dN s.aw.length p.b).mu o=M.mu o from congrArg Prod.fst (sr M p.b .any h5)];exact td.unk.o o h5
    ·have:o=s.aw.length:=by omega
     subst this
     have:(M.dN s.aw.length p.b).mu s.aw.length=p.b:=by simp [Map.dN,Map.mu]
     rw [this]
     intro hb
     have:=sc p hp p' hp1 (.inr (.inr hb))
     subst this
     exact hp2 tu
theorem norm {dq:Array Bool} {act:Act} {w:World} : ∀ (R:List (Nat×Nat)) (dX:List Pd),qz is af pt dq R dX→ya P is K B nt R dX act w→
 ∃ R' vx,qz is af pt dq R' vx∧ya P is K B nt R' vx act w∧∀ x l,R'=x::l→∀ p∈vx,p.q≠x.1
 | [],dX,hs,h=>⟨[],dX,hs,h,fun _ _ he=>by cases he⟩
 | (q,b)::R,dX,hs,h=>by
  by_cases hp : ∃ p∈dX,p.q=q
  ·obtain⟨p,hp,tu⟩:=hp
   obtain⟨h1,h2⟩:=ZX hs h hp tu
   exact norm R _ h1 h2
  ·refine⟨(q,b)::R,dX,hs,h,fun x l he p Z0 tu=>hp ⟨p,Z0, ?_⟩⟩
   cases he
   exact tu
theorem Vp {ops:Array Oper} {q:Nat} {o:Oper} {ai:AI} (hi:ops[q]? = some o) (hc:cI P nt ops o=some ai) {R R':List (Nat×Nat)} {dX:List Pd} {act:Act} {w:World} {M:Map} {s s1:St} {tm sH:Tm} {d:D} {Vq:List St}
 (e:Ext B.M B.s B.w M s w) (r:Rel M s w) (ht:lq M s sH act.tmps) (pI : ∀ t,(∀ p∈dX,p.t≠t)→sH.get t=tm.get t) (hn:act.tmps.size=nt) (hd:act.defers = [])
 (vw : ∀ p∈dX,ZW is R B M s act w p) (sc : ∀ p∈dX,∀ p'∈dX,p.q=p'.q∨p.t=p'.t∨p.b=p'.b→p=p')
 (hv:iG P [ai] (fun a b=>a=sH.put ai.dst d∧b=s1) sH s) (hg:kl P is K R' Vq (tm.put ai.dst d) s1)
 (nN : ∀ p∈dX,p.q∈R'.map (·.1)) (pX : ∀ p∈dX,ai.dst≠some p.t) {Q:Exit→Act→World→Prop} :
 wpOp P ops Q q (ya P is K B nt R' dX) act w:=by
 refine wj hi hc r (B.laid.ext e) ht hv fun d' v s2 w1 M1 hk e1 r1 iU=> ?_
 obtain⟨uj,rfl⟩:=hk
 have hde:=sF hc
 have hF : ∀ t,o.dst=some t→t<act.tmps.size:=fun t h=>by rw [hn];exact xd hc t h
 refine⟨M1,s2,tm.put ai.dst d,sH.put ai.dst d,Vq,e.trans e1,r1, ?_,fun t ZZ=> ?_, ?_, ?_,hg,fun p hp=> ?_,sc⟩
 ·rw [← uj,hde]
  exact(ht.mono e1.le).put hF iU
 ·rw [Tm.kL,Tm.kL,pI t ZZ]
 ·cases ho:o.dst <;> simp [Act.put,hn]
 ·cases ho:o.dst <;> simp [Act.put,hd]
 ·have hk:=vw p hp
  obtain⟨vs,T,hh,hl,h1,h2⟩:=hk.cells
  have hb:=kj hh
  refine⟨nN p hp,hk.ai,⟨vs,T,by rw [e1.kept p.b hb hk.unk.o hk.unk.t];exact hh,hl,h1,h2⟩,hk.unk.mono e1 hb,hk.base, ?_⟩
  rw [← hk.slot]
  have:=pX p hp
  rw [hde]at this
  cases ho:o.dst with
  | none=>rfl
  | some t=>
   rw [ho]at this
   have eJ:t≠p.t:=fun h=>this (by rw [h])
   simp [Act.put,Array.getElem?_setIfInBounds_ne eJ]
theorem Mb {ai:AI} (hm:gK ai.kind=false) {tm:Tm} {s:St} {d:D} (h:jo ai tm s=some d):iG P [ai] (fun a b=>a=tm.put ai.dst d∧b=s) tm s:=by
 cases ai with
 | op dst g o=>
  have hko:=KH hm
  have key : ∀ {d},(aW o tm s).map (·.1)=some d→aW o tm s=some (d,s):=by
   intro d h
   cases he:aW o tm s with
   | none=>rw [he]at h;cases h
   | some p=>
    obtain⟨d',s'⟩:=p
    rw [he]at h
    simp only [Option.map_some,Option.some.injEq]at h
    subst h
    rw [JO (by rw [← hko];exact hm) he]
  simp only [iG,AI.dst]
  cases g with
  | none=>
   simp only [jo]at h
   simp only [guarded,key h,and_self]
  | some p=>
   obtain⟨t,want⟩:=p
   simp only [jo]at h
   simp only [guarded]
   split at h
   ·rename_i b hb
    simp only [hb]
    split at h
    ·rename_i heq
     refine⟨fun _=>by simp only [key h,and_self],fun eJ=> ?_⟩
     subst heq
     cases b <;> cases eJ
    ·rename_i eJ
     cases h
     exact⟨fun heq=>(eJ heq).elim,fun _=>by simp⟩
   ·rename_i ds hb
    cases h
    simp only [hb,and_self]
   ·cases h
 | call dst g f xs=>cases hm
 | nil dst g n x=>cases hm
 | iS dst g t xs=>cases hm
theorem zZ {g:Option (Nat×Bool)} {tm:Tm} {A A' C C':Prop} (ha:A→A') (hc:C→C') (hh:guarded g tm A C):guarded g tm A' C':=by
 cases g with
 | none=>exact ha hh
 | some p=>
  obtain⟨t,want⟩:=p
  unfold guarded at *
  simp only at *
  split
  ·rename_i b hb;rw [hb]at hh;exact⟨fun e=>ha (hh.1 e),fun e=>hc (hh.2 e)⟩
  ·rename_i hb;rw [hb]at hh;exact hc hh
  ·rename_i x h1 h2
   split at hh
   ·exact h1 _ ‹_›
   ·exact h2 _ ‹_›
   ·exact hh
theorem HY {ai:AI} {tm:Tm} {s s1:St} {d:D} (h:rZ P ai tm s d s1):iG P [ai] (fun a b=>a=tm.put ai.dst d∧b=s1) tm s:=by
 cases ai with
 | op dst g o=>
  refine zZ (fun e=> ?_) (fun e=> ?_) h
  ·rw [e];exact⟨rfl,rfl⟩
  ·obtain⟨rfl,rfl⟩:=e;exact⟨rfl,rfl⟩
 | call dst g f xs=>
  refine zZ (fun e=> ?_) (fun e=> ?_) h
  ·exact e.mono fun x y hxy=>by obtain⟨rfl,rfl⟩:=hxy;exact⟨rfl,rfl⟩
  ·obtain⟨rfl,rfl⟩:=e;exact⟨rfl,rfl⟩
 | nil dst g n x=>exact h.elim
 | iS dst g t xs=>exact h.elim
end
end Go.Abs

/-! Par3 -/

namespace Go.Abs
section
variable {P:Program} {is:List AI} {af pt:List (List Nat)} {K:Tm→St→Prop} {B:fv} {nt:Nat}
theorem A8 {ops:Array Oper} : ∀ {ol:List Oper} {is:List AI},qo P nt ops ol=some is→is.length=ol.length∧∀ (i:Nat) (o:Oper),ol[i]? = some o→∃ ai,is[i]? = some ai∧cI P nt ops o=some ai
 | [],is,h=>by cases h;exact⟨rfl,by simp⟩
 | o::ol,is,h=>by
  unfold qo at h
  split at h
  ·rename_i ai O2 h1 h2
   cases h
   obtain⟨g1,g2⟩:=A8 h2
   refine⟨by simp [g1],fun i o' ho=> ?_⟩
   cases i with
   | zero=>simp at ho;subst ho;exact⟨ai,rfl,h1⟩
   | succ i=>exact g2 i o' (by simpa using ho)
  ·cases h
theorem sd {dq:Array Bool} {i:Nat} (h:i<dq.size):dq.getD i true=dq.getD i false:=by
 simp [h]
theorem qz.done {dq:Array Bool} {X Y:List (Nat×Nat)} {q b:Nat} {dX:List Pd} (hs:qz is af pt dq (X++(q,b)::Y) dX) (hq:q<is.length)
 (iH : ∀ j∈gR pt q,dq.getD j false=true):qz is af pt (dq.setIfInBounds q true) (X++Y) dX:=by
 obtain⟨g1,g2,g3,g4,g5⟩:=sG hs.ok
 have hqY:q∉Y.map (·.1):=fun hm=>by
  obtain⟨x,hx,rfl⟩:=List.mem_map.1 hm
  exact(A7 g5 x hx).1 (by simp)
 refine⟨Et hs.ok,fun i hi=> ?_,fun i hi hl j hj=> ?_,by simp [hs.size],fun x hx=>hs.lt x (by simp at hx ⊢;exact hx.imp id .inr)⟩
 ·by_cases tt:i=q
  ·subst tt
   have:i<dq.size:=by rw [hs.size];exact hq
   simp only [List.map_append,List.mem_append,g2,hqY,or_self,not_false_eq_true,true_or,iff_true]
   simp [this]
  ·rw [getD_set_ne false (Ne.symm tt),hs.Fx i hi]
   simp [tt]
 ·by_cases tt:i=q
  ·subst tt;exact getD_set_true (iH j hj)
  ·rw [getD_set_ne false (Ne.symm tt)]at hl
   exact getD_set_true (hs.cl i hi hl j hj)
theorem qz.flag {dq:Array Bool} {R:List (Nat×Nat)} {dX:List Pd} (hs:qz is af pt dq R dX) {p:Pd} (hq:p.q<is.length)
 (iH : ∀ j∈gR pt p.q,dq.getD j false=true):qz is af pt (dq.setIfInBounds p.q true) R (p::dX):=by
 refine⟨hs.ok,fun i hi=> ?_,fun i hi hl j hj=> ?_,by simp [hs.size],hs.lt⟩
 ·by_cases tt:i=p.q
  ·subst tt
   have:p.q<dq.size:=by rw [hs.size];exact hq
   simp [this]
  ·rw [getD_set_ne false (Ne.symm tt),hs.Fx i hi]
   have eJ:p.q≠i:=fun h=>tt h.symm
   simp [eJ]
 ·by_cases tt:i=p.q
  ·subst tt;exact getD_set_true (iH j hj)
  ·rw [getD_set_ne false (Ne.symm tt)]at hl
   exact getD_set_true (hs.cl i hi hl j hj)
theorem Mc {ai:AI} (h:ai.kind = .alloc) : ∃ t z,ai = .op (some t) none (.alloc z):=by
 cases ai with
 | op dst g o=>
  unfold AI.kind at h
  split at h
  ·rename_i heq;cases heq;exact⟨_,_,rfl⟩
  ·rename_i heq
   cases heq
   exfalso
   revert h
   cases o <;> simp [AO.kind]
  ·cases h
 | call dst g f xs=>cases h
 | nil dst g n x=>cases h
 | iS dst g t xs=>cases h
theorem Md {ops:Array Oper} (wk:qo P nt ops ops.toList=some is) (Me:wV af pt is.length=true)
 (hK : ∀ tm bt s,Tm.eqv tm bt→K tm s→K bt s) {dq:Array Bool} {R:List (Nat×Nat)} {dX:List Pd} {act:Act} {w:World} (hs:qz is af pt dq R dX) (h:ya P is K B nt R dX act w)
 (ad7 : ∀ x l,R=x::l→∀ p∈dX,p.q≠x.1) {q:Nat} (hq:q<is.length) (CZ:dq.getD q false=false) (iU : ∀ j∈gR af q,j<is.length∧dq.getD j false=true)
 {Q:Exit→Act→World→Prop} {K2:Act→World→Prop} (Z2 : ∀ R' vx a' w',qz is af pt (dq.setIfInBounds q true) R' vx→ya P is K B nt R' vx a' w'→K2 a' w'):wpOp P ops Q q K2 act w:=by
 obtain⟨hlen,hP⟩:=A8 wk
 have sB:q<ops.size:=by rw [hlen]at hq;simpa using hq
 obtain⟨ai,vu,Ph⟩:=hP q ops[q] (by simp [sB])
 have hi:ops[q]? = some ops[q]:=by simp [sB]
 have iH : ∀ j∈gR pt q,dq.getD j false=true:=fun j hj=>by
  rcases BI Me q hq j hj with h1 | ⟨k,h1,h2⟩
  ·exact(iU j h1).2
  ·exact hs.cl k (iU k h1).1 (iU k h1).2 j h2
 have Pj : ∀ p∈dX,p.q≠q:=fun p hp tu=>by
  have:=(hs.Fx q hq).2 (.inr ⟨p,hp,tu⟩)
  rw [CZ]at this;cases this
 have ZY:q∈R.map (·.1):=by
  by_cases hm:q∈R.map (·.1)
  ·exact hm
  ·have:=(hs.Fx q hq).2 (.inl hm)
   rw [CZ]at this;cases this
 obtain⟨⟨q',b⟩,hx,hqq⟩:=List.mem_map.1 ZY
 simp only at hqq
 subst hqq
 obtain⟨X,Y,rfl⟩:=List.append_of_mem hx
 obtain⟨g1,g2,g3,g4,g5⟩:=sG hs.ok
 rw [List.append_nil]at g1 g5
 obtain⟨M,s,tm,sH,bD,e,r,ht,pI,hn,hd,hg,vw,sc⟩:=h
 have Pk:iT is q'=ai.kind:=by simp [iT,vu]
 -- what must have come up ahead of it, is not here any more, but for what was allocated early
 have Vr : ∀ a∈X.map (·.1),a∈gR pt q'→∃ p∈dX,p.q=a:=fun a ha fZ=>by
  have h1:=iH a fZ
  obtain⟨x,hxX,rfl⟩:=List.mem_map.1 ha
  rcases(hs.Fx x.1 (hs.lt x (by simp [hxX]))).1 h1 with h2 | h2
  ·exact(h2 (by simp;exact .inl ⟨x.2,hxX⟩)).elim
  ·exact h2
 have Vs : ∀ x l,X=x::l→x.1∉gR pt q':=fun x l hX hxp=>by
  obtain⟨p,hp,tu⟩:=Vr x.1 (by simp [hX]) hxp
  exact ad7 x (l++(q',b)::Y) (by simp [hX]) p hp tu
 have hpk : ∀ p∈dX,iT is p.q = .alloc:=fun p hp=>by simp [iT,(vw p hp).ai,AI.kind]
 have yc : ∀ p∈dX,(p.q∈X.map (·.1)→kG is p.q q'=true)→(∀ t,ai.dst=some t→t≠p.t)∧p.t∉ai.reads:=fun p hp hX=>by
  have hk:=vw p hp
  have hm:=hk.mem
  simp only [List.map_append,List.map_cons,List.mem_append,List.mem_cons]at hm
  rcases hm with hm | hm | hm
  ·have:=hX hm
   simp only [kG,hk.ai,vu]at this
   obtain⟨p1,p2,p3⟩:=apart_spec this
   exact⟨fun t ht he=>p3 p.t rfl (by rw [ht,he]),p1 p.t rfl⟩
  ·exact(Pj p hp hm).elim
  ·obtain⟨x,hxY,Vt⟩:=List.mem_map.1 hm
   have:=(A7 g5 x hxY).2 (by rw [Vt];exact hpk p hp) q' (by simp)
   rw [Vt]at this
   simp only [kG,hk.ai,vu]at this
   obtain⟨p1,p2,p3⟩:=apart_spec this
   exact⟨fun t ht he=>p3 t ht (by rw [he];rfl),p2 p.t rfl⟩
 have Pl:(∀ p∈dX,p.t∉ai.reads)→∀ t∈ai.reads,tm.get t=sH.get t:=fun hp t ht=>(pI t fun p Z0 he=>hp p Z0 (by rw [he];exact ht)).symm
 have Vu : ∀ p∈dX,p.q∈(X++Y).map (·.1):=fun p hp=>by
  have hm:=(vw p hp).mem
  have:=Pj p hp
  simp only [List.map_append,List.map_cons,List.mem_append,List.mem_cons]at hm ⊢
  rcases hm with hm | hm | hm
  ·exact .inl hm
  ·exact(this hm).elim
  ·exact .inr hm
 by_cases tv:ai.kind = .alloc
 ·-- an allocation
  obtain⟨t,z,rfl⟩:=Mc tv
  have fZ : ∀ a∈X.map (·.1),kG is a q'=true:=fun a ha=>by
   unfold oe at g1
   rw [Pk,tv]at g1
   simp only [List.all_reverse,List.all_eq_true]at g1
   exact g1 a ha
  have Fy:=fun p hp=>yc p hp (fZ p.q)
  refine JP hi Ph fun vs T hl h1 h2=> ?_
  obtain⟨r1,e1,u1⟩:=r.idle (.cells vs T)
  have Z3:t<act.tmps.size:=by
   rw [hn]
   exact xd Ph t (by rw [← sF Ph];rfl)
  have:=hs.flag (p:=⟨q',t,z,w.heap.size⟩) hq iH
  refine Z2 _ _ _ _ this ⟨M,s,tm,sH.put (some t) .junk,bD,e.trans e1,r1,lq.put ht (dst:=some t) (fun u hu=>by cases hu;exact Z3) (.junk _),fun u hu=> ?_,by simp [Act.put,hn],by simp [Act.put,hd],hg,fun p hp=> ?_,fun p hp p' l8 he=> ?_⟩
  ·have h3:=hu ⟨q',t,z,w.heap.size⟩ (by simp)
   rw [Tm.kL,if_neg (by simpa using h3)]
   exact pI u fun p hp=>hu p (List.mem_cons_of_mem _ hp)
  ·rcases List.mem_cons.1 hp with rfl | hp
   ·refine⟨by simp,vu,⟨vs,T,heap_alloc_new w _,hl,h1,h2⟩,u1,e.size, ?_⟩
    simp [Act.put,Z3]
   ·have hk:=vw p hp
    obtain⟨fy,T',jz,me,rk,xg⟩:=hk.cells
    refine⟨hk.mem,hk.ai,⟨fy,T',by rw [heap_alloc_old w _ _ (kj jz)];exact jz,me,rk,xg⟩,hk.unk,hk.base, ?_⟩
    rw [← hk.slot]
    have eJ:t≠p.t:=(Fy p hp).1 t rfl
    simp [Act.put,Array.getElem?_setIfInBounds_ne eJ]
  ·have dF : ∀ p∈dX,¬ (q'=p.q∨t=p.t∨w.heap.size=p.b):=fun p hp h=>by
    rcases h with h | h | h
    ·exact Pj p hp h.symm
    ·exact(Fy p hp).1 t rfl h
    ·obtain⟨fy,T',jz,_⟩:=(vw p hp).cells
     have:=kj jz
     omega
   rcases List.mem_cons.1 hp with rfl | hp <;> rcases List.mem_cons.1 l8 with rfl | l8
   ·rfl
   ·exact(dF p' l8 he).elim
   ·exact(dF p hp (he.imp Eq.symm (Or.imp Eq.symm Eq.symm))).elim
   ·exact sc p hp p' l8 he
 ·by_cases nz:gK ai.kind=true
  ·-- a step that changes something: it stands first
   have hkc:ai.kind = .core:=by
    cases hk:ai.kind <;> simp_all [gK]
   have hX:X = []:=by
    cases X with
    | nil=>rfl
    | cons x l=>
     refine(Vs x l rfl ?_).elim
     unfold oe at g1
     rw [Pk,hkc]at g1
     simp only [List.all_reverse,List.all_eq_true]at g1
     have:=g1 x.1 (by simp)
     rwa [List.contains_iff_mem]at this
   subst hX
   have Fy:=fun p hp=>yc p hp (fun h=>by simp at h)
   simp only [List.nil_append,kl,vu,nz]at hg
   obtain⟨d,s1,su,hg⟩:=hg
   have ahF:=wh (Pl fun p hp=>(Fy p hp).2) su
   refine wpOp_mono (fun a' w' hr=>Z2 _ _ _ _ (hs.done hq iH) hr) ?_
   exact Vp hi Ph e r ht pI hn hd vw sc (HY ahF) hg Vu (fun p hp he=>(Fy p hp).1 _ he rfl)
  ·-- a step that changes nothing
   have hm:gK ai.kind=false:=by simpa using nz
   have ou : ∀ a∈X.map (·.1),a∉gR pt q':=fun a ha fZ=>by
    obtain⟨p,hp,tu⟩:=Vr a ha fZ
    have zQ:iT is a = .alloc:=by rw [← tu];exact hpk p hp
    have ke:kz is (gR pt q') (X.map (·.1)).reverse=true:=by
     unfold oe at g1
     rw [Pk]at g1
     cases hk:ai.kind with
     | pure=>simp only [hk,Bool.and_eq_true]at g1;exact g1.2
     | load=>simp only [hk,Bool.and_eq_true]at g1;exact g1.1.2
     | alloc=>exact(tv hk).elim
     | core=>rw [hk]at hm;cases hm
    cases X with
    | nil=>simp at ha
    | cons x l=>
     have Pn:a∈((x::l).map (·.1)).reverse:=List.mem_reverse.2 ha
     obtain⟨l1,l2,xj⟩:=List.append_of_mem Pn
     have wo:=xi ke a l1 l2 xj zQ fZ
     refine Vs x l rfl ?_
     cases qu:l2.reverse with
     | nil=>
      have h3:l2 = []:=by simpa using qu
      subst h3
      have:=congrArg List.reverse xj
      simp at this
      rw [this.1];exact fZ
     | cons y l3=>
      have:=congrArg List.reverse xj
      simp only [List.reverse_reverse,List.map_cons,List.reverse_append,List.reverse_cons,List.reverse_nil,List.append_assoc,qu,List.cons_append,List.nil_append,List.cons.injEq]at this
      rw [this.1]
      exact wo y (by rw [← List.mem_reverse,qu];simp)
   have fZ : ∀ a∈X,kG is a.1 q'=true:=fun a ha=>by
    have h3 : ∀ x∈(X.map (·.1)).reverse,((gR pt q').contains x || kG is x q')=true:=by
     unfold oe at g1
     rw [Pk]at g1
     cases hk:ai.kind with
     | pure=>simp only [hk,Bool.and_eq_true]at g1;exact List.all_eq_true.1 g1.1
     | load=>simp only [hk,Bool.and_eq_true]at g1;exact List.all_eq_true.1 g1.1.1
     | alloc=>exact(tv hk).elim
     | core=>rw [hk]at hm;cases hm
    have:=h3 a.1 (List.mem_reverse.2 (List.mem_map_of_mem ha))
    simp only [Bool.or_eq_true,List.contains_iff_mem]at this
    exact this.resolve_left (ou a.1 (List.mem_map_of_mem ha))
   have Z4:ai.kind = .load→je is (X.map (·.1))≤b:=fun hk=>by
    unfold oe at g1
    rw [Pk,hk]at g1
    simp only [Bool.and_eq_true,decide_eq_true_eq]at g1
    have h3:=g1.2
    have h4:(X.map (·.1)).reverse.filter (fun a=> !(gR pt q').contains a)=(X.map (·.1)).reverse:=by
     rw [List.filter_eq_self]
     intro a ha
     have:=ou a (List.mem_reverse.1 ha)
     simpa using this
    rw [h4]at h3
    unfold je at h3 ⊢
    rw [List.filter_reverse,List.length_reverse]at h3
    exact h3
   have Fy:=fun p hp=>yc p hp (fun h=>by
    obtain⟨x,hx,Vt⟩:=List.mem_map.1 h
    rw [← Vt];exact fZ x hx)
   obtain⟨d,h1,_,pj⟩:=wi hK vu hm Y X bD tm s fZ Z4 hg
   have rk:jo ai sH s=some d:=by rw [← qf (Pl fun p hp=>(Fy p hp).2)];exact h1
   refine wpOp_mono (fun a' w' hr=>Z2 _ _ _ _ (hs.done hq iH) hr) ?_
   exact Vp hi Ph e r ht pI hn hd vw sc (Mb hm rk) pj Vu (fun p hp he=>(Fy p hp).1 _ he rfl)
theorem BJ {o:Oper} {j:Nat} : j∈l9 o↔∃ e∈o.after,Region.binds .any e=true∧e.on=j:=by
 simp only [l9,List.mem_map,List.mem_filter,Array.mem_toList_iff]
 constructor
 ·rintro⟨e,⟨h1,h2⟩,h3⟩;exact⟨e,h1,h2,h3⟩
 ·rintro⟨e,h1,h2,h3⟩;exact⟨e,⟨h1,h2⟩,h3⟩
theorem Mf {ops:Array Oper} (wk:qo P nt ops ops.toList=some is) (Me:wV (ops.toList.map l9) pt is.length=true)
 (Z5 : ∀ i,i<is.length→∀ j∈gR (ops.toList.map l9) i,j<is.length) {Q:Exit→Tm→St→Prop} (hK : ∀ tm bt s,Tm.eqv tm bt→K tm s→K bt s)
 (hKQ : ∀ tm s act w,K tm s→Holds B nt tm s act w→pb B nt Q .normal act w) :
 ∀ (fuel:Nat) (dq:Array Bool) (R:List (Nat×Nat)) (dX:List Pd) (act:Act) (w:World) (U:List Nat),U.length≤fuel→(∀ j,j<is.length→dq.getD j false=false→j∈U)→
  qz is (ops.toList.map l9) pt dq R dX→ya P is K B nt R dX act w→wpAny P .any ops (pb B nt Q) fuel dq act w:=by
 obtain⟨hlen,_⟩:=A8 wk
 have rW:is.length=ops.size:=by rw [hlen];simp
 have Z6 : ∀ (j:Nat) (o:Oper),ops[j]? = some o→gR (ops.toList.map l9) j=l9 o:=fun j o h=>by
  simp [gR,List.getD,h]
 have fin : ∀ {dq:Array Bool} {dX:List Pd} {act:Act} {w:World},ya P is K B nt [] dX act w→pb B nt Q .normal act w:=by
  intro dq dX act w h
  obtain⟨M,s,tm,sH,bD,e,r,ht,pI,hn,hd,hg,vw,sc⟩:=h
  have HM : ∀ p∈dX,False:=fun p hp=>by have:=(vw p hp).mem;simp at this
  exact hKQ sH s act w (hK tm sH s (fun t=>(pI t fun p hp=>(HM p hp).elim).symm) hg) ⟨M,e,r,ht,hn,hd⟩
 have Po : ∀ {dq:Array Bool} {R:List (Nat×Nat)} {dX:List Pd} {x:Nat×Nat} {l:List (Nat×Nat)},qz is (ops.toList.map l9) pt dq R dX→R=x::l→(∀ p∈dX,p.q≠x.1)→
  x.1∈Region.ready .any ops dq:=by
  intro dq R dX x l hs hR Pj
  subst hR
  have hx:=hs.lt x (by simp)
  rw [mem_ready]
  have CZ:dq.getD x.1 false=false:=by
   cases hl:dq.getD x.1 false with
   | false=>rfl
   | true=>
    rcases(hs.Fx x.1 hx).1 hl with h1 | ⟨p,hp,tu⟩
    ·exact(h1 (by simp)).elim
    ·exact(Pj p hp tu).elim
  have hxo:x.1<ops.size:=by rw [← rW];exact hx
  refine⟨by rw [sd (by rw [hs.size];exact hx)];exact CZ,ops[x.1],by simp [hxo],fun e he hb=> ?_⟩
  have hm:e.on∈gR (ops.toList.map l9) x.1:=by rw [Z6 x.1 ops[x.1] (by simp [hxo])];exact BJ.2 ⟨e,he,hb,rfl⟩
  obtain⟨_,_,_,g4,_⟩:=sG (X:= []) (q:=x.1) (b:=x.2) hs.ok
  obtain⟨h1,h2⟩:=g4 _ hm
  refine(hs.Fx e.on (Z5 x.1 hx _ hm)).2 (.inl ?_)
  simp only [List.map_cons,List.mem_cons,not_or]
  exact⟨h1,h2⟩
 intro fuel
 induction fuel with
 | zero=>
  intro dq R dX act w U hU CZ hs h
  obtain⟨R',vx,oh,h',hn⟩:=norm R dX hs h
  have hUn:U = []:=List.length_eq_zero_iff.1 (by omega)
  have wo : ∀ j,j<is.length→dq.getD j false=true:=fun j hj=>by
   cases hl:dq.getD j false with
   | true=>rfl
   | false=>have:=CZ j hj hl;rw [hUn]at this;cases this
  have hR:R' = []:=by
   cases hR:R' with
   | nil=>rfl
   | cons x l=>
    have hx:=oh.lt x (by simp [hR])
    have:=Po oh hR (hn x l hR)
    rw [mem_ready,sd (by rw [oh.size];exact hx),wo x.1 hx]at this
    cases this.1
  subst hR
  refine⟨?_,fin (dq:=dq) h'⟩
  cases hr:Region.ready .any ops dq with
  | nil=>rfl
  | cons j js=>
   have hj:j∈Region.ready .any ops dq:=by rw [hr];simp
   rw [mem_ready]at hj
   obtain⟨h1,o,ho,_⟩:=hj
   have Vv:j<is.length:=by rw [rW];exact(Array.getElem?_eq_some_iff.1 ho).1
   rw [sd (by rw [hs.size];exact Vv),wo j Vv]at h1
   cases h1
 | succ fuel ih=>
  intro dq R dX act w U hU CZ hs h
  obtain⟨R',vx,oh,h',hn⟩:=norm R dX hs h
  refine⟨fun hr=> ?_,fun i hi=> ?_⟩
  ·cases hR:R' with
   | nil=>subst hR;exact fin (dq:=dq) h'
   | cons x l=>
    have:=Po oh hR (hn x l hR)
    rw [hr]at this
    cases this
  ·rw [mem_ready]at hi
   obtain⟨h1,o,ho,Mg⟩:=hi
   have qe:i<is.length:=by rw [rW];exact(Array.getElem?_eq_some_iff.1 ho).1
   rw [sd (by rw [hs.size];exact qe)]at h1
   refine Md wk Me hK oh h' hn qe h1 (fun j hj=>⟨Z5 i qe j hj, ?_⟩) fun R2 ad9 a2 w2 Kz h2=> ?_
   ·rw [Z6 i o ho]at hj
    obtain⟨e,he,hb,rfl⟩:=BJ.1 hj
    exact Mg e he hb
   ·refine ih _ R2 ad9 a2 w2 (U.erase i) ?_ (fun j hj hl=> ?_) Kz h2
    ·have:=List.length_erase_of_mem (CZ i qe h1)
     omega
    ·have hji:j≠i:=fun e=>by
      subst e
      have:j<dq.size:=by rw [hs.size];exact qe
      simp [this]at hl
     rw [getD_set_ne false (Ne.symm hji)]at hl
     exact(List.mem_erase_of_ne hji).2 (CZ j hj hl)
theorem Sem.par {is:List AI} {k9:List (Nat×Nat)} {Q:Exit→Tm→St→Prop} {tm:Tm} {s:St} (h:kl P is (Q .normal) k9 [] tm s):Sem P B nt (.par is k9) Q tm s:=by
 intro c hc act w hh
 obtain⟨id,ops,rfl,hi,hm,pt,hp⟩:=kP hc
 simp only [Hl,Bool.and_eq_true,List.all_eq_true,List.mem_range,List.contains_iff_mem,decide_eq_true_eq]at hp
 obtain⟨⟨⟨⟨h1,h2⟩,h3⟩,h4⟩,h5⟩:=hp
 obtain⟨hlen,_⟩:=A8 hi
 have rW:is.length=ops.size:=by rw [hlen];simp
 refine wp_region_any hm ?_
 obtain⟨M,e,r,ht,hn,hd⟩:=hh
 have key : ∀ (R:List (Nat×Nat)) (bD:List St) (tm:Tm) (s:St),kl P is (Q .normal) R bD tm s→kl P is (fun tm s=>∃ bt,tm.eqv bt∧Q .normal bt s) R bD tm s:=by
  intro R
  induction R with
  | nil=>intro bD tm s h;exact⟨tm,fun _=>rfl,h⟩
  | cons x R ih=>
   obtain⟨q,b⟩:=x
   intro bD tm s h
   unfold kl at h ⊢
   split at h
   ·exact h.elim
   ·split at h
    ·obtain⟨d,s',h1,h2⟩:=h;exact⟨d,s',h1,ih _ _ _ h2⟩
    ·obtain⟨d,h1,h2,h3⟩:=h;exact⟨d,h1,h2,ih _ _ _ h3⟩
 have hg:=key _ _ _ _ h
 refine Mf (K:=fun tm s=>∃ bt,tm.eqv bt∧Q .normal bt s) hi h1 h5 (fun tm bt s he ⟨t2,h3,h4⟩=>⟨t2,fun t=>(he t).symm.trans (h3 t),h4⟩)
  (fun tm s act w ⟨t2,h3,h4⟩ ⟨M,e,r,ht,hn,hd⟩=>⟨t2,s,h4,M,e,r,fun t=>by rw [← h3 t];exact ht t,hn,hd⟩) ops.size _ k9 [] act _ (List.range is.length) (by simp [rW]) (fun j hj _=>by simpa using hj)
  ⟨h2,fun i hi=> ?_,fun i hi hl=> ?_,by simp [rW],h4⟩ ⟨M,s,tm,tm,[],⟨e.le,e.kept,e.pR,e.o7,e.pS,e.size,e.os,e.tape,e.output⟩,r.of_heap rfl,ht,fun _ _=>rfl,hn,hd,hg,by simp,by simp⟩
 ·have:i<ops.size:=by rw [← rW];exact hi
  have h6:=h3 i hi
  simp only [List.not_mem_nil,false_and,exists_false,or_false]
  rw [show(Array.replicate ops.size false).getD i false=false by simp [this]]
  simp [h6]
 ·have:i<ops.size:=by rw [← rW];exact hi
  rw [show(Array.replicate ops.size false).getD i false=false by simp [this]]at hl
  cases hl
end
end Go.Abs

/-! Step -/

namespace Go.Abs
theorem Xl (k:IntKind) (n:Int):D.row (.int k n)=some [.int k n]:=rfl
theorem Sd (b:Bool):D.row (.bool b)=some [.bool b]:=rfl
theorem Xm (l:List UInt8):D.row (.str l)=some [.str l]:=rfl
theorem Se:D.row .eO=some [.eO]:=rfl
theorem Xn (o f:Nat):D.row (.ptr o f)=some [.ptr o f]:=rfl
theorem Sf (r:List D) (f:Nat):D.row (.dE r f)=some [.dE r f]:=rfl
theorem Pp (g:Tag) (z:Nat) (r:List (List D)):D.row (.slice g z r)=some [.slice g z r]:=rfl
theorem Xo (cs:List D):D.row (.agg cs)=some cs:=rfl
theorem Xp (v:Value):D.row (.val v)=some [.val v]:=rfl
theorem Pq (T:TypeId) (o:Nat):D.row (.fi T o)=some [.fi T o]:=rfl
theorem Xq (f:Nat) (cs:List D):D.row (.gb f cs)=some [.gb f cs]:=rfl
theorem Sg (o:Nat):D.row (.fQ o)=some [.fQ o]:=rfl
theorem Si (w:Bool):Tag.cut .full w=if w then .full else .shared:=rfl
theorem Mh (w:Bool):Tag.cut .shared w = .shared:=rfl
theorem Sj (t:Nat) (y:Bool) (w:Bool):Tag.cut (.tok t y) w = .tok t y:=rfl
section
variable {P:Program}
def KC (P:Program) (r:List AI) (K:Tm→St→Prop) (tm:Tm) (dst:Option Nat) (d:D) (s:St):Prop:=iG P r K (tm.put dst d) s
def GI (P:Program) (g:D) (want:Bool) (i:AI) (r:List AI) (K:Tm→St→Prop) (tm:Tm) (s:St):Prop:=
 match g with
 | .bool b=>(b=want→iG P (i::r) K tm s)∧(b=(!want)→iG P r K (tm.put i.dst (.tuple [])) s)
 | .tuple _=>iG P r K (tm.put i.dst (.tuple [])) s
 | _=>False
def NI (P:Program) (dst:Option Nat) (neg:Bool) (x:D) (r:List AI) (K:Tm→St→Prop) (tm:Tm) (s:St):Prop:=
 match x with
 | .slice _ _ rows=>∀ b:Bool,(rows≠ []→b=false)→iG P r K (tm.put dst (.bool (if neg then !b else b))) s
 | _=>False
def tL (d:D) (A C:Prop):Prop:=
 match d with
 | .bool b=>(b=true→A)∧(b=false→C)
 | _=>False
theorem Sem.aea {B:fv} {nt:Nat} {Q:Exit→Tm→St→Prop} {tm:Tm} {s:St} {x:X} {a b:AC} (h:tL (x.ev tm) (Sem P B nt a Q tm s) (Sem P B nt b Q tm s)):Sem P B nt (.cond x a b) Q tm s:=by
 unfold tL at h
 split at h
 ·rename_i t ht
  exact Sem.cond ht h.1 h.2
 ·exact h.elim
def gL (P:Program) (K:Tm→St→Prop):List (AI×Nat)→List St→Tm→St→Prop
 | [],_,tm,s=>K tm s
 | (ai,b)::r,bD,tm,s=>
  match gK ai.kind with
  | true=>∃ d s',rZ P ai tm s d s'∧gL P K r (s::bD) (tm.put ai.dst d) s'
  | false=>∃ d,jo ai tm s=some d∧(ai.kind = .load→∀ s'∈bD.take b,jo ai tm s'=some d)∧gL P K r bD (tm.put ai.dst d) s
def mg (is:List AI):List (Nat×Nat)→Option (List (AI×Nat))
 | []=>some []
 | (q,b)::r=>match is[q]?,mg is r with
  | some ai,some l=>some ((ai,b)::l)
  | _,_=>none
theorem Eu {is:List AI} {K:Tm→St→Prop} : ∀ {k9:List (Nat×Nat)} {items:List (AI×Nat)} {bD:List St} {tm:Tm} {s:St},mg is k9=some items→gL P K items bD tm s→kl P is K k9 bD tm s
 | [],items,bD,tm,s,h,g=>by cases h;exact g
 | (q,b)::r,items,bD,tm,s,h,g=>by
  simp only [mg]at h
  split at h
  ·rename_i ai l h1 h2
   cases h
   simp only [gL]at g
   simp only [kl,h1]
   split at g
   ·rename_i hk
    obtain⟨d,s',g1,g2⟩:=g
    try simp only [hk]
    exact⟨d,s',g1,Eu h2 g2⟩
   ·rename_i hk
    obtain⟨d,g1,g2,g3⟩:=g
    try simp only [hk]
    exact⟨d,g1,g2,Eu h2 g3⟩
  ·cases h
theorem Sem.ahH {B:fv} {nt:Nat} {Q:Exit→Tm→St→Prop} {tm:Tm} {s:St} {is:List AI} {k9:List (Nat×Nat)} {items:List (AI×Nat)} (hi:mg is k9=some items) (h:gL P (Q .normal) items [] tm s):Sem P B nt (.par is k9) Q tm s:=
 Sem.par (Eu hi h)
def AI.free:AI→AI
 | .op d _ o=> .op d none o
 | .call d _ f xs=> .call d none f xs
 | .nil d _ n x=> .nil d none n x
 | .iS d _ t xs=> .iS d none t xs
def GL (P:Program) (g:D) (want:Bool) (i:AI) (b:Nat) (r:List (AI×Nat)) (K:Tm→St→Prop) (bD:List St) (tm:Tm) (s:St):Prop:=
 match g with
 | .bool v=>(v=want→gL P K ((i,b)::r) bD tm s)∧(v=(!want)→gL P K r (if gK i.kind then s::bD else bD) (tm.put i.dst (.tuple [])) s)
 | .tuple _=>gL P K r (if gK i.kind then s::bD else bD) (tm.put i.dst (.tuple [])) s
 | _=>False
def CL (P:Program) (f:Nat) (args:List D) (s:St) (K:D→St→Prop):Prop:=∃ d s',aB P f args s d s'∧K d s'
def KL (P:Program) (K:Tm→St→Prop) (r:List (AI×Nat)) (bD:List St) (tm:Tm) (dst:Option Nat) (d:D) (s:St):Prop:=gL P K r bD (tm.put dst d) s
def nB (i:AI) (tm:Tm) (d:D):List St→Prop
 | []=>True
 | s::r=>jo i tm s=some d∧nB i tm d r
theorem C0 {i:AI} {tm:Tm} {d:D} : ∀ {l:List St},nB i tm d l→∀ s∈l,jo i tm s=some d
 | [],_,s,h=>by cases h
 | a::l,h,s,hs=>by
  rcases List.mem_cons.1 hs with rfl | hs
  ·exact h.1
  ·exact C0 h.2 s hs
def PL (P:Program) (o:AO) (dst:Option Nat) (b:Nat) (r:List (AI×Nat)) (K:Tm→St→Prop) (bD:List St) (tm:Tm) (s:St):Prop:=
 match aW o tm s with
 | some (d,_)=>nB (.op dst none o) tm d (bD.take b)∧gL P K r bD (tm.put dst d) s
 | none=>False
def ML (P:Program) (o:AO) (dst:Option Nat) (r:List (AI×Nat)) (K:Tm→St→Prop) (bD:List St) (tm:Tm) (s:St):Prop:=
 match aW o tm s with
 | some (d,s')=>gL P K r (s::bD) (tm.put dst d) s'
 | none=>False
def AO.core:AO→Bool
 | .alloc _=>true
 | .box _=>true
 | .ug .. =>true
 | .zw _=>true
 | .store .. =>true
 | .app .. =>true
 | .sq .. =>true
 | .zz .. =>true
 | .zA .. =>true
 | .apps .. =>true
 | .tF=>true
 | .xV .. =>true
 | .Ee .. =>true
 | _=>false
theorem sI (dst:Option Nat) (g:Option (Nat×Bool)) (o:AO):gK (AI.op dst g o).kind=o.core:=by
 cases dst <;> cases g <;> cases o <;> rfl
def OL (P:Program) (o:AO) (dst:Option Nat) (b:Nat) (r:List (AI×Nat)) (K:Tm→St→Prop) (bD:List St) (tm:Tm) (s:St):Prop:=
 match o.core with
 | true=>ML P o dst r K bD tm s
 | false=>PL P o dst b r K bD tm s
theorem HZ {K:Tm→St→Prop} {dst:Option Nat} {o:AO} {b:Nat} {r:List (AI×Nat)} {bD:List St} {tm:Tm} {s:St} (h:OL P o dst b r K bD tm s) :
 gL P K ((.op dst none o,b)::r) bD tm s:=by
 unfold OL at h
 simp only [gL,sI]
 cases hc:o.core with
 | true=>
  simp only [hc,ML]at h
  simp only []
  split at h
  ·rename_i d s' he
   exact⟨d,s',by simpa [rZ,guarded]using he,h⟩
  ·exact h.elim
 | false=>
  simp only [hc,PL]at h
  simp only []
  split at h
  ·rename_i d s' he
   exact⟨d,by simp [jo,he],fun _=>C0 h.1,h.2⟩
  ·exact h.elim
theorem Mj {K:Tm→St→Prop} {dst:Option Nat} {f:Nat} {xs:List X} {b:Nat} {r:List (AI×Nat)} {bD:List St} {tm:Tm} {s:St} (h:CL P f (xs.map (·.ev tm)) s (KL P K r (s::bD) tm dst)) :
 gL P K ((.call dst none f xs,b)::r) bD tm s:=by
 obtain⟨d,s',h1,h2⟩:=h
 exact⟨d,s',h1,h2⟩
theorem Z7 {K:Tm→St→Prop} {i:AI} {t:Nat} {w:Bool} {b:Nat} {r:List (AI×Nat)} {bD:List St} {tm:Tm} {s:St} {j:AI} (hf:(∃ d o,i = .op d none o∧j = .op d (some (t,w)) o)∨(∃ d f xs,i = .call d none f xs∧j = .call d (some (t,w)) f xs))
 (hg:tm.get t = .bool w) (h:gL P K ((i,b)::r) bD tm s):gL P K ((j,b)::r) bD tm s:=by
 rcases hf with ⟨d,o,rfl,rfl⟩ | ⟨d,f,xs,rfl,rfl⟩
 ·simp only [gL,sI]at h ⊢
  cases hc:o.core <;> simp only [hc]at h ⊢
  ·obtain⟨x,h1,h2,h3⟩:=h
   refine⟨x,by simpa [jo,hg]using h1,fun hk s' oh=> ?_,h3⟩
   have td:(AI.op d none o).kind = .load:=by
    cases d <;> cases o <;> first | exact hk | (cases hc;done) | (cases hk;done)
   simpa [jo,hg]using h2 td s' oh
  ·obtain⟨x,s',h1,h2⟩:=h
   exact⟨x,s',by simpa [rZ,guarded,hg]using h1,h2⟩
 ·obtain⟨x,s',h1,h2⟩:=h
  exact⟨x,s',by simpa [rZ,guarded,hg]using h1,h2⟩
theorem Pr {K:Tm→St→Prop} {i:AI} {t:Nat} {w:Bool} {b:Nat} {r:List (AI×Nat)} {bD:List St} {tm:Tm} {s:St} {j:AI} (hf:(∃ d o,i = .op d none o∧j = .op d (some (t,w)) o)∨(∃ d f xs,i = .call d none f xs∧j = .call d (some (t,w)) f xs))
 (hg:tm.get t = .bool (!w)∨∃ l,tm.get t = .tuple l) (h:gL P K r (if gK i.kind then s::bD else bD) (tm.put i.dst (.tuple [])) s):gL P K ((j,b)::r) bD tm s:=by
 rcases hf with ⟨d,o,rfl,rfl⟩ | ⟨d,f,xs,rfl,rfl⟩
 ·simp only [gL,sI]at h ⊢
  cases hc:o.core <;> simp only [hc]at h ⊢
  ·refine⟨.tuple [], ?_,fun hk s' oh=> ?_,h⟩
   ·rcases hg with hg | ⟨l,hg⟩ <;> simp [jo,hg]
   ·rcases hg with hg | ⟨l,hg⟩ <;> simp [jo,hg]
  ·refine⟨.tuple [],s, ?_,h⟩
   rcases hg with hg | ⟨l,hg⟩ <;> simp [rZ,guarded,hg]
 ·refine⟨.tuple [],s, ?_,h⟩
  rcases hg with hg | ⟨l,hg⟩ <;> simp [rZ,guarded,hg]
theorem KK {K:Tm→St→Prop} {i j:AI} {t:Nat} {w:Bool} {b:Nat} {r:List (AI×Nat)} {bD:List St} {tm:Tm} {s:St} (hf:(∃ d o,i = .op d none o∧j = .op d (some (t,w)) o)∨(∃ d f xs,i = .call d none f xs∧j = .call d (some (t,w)) f xs))
 (h:GL P (tm.get t) w i b r K bD tm s):gL P K ((j,b)::r) bD tm s:=by
 unfold GL at h
 split at h
 ·rename_i v hv
  by_cases e:v=w
  ·exact Z7 hf (by rw [hv,e]) (h.1 e)
  ·exact Pr hf (.inl (by rw [hv];cases v <;> cases w <;> simp_all)) (h.2 (by cases v <;> cases w <;> simp_all))
 ·rename_i l hl
  exact Pr hf (.inr ⟨l,hl⟩) h
 ·exact h.elim
theorem Fz {K:Tm→St→Prop} {dst:Option Nat} {o:AO} {t:Nat} {w:Bool} {b:Nat} {r:List (AI×Nat)} {bD:List St} {tm:Tm} {s:St} (h:GL P (tm.get t) w (.op dst none o) b r K bD tm s) :
 gL P K ((.op dst (some (t,w)) o,b)::r) bD tm s:=KK (.inl ⟨dst,o,rfl,rfl⟩) h
theorem JR {K:Tm→St→Prop} {dst:Option Nat} {f:Nat} {xs:List X} {t:Nat} {w:Bool} {b:Nat} {r:List (AI×Nat)} {bD:List St} {tm:Tm} {s:St} (h:GL P (tm.get t) w (.call dst none f xs) b r K bD tm s) :
 gL P K ((.call dst (some (t,w)) f xs,b)::r) bD tm s:=KK (.inr ⟨dst,f,xs,rfl,rfl⟩) h
theorem CU {f:Nat} {args:List D} {s:St} {d:D} {s':St} {K:D→St→Prop} (h:aB P f args s d s') (hk:K d s'):CL P f args s K:=⟨d,s',h,hk⟩
end
end Go.Abs

/-! Wp -/

namespace Go.Abs
theorem nd {α:Type} {a b:α} (h:a=b):a=b:=h
def GJ (g:D) (w:Bool) (A C:Prop):Prop:=
 match g with
 | .bool b=>(b=w→A)∧(b=(!w)→C)
 | .tuple _=>C
 | _=>False
class Two where
 a:Prop
 c:Prop
def CB (d:D) [b:Two] : Prop:=tL d b.a b.c
def GB (d:D) (w:Bool) [b:Two] : Prop:=GJ d w b.a b.c
def mh (g:Option (Nat×Bool)) (tm:Tm) (A C:Prop):Prop:=
 match g with
 | none=>A
 | some (t,w)=>GJ (tm.get t) w A C
def jI (P:Program):List AI→(Tm→St→Prop)→Tm→St→Prop
 | [],K,tm,s=>K tm s
 | .op dst g o::r,K,tm,s=>mh g tm (match aW o tm s with | some (d,s')=>jI P r K (tm.put dst d) s' | none=>False) (jI P r K (tm.put dst (.tuple [])) s)
 | .call dst g f xs::r,K,tm,s=>mh g tm (CL P f (xs.map (·.ev tm)) s fun d s'=>jI P r K (tm.put dst d) s') (jI P r K (tm.put dst (.tuple [])) s)
 | .nil dst g neg x::r,K,tm,s=>
  mh g tm (match x.ev tm with
   | .slice _ _ rows=>∀ b:Bool,(rows≠ []→b=false)→jI P r K (tm.put dst (.bool (if neg then !b else b))) s
   | _=>False) (jI P r K (tm.put dst (.tuple [])) s)
 | .iS dst g t xs::r,K,tm,s=>
  mh g tm (match tm.get t with
   | .gb f mW=>enters P f=true∧CL P f (xs.map (·.ev tm)++mW) s fun d s'=>jI P r K (tm.put dst d) s'
   | _=>False) (jI P r K (tm.put dst (.tuple [])) s)
theorem se {g:Option (Nat×Bool)} {tm:Tm} {A C A' C':Prop} (h:mh g tm A C) (ha:A→A') (hc:C→C'):guarded g tm A' C':=by
 unfold mh at h
 unfold guarded
 cases g with
 | none=>exact ha h
 | some p=>
  obtain⟨t,w⟩:=p
  simp only [GJ]at h ⊢
  split at h
  ·rename_i hb;try simp only [hb]
   exact⟨fun e=>ha (h.1 e),fun e=>hc (h.2 e)⟩
  ·rename_i hb;try simp only [hb]
   exact hc h
  ·exact h.elim
theorem nH {P:Program} {K:Tm→St→Prop} : ∀ {is:List AI} {tm:Tm} {s:St},jI P is K tm s→iG P is K tm s
 | [],tm,s,h=>h
 | .op dst g o::r,tm,s,h=>by
  refine se h (fun h=> ?_) nH
  split at h
  ·rename_i he;try simp only [he]
   exact nH h
  ·exact h.elim
 | .call dst g f xs::r,tm,s,h=>se h (fun⟨d,s',h1,h2⟩=>h1.use (nH h2)) nH
 | .nil dst g neg x::r,tm,s,h=>by
  refine se h (fun h=> ?_) nH
  split at h
  ·rename_i he;try simp only [he]
   exact fun b hb=>nH (h b hb)
  ·exact h.elim
 | .iS dst g t xs::r,tm,s,h=>by
  refine se h (fun h=> ?_) nH
  split at h
  ·rename_i he;try simp only [he]
   obtain⟨h0,d,s',h1,h2⟩:=h
   exact⟨h0,h1.use (nH h2)⟩
  ·exact h.elim
def gj (P:Program) (K:Tm→St→Prop):List (AI×Nat)→List St→Tm→St→Prop
 | [],_,tm,s=>K tm s
 | (.op dst g o,b)::r,bD,tm,s=>
  match o.core with
  | true=>mh g tm (match aW o tm s with | some (d,s')=>gj P K r (s::bD) (tm.put dst d) s' | none=>False) (gj P K r (s::bD) (tm.put dst (.tuple [])) s)
  | false=>mh g tm (match aW o tm s with | some (d,_)=>nB (.op dst none o) tm d (bD.take b)∧gj P K r bD (tm.put dst d) s | none=>False) (gj P K r bD (tm.put dst (.tuple [])) s)
 | (.call dst g f xs,_)::r,bD,tm,s=>mh g tm (CL P f (xs.map (·.ev tm)) s fun d s'=>gj P K r (s::bD) (tm.put dst d) s') (gj P K r (s::bD) (tm.put dst (.tuple [])) s)
 | (.nil ..,_)::_,_,_,_=>False
 | (.iS ..,_)::_,_,_,_=>False
theorem z7 {P:Program} {t:Nat} {w:Bool} {tm:Tm} {i:AI} {b:Nat} {r:List (AI×Nat)} {K:Tm→St→Prop} {bD:List St} {s:St} {A C:Prop} (h:mh (some (t,w)) tm A C) (ha:A→gL P K ((i,b)::r) bD tm s)
 (hc:C→gL P K r (if gK i.kind then s::bD else bD) (tm.put i.dst (.tuple [])) s):GL P (tm.get t) w i b r K bD tm s:=by
 simp only [mh,GJ]at h
 unfold GL
 split at h
 ·rename_i hb;try simp only [hb]
  exact⟨fun e=>ha (h.1 e),fun e=>hc (h.2 e)⟩
 ·rename_i hb;try simp only [hb]
  exact hc h
 ·exact h.elim
theorem lN {P:Program} {K:Tm→St→Prop} : ∀ {l:List (AI×Nat)} {bD:List St} {tm:Tm} {s:St},gj P K l bD tm s→gL P K l bD tm s
 | [],bD,tm,s,h=>h
 | (.op dst g o,b)::r,bD,tm,s,h=>by
  simp only [gj]at h
  cases hc:o.core with
  | true=>
   simp only [hc]at h
   have ha:(match aW o tm s with | some (d,s')=>gj P K r (s::bD) (tm.put dst d) s' | none=>False)→gL P K ((.op dst none o,b)::r) bD tm s:=by
    intro h
    refine HZ ?_
    simp only [OL,hc,ML]
    split at h
    ·rename_i he;try simp only [he]
     exact lN h
    ·exact h.elim
   cases g with
   | none=>exact ha h
   | some p=>
    obtain⟨t,w⟩:=p
    refine Fz (z7 h ha fun h=> ?_)
    simp only [sI,hc,if_true]
    exact lN h
  | false=>
   simp only [hc]at h
   have ha:(match aW o tm s with | some (d,_)=>nB (.op dst none o) tm d (bD.take b)∧gj P K r bD (tm.put dst d) s | none=>False)→gL P K ((.op dst none o,b)::r) bD tm s:=by
    intro h
    refine HZ ?_
    simp only [OL,hc,PL]
    split at h
    ·rename_i he;try simp only [he]
     exact⟨h.1,lN h.2⟩
    ·exact h.elim
   cases g with
   | none=>exact ha h
   | some p=>
    obtain⟨t,w⟩:=p
    refine Fz (z7 h ha fun h=> ?_)
    simp only [sI,hc]
    exact lN h
 | (.call dst g f xs,b)::r,bD,tm,s,h=>by
  simp only [gj]at h
  have ha:(CL P f (xs.map (·.ev tm)) s fun d s'=>gj P K r (s::bD) (tm.put dst d) s')→gL P K ((.call dst none f xs,b)::r) bD tm s:=
   fun⟨d,s',h1,h2⟩=>Mj ⟨d,s',h1,lN h2⟩
  cases g with
  | none=>exact ha h
  | some p=>
   obtain⟨t,w⟩:=p
   exact JR (z7 h ha fun h=>lN h)
 | (.nil ..,_)::_,bD,tm,s,h=>h.elim
 | (.iS ..,_)::_,bD,tm,s,h=>h.elim
section
variable {P:Program} {B:fv} {nt:Nat}
def gC (P:Program) (B:fv) (nt:Nat):AC→(Exit→Tm→St→Prop)→Tm→St→Prop
 | .skip,Q,tm,s=>Q .normal tm s
 | .run is,Q,tm,s=>jI P is (Q .normal) tm s
 | .par is k9,Q,tm,s=>match mg is k9 with | some l=>gj P (Q .normal) l [] tm s | none=>False
 | .seq a b,Q,tm,s=>gC P B nt a (jQ (gC P B nt b Q) Q) tm s
 | .cond x a b,Q,tm,s=>tL (x.ev tm) (gC P B nt a Q tm s) (gC P B nt b Q tm s)
 | .block id a,Q,tm,s=>gC P B nt a (ie id Q) tm s
 | .loop a,Q,tm,s=>bk P B nt a Q tm s
 | .exit id,Q,tm,s=>Q (.exit id) tm s
 | .scope a,Q,tm,s=>nM P B nt a a Q tm s
 | .label _,Q,tm,s=>Q .normal tm s
 | .goto l,Q,tm,s=>Q (.goto l) tm s
 | .ret,Q,tm,s=>Q .ret tm s
theorem im : ∀ {ac:AC} {Q:Exit→Tm→St→Prop} {tm:Tm} {s:St},gC P B nt ac Q tm s→Sem P B nt ac Q tm s:=by
 intro ac
 induction ac with
 | skip=>exact fun h=>Sem.skip h
 | run is=>exact fun h=>Sem.run (nH h)
 | par is k9=>
  intro Q tm s h
  simp only [gC]at h
  split at h
  ·exact Sem.ahH ‹_› (lN h)
  ·exact h.elim
 | seq a b O5 O6=>
  intro Q tm s h
  refine Sem.seq ((O5 h).mono fun e tm s hq=> ?_)
  cases e with
  | normal=>exact O6 hq
  | _=>exact hq
 | cond x a b O5 O6=>
  intro Q tm s h
  refine Sem.aea ?_
  simp only [gC]at h
  unfold tL at h ⊢
  split at h
  ·exact⟨fun e=>O5 (h.1 e),fun e=>O6 (h.2 e)⟩
  ·exact h.elim
 | block id a ih=>exact fun h=>Sem.block (ih h)
 | loop a ih=>exact fun h=>Sem.loop h
 | exit id=>exact fun h=>Sem.exit h
 | scope a ih=>exact fun h=>Sem.scope h
 | label l=>exact fun h=>Sem.label h
 | goto l=>exact fun h=>Sem.goto h
 | ret=>exact fun h=>Sem.ret h
section
variable (Q:Exit→Tm→St→Prop) (N:Tm→St→Prop) (tm:Tm) (s:St) (a b:AC) (is:List AI) (x:X)
theorem Sk:gC P B nt .skip Q tm s=Q .normal tm s:=nd rfl
theorem Xs:gC P B nt (.run is) Q tm s=jI P is (Q .normal) tm s:=nd rfl
theorem Xt (k9:List (Nat×Nat)):gC P B nt (.par is k9) Q tm s=match mg is k9 with | some l=>gj P (Q .normal) l [] tm s | none=>False:=nd rfl
theorem Xu:gC P B nt (.seq a b) Q tm s=gC P B nt a (jQ (gC P B nt b Q) Q) tm s:=nd rfl
theorem Sl:gC P B nt (.cond x a b) Q tm s = @CB (x.ev tm) ⟨gC P B nt a Q tm s,gC P B nt b Q tm s⟩:=nd rfl
theorem Ps (id:Nat):gC P B nt (.block id a) Q tm s=gC P B nt a (ie id Q) tm s:=nd rfl
theorem Sn:gC P B nt (.loop a) Q tm s=bk P B nt a Q tm s:=nd rfl
theorem Pu:gC P B nt (.scope a) Q tm s=nM P B nt a a Q tm s:=nd rfl
theorem Sp (id:Nat):gC P B nt (.exit id) Q tm s=Q (.exit id) tm s:=nd rfl
theorem Pv (id:Nat):gC P B nt (.label id) Q tm s=Q .normal tm s:=nd rfl
theorem Sq (id:Nat):gC P B nt (.goto id) Q tm s=Q (.goto id) tm s:=nd rfl
theorem Xv:gC P B nt .ret Q tm s=Q .ret tm s:=nd rfl
theorem Xw:jQ N Q .normal tm s=N tm s:=nd rfl
theorem Xx:jQ N Q .ret tm s=Q .ret tm s:=nd rfl
theorem Xy (id:Nat):jQ N Q (.exit id) tm s=Q (.exit id) tm s:=nd rfl
theorem Xz (id:Nat):jQ N Q (.goto id) tm s=Q (.goto id) tm s:=nd rfl
theorem Sr (id:Nat):ie id Q .normal tm s=Q .normal tm s:=nd rfl
theorem Ss (id:Nat):ie id Q .ret tm s=Q .ret tm s:=nd rfl
theorem Sv (id l:Nat):ie id Q (.goto l) tm s=Q (.goto l) tm s:=nd rfl
theorem Sw (id i:Nat):ie id Q (.exit i) tm s=if i=id then Q .normal tm s else Q (.exit i) tm s:=nd rfl
end
theorem bk.qA {a:AC} {Q:Exit→Tm→St→Prop} {tm:Tm} {s:St} (h:gC P B nt a (jQ (bk P B nt a Q) Q) tm s):bk P B nt a Q tm s:=bk.once (im h)
theorem nM.qA {a r:AC} {Q:Exit→Tm→St→Prop} {tm:Tm} {s:St} (h:gC P B nt r (jC P B nt a Q) tm s):nM P B nt a r Q tm s:=nM.once (im h)
def tw (tm:Tm) (n m:Nat):Tm→Prop
 | []=>True
 | (k,d)::r=>Wk ((tm.get k).fg n m) d∧tw tm n m r
theorem tw.get {tm:Tm} {n m:Nat} : ∀ {bt:Tm},tw tm n m bt→∀ t,Wk ((tm.get t).fg n m) (bt.get t)
 | [],_,t=>Wk.junk _
 | (k,d)::r,h,t=>by
  simp only [Tm.get]
  split
  ·rename_i hk;subst hk;exact h.1
  ·exact tw.get h.2 t
theorem Holds.re {Q:Exit→Tm→St→Prop} {tm bt:Tm} {s:St} {dR:List (List D)} {act:Act} {w:World} (n m:Nat) (hn:B.s.aw.length≤n) (hm:B.s.aA.length≤m) (ht:tw tm n m bt) (ho:gU (s.cut n m).aw dR)
 (h:Holds B nt tm s act w):Holds B nt bt ⟨dR,(s.cut n m).aA⟩ act w:=by
 obtain⟨M,e,r,hr,h1,h2⟩:=h
 obtain⟨r',le⟩:=(r.cut n m).wg ho
 have e':=e.cut hn hm
 refine⟨M,e'.trans ⟨le,fun _ _ _ _=>rfl,fun o h1 h2=> ?_,fun t b c z hl e=> .inl ⟨hl,c,z,e⟩,fun _ _ h=>(h rfl).elim,Nat.le_refl _,rfl,rfl,rfl⟩,r',fun k=>((ht.get k) _ _ _ ((hr k).fg n m)).mono le,h1,h2⟩
 rw [← ho.len]at h2
 exact h1.elim (fun h1=>absurd h2 (Nat.not_lt.2 h1)) fun h1=>(h1 rfl).elim
theorem bk.re {a:AC} {Q:Exit→Tm→St→Prop} {tm:Tm} {s:St} (bt:Tm) (dR:List (List D)) (n m:Nat) (hn:B.s.aw.length≤n) (hm:B.s.aA.length≤m) (ht:tw tm n m bt) (ho:gU (s.cut n m).aw dR)
 (h:bk P B nt a Q bt ⟨dR,(s.cut n m).aA⟩):bk P B nt a Q tm s:=
 fun c hc act w hh=>h c hc act w (hh.re (Q:=Q) n m hn hm ht ho)
theorem nM.re {a r:AC} {Q:Exit→Tm→St→Prop} {tm:Tm} {s:St} (bt:Tm) (dR:List (List D)) (n m:Nat) (hn:B.s.aw.length≤n) (hm:B.s.aA.length≤m) (ht:tw tm n m bt) (ho:gU (s.cut n m).aw dR)
 (h:nM P B nt a r Q bt ⟨dR,(s.cut n m).aA⟩):nM P B nt a r Q tm s:=
 fun c rest hc hr act w hh=>h c rest hc hr act w (hh.re (Q:=Q) n m hn hm ht ho)
theorem bk.ind {ι:Type} {a:AC} {Q:Exit→Tm→St→Prop} (I:ι→Prop) (μ:ι→Nat) (TM:ι→Tm) (ST:ι→St)
 (step : ∀ i,I i→(∀ j,I j→μ j<μ i→bk P B nt a Q (TM j) (ST j))→gC P B nt a (jQ (bk P B nt a Q) Q) (TM i) (ST i)) : ∀ i,I i→bk P B nt a Q (TM i) (ST i):=by
 have key : ∀ n i,μ i<n→I i→bk P B nt a Q (TM i) (ST i):=by
  intro n
  induction n with
  | zero=>intro i h;exact absurd h (Nat.not_lt_zero _)
  | succ n ih=>exact fun i h hi=>bk.qA (step i hi fun j hj hF=>ih j (by omega) hj)
 exact fun i hi=>key (μ i+1) i (Nat.lt_succ_self _) hi
theorem drop_cons {α:Type} {l rest:List α} {k:Nat} {x:α} (h:l.drop k=x::rest):l[k]? = some x∧l.drop (k+1)=rest∧decide ((k:Int)<(l.length:Int))=true∧k<l.length:=by
 have h1:l[k]? = some x:=by
  have:(l.drop k)[0]? = some x:=by rw [h];rfl
  simpa using this
 have h2:=(List.getElem?_eq_some_iff.1 h1).1
 refine⟨h1, ?_,by simpa using h2,h2⟩
 have:l.drop (k+1)=(l.drop k).drop 1:=by rw [List.drop_drop]
 rw [this,h];rfl
theorem drop_nil {α:Type} {l:List α} {k:Nat} (h:l.drop k = []):decide ((k:Int)<(l.length:Int))=false:=by
 have:=List.drop_eq_nil_iff.1 h
 simp;omega
theorem bk.ov {a:AC} {Q:Exit→Tm→St→Prop} {tm:Tm} {s:St} (t z':Nat) {z:Nat} (hw:tm.get t = .slice .full z [])
 (h:bk P B nt a Q (tm.set t (.slice (.tok s.aA.length) z' [])) {s with aA:=s.aA++ [some 0]}):bk P B nt a Q tm s:=by
 intro c hc act w ⟨M,e,r,ht,h1,h2⟩
 obtain⟨r',le⟩:=r.blank
 refine h c hc act w ⟨_,zX e le,r',fun k=> ?_,h1,h2⟩
 rw [Tm.A0]
 split
 ·rename_i hk;subst hk;have:=ht k;rw [hw]at this;exact this.own
 ·exact(ht k).mono le
theorem bk.qB {a:AC} {Q:Exit→Tm→St→Prop} {tm:Tm} {s:St} (o i z':Nat) {z:Nat} {cs:List D} (hc:s.aw[o]? = some cs) (hi:cs[i]? = some (.slice .full z []))
 (h:bk P B nt a Q tm ⟨s.aw.set o (cs.set i (.slice (.tok s.aA.length) z' [])),s.aA++ [some 0]⟩):bk P B nt a Q tm s:=by
 intro c ZK act w hh
 obtain⟨M,e,r,ht,h1,h2⟩:=hh
 obtain⟨r',le⟩:=r.blank
 have le':Le M s (M.eQ s.aA.length none) ⟨s.aw.set o (cs.set i (.slice (.tok s.aA.length) z' [])),s.aA++ [some 0]⟩:=⟨le.G,by simp,le.loc,le.t,le.tk⟩
 have Z9:Le (M.eQ s.aA.length none) {s with aA:=s.aA++ [some 0]} (M.eQ s.aA.length none) ⟨s.aw.set o (cs.set i (.slice (.tok s.aA.length) z' [])),s.aA++ [some 0]⟩:=
  ⟨fun _ _ _ h=>h,by simp,fun _ _=> .refl _,Nat.le_refl _,fun t n' _ e=>⟨n',e,Nat.le_refl _,fun _=>rfl⟩⟩
 have r2:Rel (M.eQ s.aA.length none) ⟨s.aw.set o (cs.set i (.slice (.tok s.aA.length) z' [])),s.aA++ [some 0]⟩ w:=by
  refine⟨r'.comm,fun o' ds e=> ?_,fun o ho=>r'.ji o (by simpa using ho),fun o o' ho mT=>r'.inj o o' (by simpa using ho) (by simpa using mT),r'.tok,
   fun t b c z o hv e ho=>r'.eW t b c z o hv e (by simpa using ho),r'.fR⟩
  simp only [List.getElem?_set]at e
  split at e
  ·rename_i ho
   subst ho
   split at e
   ·cases e
    obtain⟨vs,T,g1,g2,g3,g4⟩:=r.obj o cs hc
    refine⟨vs,T,g1,by simpa using g2,g3,fun j d v e1 e2=> ?_⟩
    rw [List.getElem?_set]at e1
    split at e1
    ·rename_i hj
     subst hj
     split at e1
     ·cases e1
      exact((g4 i _ v hi e2).own (z':=z')).mono Z9
     ·cases e1
    ·exact(g4 j d v e1 e2).mono le'
   ·cases e
  ·obtain⟨vs,T,g1,g2,g3,g4⟩:=r'.obj o' ds e
   exact⟨vs,T,g1,g2,g3,fun i d v e1 e2=>(g4 i d v e1 e2).mono Z9⟩
 have ee:Ext B.M B.s B.w (M.eQ s.aA.length none) ⟨s.aw.set o (cs.set i (.slice (.tok s.aA.length) z' [])),s.aA++ [some 0]⟩ w:=by
  refine(zX e le).trans ⟨Z9,fun _ _ _ _=>rfl,fun o h1 h2=> ?_,fun t b c z hl e=> .inl ⟨hl,c,z,e⟩,fun _ _ h=>(h rfl).elim,Nat.le_refl _,rfl,rfl,rfl⟩
  simp at h2
  exact h1.elim (fun h1=>absurd h2 (Nat.not_lt.2 h1)) fun h1=>(h1 rfl).elim
 exact h c ZK act w ⟨_,ee,r2,fun k=>(ht k).mono le',h1,h2⟩
theorem bZ {ac r:AC} {l:Nat} {Q:Exit→Tm→St→Prop} {tm:Tm} {s:St} (hf:rY ac l=some r) (h:gC P B nt r (jC P B nt ac Q) tm s):jC P B nt ac Q (.goto l) tm s:=⟨r,hf,nM.qA h⟩
theorem Sx {ac r:AC} {l:Nat} {Q:Exit→Tm→St→Prop} {tm:Tm} {s:St} (hf:rY ac l=some r) (h:nM P B nt ac r Q tm s):jC P B nt ac Q (.goto l) tm s:=⟨r,hf,h⟩
theorem Sem.km {a b:AC} {Q:Exit→Tm→St→Prop} {tm:Tm} {s:St} (h:gC P B nt a (jQ (Sem P B nt b Q) Q) tm s):Sem P B nt (.seq a b) Q tm s:=Sem.seq (im h)
theorem Sem.re {a:AC} {Q:Exit→Tm→St→Prop} {tm:Tm} {s:St} (bt:Tm) (dR:List (List D)) (n m:Nat) (hn:B.s.aw.length≤n) (hm:B.s.aA.length≤m) (ht:tw tm n m bt) (ho:gU (s.cut n m).aw dR)
 (h:Sem P B nt a Q bt ⟨dR,(s.cut n m).aA⟩):Sem P B nt a Q tm s:=
 fun c hc act w hh=>h c hc act w (hh.re (Q:=Q) n m hn hm ht ho)
def Has (P:Program) (f nt:Nat) (res:List (Nat×Option (Bool×Nat))) (body:AC):Prop:=∃ fn,P.funcs[f]? = some fn∧cF P fn=some ⟨nt,res,body⟩
theorem aB.go {f:FuncId} {res:List (Nat×Option (Bool×Nat))} {body:AC} {args:List D} {s:St} {d:D} {s':St} (h0:Has P f nt res body) (hl:Nat.ble args.length nt=true)
 (h : ∀ (B:fv) (Q:Exit→Tm→St→Prop),B.s=s→iI s.aw.length s.aA.length res d s'=Q→gC P B nt body Q (nX 0 args) s):aB P f args s d s':=by
 obtain⟨fn,hf,hc⟩:=h0
 exact aB.intro ⟨fn,hf,hc⟩ (Nat.le_of_ble_eq_true hl) fun B hB=>im (h B _ hB rfl)
theorem aB.aed {f:FuncId} {args row iQ:List D} {rows kV:List (List D)} {z z' k k':Nat} (h:aB P f (.ptr 0 0:: .slice (.tok 0) z rows::args) ⟨[row],[some k]⟩ (.slice (.tok 0) z' kV) ⟨[iQ],[some k']⟩)
 (ha:D.bp 0 0 args=true) (hr:D.bp 0 0 row=true) (Hv:D.bp 0 0 iQ=true) (hw:D.hO 0 0 rows=true) (Pw:D.hO 0 0 kV=true)
 {s:St} {o t:Nat} (ho:s.aw[o]? = some row) (ht:s.aA[t]? = some (some k)):aB P f (.ptr o 0:: .slice (.tok t) z rows::args) s (.slice (.tok t) z' kV) ⟨s.aw.set o iQ,s.aA.set t (some k')⟩:=by
 refine dV.frame [o] [t] h (by simp) (by simp) (by simpa using (List.getElem?_eq_some_iff.1 ho).1) (by simpa using (List.getElem?_eq_some_iff.1 ht).1) rfl (fun i o' ds e1 e2=> ?_) rfl (fun i t' e1=> ?_)
  (by simp [D.dW,D.cb,Tag.cb,eY _ _ _ ha,iL _ _ _ hw])
  (by simp [D.bp,D.ok,Tag.ok,gS (Nat.zero_le 1) (Nat.zero_le 1) _ ha,lM (Nat.zero_le 1) (Nat.zero_le 1) _ hw]) ?_
 ·cases i with
  | zero=>simp at e1 e2;subst e1;subst e2;exact⟨by rw [eY _ _ _ hr];exact ho,gS (Nat.zero_le 1) (Nat.zero_le 1) _ hr⟩
  | succ i=>simp at e1
 ·cases i with
  | zero=>simp at e1;subst e1;simp [ht]
  | succ i=>simp at e1
 ·rintro _ _ ⟨rfl,rfl⟩
  refine⟨by simp [D.back,D.cb,Tag.cb,jf,iL _ _ _ Pw], ?_⟩
  simp [St.back,jG,eY _ _ _ Hv]
theorem aB.ahK {f:FuncId} {pre post:List D} {rows kV:List (List D)} {z z' k k':Nat} (h:aB P f (pre++ .slice (.tok 0) z rows::post) ⟨[],[some k]⟩ (.slice (.tok 0) z' kV) ⟨[],[some k']⟩)
 (hp:D.bp 0 0 pre=true) (ha:D.bp 0 0 post=true) (hw:D.hO 0 0 rows=true) (Pw:D.hO 0 0 kV=true)
 {s:St} {t:Nat} (ht:s.aA[t]? = some (some k)):aB P f (pre++ .slice (.tok t) z rows::post) s (.slice (.tok t) z' kV) ⟨s.aw,s.aA.set t (some k')⟩:=by
 refine dV.frame [] [t] h (by simp) (by simp) (by simp) (by simpa using (List.getElem?_eq_some_iff.1 ht).1) rfl (fun i o' ds e1 e2=>by simp at e1) rfl (fun i t' e1=> ?_)
  ?_ ?_ ?_
 ·cases i with
  | zero=>simp at e1;subst e1;simp [ht]
  | succ i=>simp at e1
 ·have h1:=eY [] [t] _ hp
  have h2:=eY [] [t] _ ha
  rw [fO]at h1 h2
  simp [fO,D.cb,Tag.cb,h1,h2,iL _ _ _ hw]
 ·have h1:=gS (n':=0) (m':=1) (Nat.le_refl 0) (Nat.zero_le 1) _ hp
  have h2:=gS (n':=0) (m':=1) (Nat.le_refl 0) (Nat.zero_le 1) _ ha
  rw [xe]at h1 h2 ⊢
  simp only [List.length_nil,List.length_cons,List.all_append,h1,Bool.true_and,List.all_cons,h2,Bool.and_true,D.ok,Tag.ok,lM (Nat.zero_le 0) (Nat.zero_le 1) _ hw]
  rfl
 ·rintro _ _ ⟨rfl,rfl⟩
  refine⟨by simp [D.back,D.cb,Tag.cb,jf,iL _ _ _ Pw], ?_⟩
  simp [St.back,jG]
theorem ahL (A C:Prop) : @CB (.bool true) ⟨A,C⟩=A:=by simp [CB,tL]
theorem ahM (A C:Prop) : @CB (.bool false) ⟨A,C⟩=C:=by simp [CB,tL]
theorem aac (b:Bool) (A C:Prop) : @CB (.bool (!b)) ⟨A,C⟩ = @CB (.bool b) ⟨C,A⟩:=by
 cases b <;> simp [CB,tL]
theorem H0 {b:Bool} {A C:Prop} (h1:b=true→A) (h2:b=false→C) : @CB (.bool b) ⟨A,C⟩:=⟨h1,h2⟩
theorem aad {b:Bool} {A C:Prop} (h:b=true) (h1:b=true→A) : @CB (.bool b) ⟨A,C⟩:=H0 h1 (fun h'=>by rw [h]at h';cases h')
theorem aae {b:Bool} {A C:Prop} (h:b=false) (h1:b=false→C) : @CB (.bool b) ⟨A,C⟩:=H0 (fun h'=>by rw [h]at h';cases h') h1
theorem aee {n m:Nat} {res:List (Nat×Option (Bool×Nat))} {d:D} {s':St} {tm:Tm} {s:St} {Q:Exit→Tm→St→Prop} (hQ:iI n m res d s'=Q)
 (h : ∃ l,ay res tm s=some l∧Wk ((az l).fg n m) d∧gU (s.cut n m).aw s'.aw∧(s.cut n m).aA=s'.aA):Q .ret tm s:=hQ ▸ h
theorem aef {n m:Nat} {res:List (Nat×Option (Bool×Nat))} {d:D} {s':St} {tm:Tm} {s:St} {Q:Exit→Tm→St→Prop} (hQ:iI n m res d s'=Q)
 (h : ∃ l,ay res tm s=some l∧Wk ((az l).fg n m) d∧gU (s.cut n m).aw s'.aw∧(s.cut n m).aA=s'.aA):Q .normal tm s:=hQ ▸ h
end
attribute [go_sem] Sk Xs Xt Xu Sl Ps Sn Pu Sp Pv Sq Xv Xw Xx Xy Xz Sr Ss Sv Sw
theorem Px : ∀ (tm:Tm) (s:St) (x:X),aW (AO.mv x) tm s=some (X.ev tm x,s):=
 fun tm s x=>nd (aW.eq_1 tm s x)
theorem Py : ∀ (tm:Tm) (s:St) (c a b:X),
 aW (AO.pick c a b) tm s =
  match X.ev tm c with
  | D.bool t=>some (if t=true then X.ev tm a else X.ev tm b,s)
  | x=>none:=
 fun tm s c a b=>nd (aW.eq_2 tm s c a b)
theorem Pz : ∀ (tm:Tm) (s:St) (zero:List D),
 aW (AO.alloc zero) tm s=some (D.ptr s.aw.length 0,{aw:=s.aw++ [zero],aA:=s.aA}):=
 fun tm s zero=>nd (aW.eq_3 tm s zero)
theorem PA : ∀ (tm:Tm) (s:St) (x:X),
 aW (AO.box x) tm s =
  match (X.ev tm x).row with
  | some r=>some (D.ptr s.aw.length 0,{aw:=s.aw++ [r],aA:=s.aA})
  | none=>none:=
 fun tm s x=>nd (aW.eq_4 tm s x)
theorem PB : ∀ (tm:Tm) (s:St) (zero:List D) (parts:List (Nat×Nat×X)),
 aW (AO.build zero parts) tm s =
  match qm zero (List.map (fun(p:Nat×Nat×X)=>(p.fst,p.snd.fst,X.ev tm p.snd.snd)) parts)with
  | some cs=>some (D.agg cs,s)
  | none=>none:=
 fun tm s zero parts=>nd (aW.eq_5 tm s zero parts)
theorem PC : ∀ (tm:Tm) (s:St) (zero:List D) (size n:Nat) (parts:List (Nat×X)),
 aW (AO.cL zero size n parts) tm s =
  match jq size (gi zero n) (List.map (fun(p:Nat×X)=>(p.fst,X.ev tm p.snd)) parts)with
  | some rows=>some (D.slice Tag.full size rows,s)
  | none=>none:=
 fun tm s zero size n parts=>nd (aW.eq_6 tm s zero size n parts)
theorem PD : ∀ (tm:Tm) (s:St) (zero:List D) (size n:Nat) (parts:List (Nat×X)),
 aW (AO.ug zero size n parts) tm s =
  match jq size (gi zero n) (List.map (fun(p:Nat×X)=>(p.fst,X.ev tm p.snd)) parts)with
  | some rows=>
   some (D.slice (Tag.tok s.aA.length) size rows,{aw:=s.aw,aA:=s.aA++ [some rows.length]})
  | none=>none:=
 fun tm s zero size n parts=>nd (aW.eq_7 tm s zero size n parts)
theorem PE : ∀ (tm:Tm) (s:St) (x:X),
 aW (AO.zw x) tm s =
  match X.ev tm x with
  | D.slice (Tag.tok t _) z rows=>
   if rows≠ []∧s.aA[t]? = some (some rows.length)then
    some (D.slice Tag.shared z rows,{aw:=s.aw,aA:=s.aA.set t none})
   else none
  | x=>none:=
 fun tm s x=>nd (aW.eq_8 tm s x)
theorem PF : ∀ (tm:Tm) (s:St) (x:X) (agg:Bool) (size:Nat),
 aW (AO.load x agg size) tm s =
  match X.ev tm x with
  | D.ptr o off=>
   match s.aw[o]? with
   | some cs=>
    match part cs off agg size with
    | some d=>some (d,s)
    | none=>none
   | none=>none
  | D.dE row off=>
   match part row off agg size with
   | some d=>some (d,s)
   | none=>none
  | x=>xX x agg size s:=
 fun tm s x agg size=>nd (aW.eq_9 tm s x agg size)
theorem Mk : ∀ (tm:Tm) (s:St) (p x:X) (size:Nat),
 aW (AO.store p x size) tm s =
  match X.ev tm p,(X.ev tm x).row with
  | D.ptr o off,some r=>
   match s.aw[o]? with
   | some cs=>
    if r.length=size∧off+size≤cs.length then
     some (D.tuple [],{aw:=s.aw.set o (fS cs off r),aA:=s.aA})
    else none
   | none=>none
  | x,fm=>zD x fm size s:=
 fun tm s p x size=>nd (aW.eq_10 tm s p x size)
theorem Ml : ∀ (tm:Tm) (s:St) (x:X),
 aW (AO.du x) tm s =
  match X.ev tm x with
  | D.ptr o off=>some (D.ptr o off,s)
  | D.dE row off=>some (D.dE row off,s)
  | x=>match Lo x with | some d=>some (d,s) | none=>none:=
 fun tm s x=>nd (aW.eq_11 tm s x)
theorem Mm : ∀ (tm:Tm) (s:St) (op:BinOp) (x y:X),
 aW (AO.bin op x y) tm s =
  match wa op (X.ev tm x) (X.ev tm y)with
  | some d=>some (d,s)
  | none=>none:=
 fun tm s op x y=>nd (aW.eq_12 tm s op x y)
theorem Mn : ∀ (tm:Tm) (s:St) (neg:Bool) (x y:X),
 aW (AO.Bv neg x y) tm s =
  match X.ev tm x,X.ev tm y with
  | D.bool a,D.bool b=>some (D.bool (if neg=true then !a==b else a==b),s)
  | x,fm=>none:=
 fun tm s neg x y=>nd (aW.eq_13 tm s neg x y)
theorem Mp : ∀ (tm:Tm) (s:St) (neg:Bool) (ks:List Nat) (x y:X),
 aW (AO.eqs neg ks x y) tm s =
  match X.ev tm x,X.ev tm y with
  | D.agg a,D.agg b=>
   match kH ks a b with
   | some e=>some (D.bool (if neg=true then !e else e),s)
   | none=>none
  | x,fm=>none:=
 fun tm s neg ks x y=>nd (aW.eq_14 tm s neg ks x y)
theorem Mq : ∀ (tm:Tm) (s:St) (neg:Bool) (x y:X),
 aW (AO.Fj neg x y) tm s =
  match X.ev tm x,X.ev tm y with
  | D.eO,D.eO=>some (D.bool !neg,s)
  | D.ptr o off,D.eO=>some (D.bool neg,s)
  | D.dE row off,D.eO=>some (D.bool neg,s)
  | x,fm=>none:=
 fun tm s neg x y=>nd (aW.eq_15 tm s neg x y)
theorem Mr : ∀ (tm:Tm) (s:St) (op:UnOp) (x:X),
 aW (AO.un op x) tm s =
  match Hn op (X.ev tm x)with
  | some d=>some (d,s)
  | none=>none:=
 fun tm s op x=>nd (aW.eq_16 tm s op x)
theorem Ms : ∀ (tm:Tm) (s:St) (k:IntKind) (x:X),
 aW (AO.conv k x) tm s =
  match X.ev tm x with
  | D.int k_1 n=>some (D.int k (k.wrap n),s)
  | x=>none:=
 fun tm s k x=>nd (aW.eq_17 tm s k x)
theorem Mt : ∀ (tm:Tm) (s:St) (x:X),
 aW (AO.Cv x) tm s =
  match X.ev tm x with
  | D.slice g size rows=>
   match nG rows with
   | some b=>some (D.str b,s)
   | none=>none
  | x=>none:=
 fun tm s x=>nd (aW.eq_18 tm s x)
theorem Mu : ∀ (tm:Tm) (s:St) (x:X),
 aW (AO.wU x) tm s =
  match X.ev tm x with
  | D.str l=>some (D.slice Tag.shared 1 (List.map (fun(c:UInt8)=> [D.int IntKind.u8 ↑c.toNat]) l),s)
  | x=>none:=
 fun tm s x=>nd (aW.eq_19 tm s x)
theorem Mv : ∀ (tm:Tm) (s:St) (size:Nat) (x:X) (lo hi:Option X),
 aW (AO.Cw size x lo hi) tm s =
  match X.ev tm x with
  | D.slice g z rows=>
   match vk (Option.map (fun(x:X)=>X.ev tm x) lo),
    vl (Option.map (fun(x:X)=>X.ev tm x) hi) rows.length with
   | some l,some h=>
    if(rows = []∨z=size)∧0≤l∧l≤h∧h≤ ↑rows.length then
     some
      (D.slice (if l=0 then g.cut (decide (h = ↑rows.length))else Tag.shared) z
       (List.drop l.toNat (List.take h.toNat rows)),
       s)
    else none
   | x,fm=>none
  | x=>match Lp x (Option.map (fun(x:X)=>X.ev tm x) lo) (Option.map (fun(x:X)=>X.ev tm x) hi)with | some d=>some (d,s) | none=>none:=
 fun tm s size x lo hi=>nd (aW.eq_20 tm s size x lo hi)
theorem Mw : ∀ (tm:Tm) (s:St) (x:X) (lo hi:Option X),
 aW (AO.xU x lo hi) tm s =
  match X.ev tm x with
  | D.str t=>
   match vk (Option.map (fun(x:X)=>X.ev tm x) lo),vl (Option.map (fun(x:X)=>X.ev tm x) hi) t.length with
   | some l,some h=>
    if 0≤l∧l≤h∧h≤ ↑t.length then some (D.str (List.drop l.toNat (List.take h.toNat t)),s)else none
   | x,fm=>none
  | x=>none:=
 fun tm s x lo hi=>nd (aW.eq_21 tm s x lo hi)
theorem Mx : ∀ (tm:Tm) (s:St) (x:X) (off:Nat),
 aW (AO.av x off) tm s =
  match X.ev tm x with
  | D.ptr o k=>some (D.ptr o (k+off),s)
  | D.dE row k=>some (D.dE row (k+off),s)
  | x=>match Cz x off with | some d=>some (d,s) | none=>none:=
 fun tm s x off=>nd (aW.eq_22 tm s x off)
theorem My : ∀ (tm:Tm) (s:St) (x:X) (off:Nat) (agg:Bool) (size:Nat),
 aW (AO.sn x off agg size) tm s =
  match X.ev tm x with
  | D.agg cs=>
   match part cs off agg size with
   | some d=>some (d,s)
   | none=>none
  | x=>none:=
 fun tm s x off agg size=>nd (aW.eq_23 tm s x off agg size)
theorem Mz : ∀ (tm:Tm) (s:St) (x i:X) (size:Nat),
 aW (AO.ct x i size) tm s =
  match X.ev tm x,X.ev tm i with
  | D.slice g z rows,D.int k n=>
   if 0≤n∧z=size then
    match rows[n.toNat]? with
    | some row=>some (D.dE row 0,s)
    | none=>none
   else none
  | x,fm=>match wW x fm size with | some d=>some (d,s) | none=>none:=
 fun tm s x i size=>nd (aW.eq_24 tm s x i size)
theorem MA : ∀ (tm:Tm) (s:St) (x i:X),
 aW (AO.od x i) tm s =
  match X.ev tm x,X.ev tm i with
  | D.str t,D.int k n=>
   if 0≤n then
    match t[n.toNat]? with
    | some c=>some (D.int IntKind.u8 ↑c.toNat,s)
    | none=>none
   else none
  | x,fm=>none:=
 fun tm s x i=>nd (aW.eq_25 tm s x i)
theorem MB : ∀ (tm:Tm) (s:St) (x:X) (i:Nat),
 aW (AO.ext x i) tm s =
  match X.ev tm x with
  | D.tuple ds=>
   match ds[i]? with
   | some d=>some (d,s)
   | none=>none
  | x=>none:=
 fun tm s x i=>nd (aW.eq_26 tm s x i)
theorem MC : ∀ (tm:Tm) (s:St) (x:X),
 aW (AO.lH x) tm s =
  match X.ev tm x with
  | D.str t=>some (D.int IntKind.i64 ↑t.length,s)
  | x=>none:=
 fun tm s x=>nd (aW.eq_27 tm s x)
theorem MD : ∀ (tm:Tm) (s:St) (x:X),
 aW (AO.len x) tm s =
  match X.ev tm x with
  | D.slice g size rows=>some (D.int IntKind.i64 ↑rows.length,s)
  | x=>match Ef x with | some d=>some (d,s) | none=>none:=
 fun tm s x=>nd (aW.eq_28 tm s x)
theorem ME : ∀ (tm:Tm) (s:St) (size bytes:Nat) (x y:X),
 aW (AO.app size bytes x y) tm s =
  match X.ev tm x with
  | D.slice g z rows=>jr size bytes (D.slice g z rows) (X.ev tm y) s
  | d=>zE size bytes d (X.ev tm y) s:=
 fun tm s size bytes x y=>nd (aW.eq_29 tm s size bytes x y)
theorem MF : ∀ (tm:Tm) (s:St) (isMax:Bool) (x y:X),
 aW (AO.mm isMax x y) tm s =
  match X.ev tm x,X.ev tm y with
  | D.int k a,D.int k' b=>
   if k=k' then some (D.int k (if isMax=true then if b > a then b else a else if b<a then b else a),s)
   else none
  | x,fm=>none:=
 fun tm s isMax x y=>nd (aW.eq_30 tm s isMax x y)
theorem MG (tm:Tm) (s:St) (r:List D) (T:TypeId):aW (AO.sq (.eO::r) T) tm s=some (.ptr s.aw.length 0,{aw:=s.aw++ [.fi T s.aw.length::r],aA:=s.aA}):=nd rfl
theorem MH (tm:Tm) (s:St) (x:X) (T:TypeId):aW (AO.zz x T) tm s =
 match (x.ev tm).row with
 | some (.eO::r)=>some (.ptr s.aw.length 0,{aw:=s.aw++ [.fi T s.aw.length::r],aA:=s.aA})
 | _=>none:=nd rfl
theorem MI (tm:Tm) (s:St) (x y:X):aW (AO.apps x y) tm s =
 match y.ev tm with
 | .str l=>zC (x.ev tm) (.slice .shared 1 (l.map fun c=> [.int .u8 c.toNat])) s
 | _=>none:=nd rfl
theorem MJ (tm:Tm) (s:St) (x y:X):aW (AO.zA x y) tm s=zC (x.ev tm) (y.ev tm) s:=nd rfl
theorem MK (tm:Tm) (s:St) (f:Nat) (xs:List X):aW (AO.tD f xs) tm s=some (.gb f (xs.map fun x=>x.ev tm),s):=nd rfl
theorem MM (tm:Tm) (s:St):aW AO.tF tm s=some (.fQ s.aw.length,{aw:=s.aw++ [[]],aA:=s.aA}):=nd rfl
theorem MN (tm:Tm) (s:St) (m k v:X):aW (AO.xV m k v) tm s =
 match m.ev tm,k.ev tm,v.ev tm with
 | .fQ o, .str key, .slice g z rows=>
  match s.aw[o]? with
  | some cs=>match wb key (.slice g z rows) cs with | some jh=>some (.tuple [],{aw:=s.aw.set o jh,aA:=s.aA}) | none=>none
  | none=>none
 | _,_,_=>none:=nd rfl
theorem MO (tm:Tm) (s:St) (m k:X) (zero:D):aW (AO.vj m k zero) tm s =
 match m.ev tm,k.ev tm with
 | .fQ o, .str key=>
  match s.aw[o]? with
  | some cs=>match xW key zero cs with | some d=>some (d,s) | none=>none
  | none=>none
 | _,_=>none:=nd rfl
theorem H2 (f:Nat) (xs:List X):(AO.tD f xs).core=false:=nd rfl
theorem H3:AO.tF.core=true:=nd rfl
theorem H4 (m k v:X):(AO.xV m k v).core=true:=nd rfl
theorem H5 (m k:X) (zero:D):(AO.vj m k zero).core=false:=nd rfl
theorem PG (n m f:Nat) (cs:List D):D.fg n m (.gb f cs) = .gb f (D.gw n m cs):=nd (by simp only [D.fg])
theorem PH (n m:Nat) (o:Nat):D.fg n m (.fQ o)=if o<n then .fQ o else .junk:=nd (by simp only [D.fg])
theorem MP (d:Option Nat) (g:Option (Nat×Bool)) (t:Nat) (xs:List X):(AI.iS d g t xs).dst=d:=nd rfl
theorem H6 (x y:X):(AO.zA x y).core=true:=nd rfl
theorem H7 (z:List D) (T:TypeId):(AO.sq z T).core=true:=nd rfl
theorem H8 (x:X) (T:TypeId):(AO.zz x T).core=true:=nd rfl
theorem H9 (x y:X):(AO.apps x y).core=true:=nd rfl
theorem PI (n m:Nat) (v:Value):D.fg n m (.val v) = .val v:=nd (by simp only [D.fg])
theorem PJ (n m:Nat) (T:TypeId) (o:Nat):D.fg n m (.fi T o)=if o<n then .fi T o else .junk:=nd (by simp only [D.fg])
theorem Sy : ∀ (tm:Tm) (t:Nat),X.ev tm (X.s t)=tm.get t:=
 fun tm t=>nd (X.ev.eq_1 tm t)
theorem Sz : ∀ (tm:Tm) (d:D),X.ev tm (X.k d)=d:=
 fun tm d=>nd (X.ev.eq_2 tm d)
theorem MQ : ∀ (tm:Tm) (d:D) (t:Nat),tm.put (some t) d=tm.set t d:=
 fun tm d t=>nd (Tm.put.eq_1 tm d t)
theorem MR : ∀ (tm:Tm) (d:D),tm.put none d=tm:=
 fun tm d=>nd (Tm.put.eq_2 tm d)
theorem MS : ∀ (x:Nat) (fm:D),Tm.set [] x fm = [(x,fm)]:=
 fun x fm=>nd (Tm.set.eq_1 x fm)
theorem MT : ∀ (x:Nat) (fm:D) (k:Nat) (e:D) (r:List (Nat×D)),
 Tm.set ((k,e)::r) x fm=if k=x then(k,fm)::r else(k,e)::Tm.set r x fm:=
 fun x fm k e r=>nd (Tm.set.eq_2 x fm k e r)
theorem MU : ∀ (x:Nat),Tm.get [] x=D.junk:=
 fun x=>nd (Tm.get.eq_1 x)
theorem MV : ∀ (x k:Nat) (d:D) (r:List (Nat×D)),Tm.get ((k,d)::r) x=if k=x then d else Tm.get r x:=
 fun x k d r=>nd (Tm.get.eq_2 x k d r)
theorem PK : ∀ (x:Nat),nX x [] = []:=
 fun x=>nd (nX.eq_1 x)
theorem PN : ∀ (x:Nat) (d:D) (r:List D),nX x (d::r)=(x,d)::nX (x+1) r:=
 fun x d r=>nd (nX.eq_2 x d r)
theorem MW : ∀ (d:Option Nat) (g:Option (Nat×Bool)) (o:AO),(AI.op d g o).dst=d:=
 fun d g o=>nd (AI.dst.eq_1 d g o)
theorem MX : ∀ (d:Option Nat) (g:Option (Nat×Bool)) (f:Nat) (xs:List X),(AI.call d g f xs).dst=d:=
 fun d g f xs=>nd (AI.dst.eq_2 d g f xs)
theorem MY : ∀ (d:Option Nat) (g:Option (Nat×Bool)) (neg:Bool) (fm:X),(AI.nil d g neg fm).dst=d:=
 fun d g neg fm=>nd (AI.dst.eq_3 d g neg fm)
theorem SA : ∀ (cs:List D) (off size:Nat),
 part cs off true size=if off+size≤cs.length then some (D.agg (List.take size (List.drop off cs)))else none:=
 fun cs off size=>nd (part.eq_1 cs off size)
theorem SB : ∀ (cs:List D) (off size:Nat),part cs off false size=cs[off]? :=
 fun cs off size=>nd (part.eq_2 cs off size)
theorem MZ : ∀ (cs:List D) (off:Nat) (r:List D),
 fS cs off r=List.take off cs++r++List.drop (off+r.length) cs:=
 fun cs off r=>nd (fS.eq_1 cs off r)
theorem PO : ∀ (cells:List D),qm cells [] = some cells:=
 fun cells=>nd (qm.eq_1 cells)
theorem PQ : ∀ (cells:List D) (off size:Nat) (d:D) (rest:List (Nat×Nat×D)),
 qm cells ((off,size,d)::rest) =
  match d.row with
  | none=>none
  | some r=>if r.length=size∧off+size≤cells.length then qm (fS cells off r) rest else none:=
 fun cells off size d rest=>nd (qm.eq_2 cells off size d rest)
theorem Ia : ∀ (size:Nat) (rows:List (List D)),jq size rows [] = some rows:=
 fun size rows=>nd (jq.eq_1 size rows)
theorem Ib : ∀ (size:Nat) (rows:List (List D)) (i:Nat) (d:D) (rest:List (Nat×D)),
 jq size rows ((i,d)::rest) =
  match d.row with
  | none=>none
  | some r=>if r.length=size∧i<rows.length then jq size (rows.set i r) rest else none:=
 fun size rows i d rest=>nd (jq.eq_2 size rows i d rest)
theorem Ic : ∀ (zero:List D),gi zero 0 = []:=
 fun zero=>nd (gi.eq_1 zero)
theorem Ie : ∀ (zero:List D) (i:Nat),gi zero i.succ=zero::gi zero i:=
 fun zero i=>nd (gi.eq_2 zero i)
theorem SC : ∀ (op:BinOp) (k:IntKind) (a:Int) (k':IntKind) (b:Int),
 wa op (D.int k a) (D.int k' b)=if k=k' then gd op k a b else none:=
 fun op k a k' b=>nd (wa.eq_1 op k a k' b)
theorem SD : ∀ (op:BinOp) (a b:List UInt8),wa op (D.str a) (D.str b)=nr op a b:=
 fun op a b=>nd (wa.eq_2 op a b)
theorem M3 : ∀ (k:IntKind) (a b:Int),gd BinOp.add k a b=some (D.int k (k.wrap (a+b))):=
 fun k a b=>nd (gd.eq_1 k a b)
theorem M4 : ∀ (k:IntKind) (a b:Int),gd BinOp.sub k a b=some (D.int k (k.wrap (a - b))):=
 fun k a b=>nd (gd.eq_2 k a b)
theorem M5 : ∀ (k:IntKind) (a b:Int),gd BinOp.mul k a b=some (D.int k (k.wrap (a*b))):=
 fun k a b=>nd (gd.eq_3 k a b)
theorem M6 : ∀ (k:IntKind) (a b:Int),
 gd BinOp.quo k a b=if b=0 then none else some (D.int k (k.wrap (a.tdiv b))):=
 fun k a b=>nd (gd.eq_4 k a b)
theorem M7 : ∀ (k:IntKind) (a b:Int),gd BinOp.rem k a b=if b=0 then none else some (D.int k (a.tmod b)):=
 fun k a b=>nd (gd.eq_5 k a b)
theorem M8 : ∀ (k:IntKind) (a b:Int),gd BinOp.eql k a b=some (D.bool (a==b)):=
 fun k a b=>nd (gd.eq_6 k a b)
theorem M9 : ∀ (k:IntKind) (a b:Int),gd BinOp.neq k a b=some (D.bool (a != b)):=
 fun k a b=>nd (gd.eq_7 k a b)
theorem Na : ∀ (k:IntKind) (a b:Int),gd BinOp.lss k a b=some (D.bool (decide (a<b))):=
 fun k a b=>nd (gd.eq_8 k a b)
theorem Nb : ∀ (k:IntKind) (a b:Int),gd BinOp.leq k a b=some (D.bool (decide (a≤b))):=
 fun k a b=>nd (gd.eq_9 k a b)
theorem JS : ∀ (k:IntKind) (a b:Int),gd BinOp.gtr k a b=some (D.bool (decide (a > b))):=
 fun k a b=>nd (gd.eq_10 k a b)
theorem JT : ∀ (k:IntKind) (a b:Int),gd BinOp.geq k a b=some (D.bool (decide (a≥b))):=
 fun k a b=>nd (gd.eq_11 k a b)
theorem Nc : ∀ (a b:List UInt8),
 nr BinOp.add a b=if a.length+b.length≤bm then some (D.str (a++b))else none:=
 fun a b=>nd (nr.eq_1 a b)
theorem Nd : ∀ (a b:List UInt8),nr BinOp.eql a b=some (D.bool (a==b)):=
 fun a b=>nd (nr.eq_2 a b)
theorem Nf : ∀ (a b:List UInt8),nr BinOp.neq a b=some (D.bool !a==b):=
 fun a b=>nd (nr.eq_3 a b)
theorem Ng : ∀ (a b:List UInt8),nr BinOp.lss a b=some (D.bool (bytesLess a b)):=
 fun a b=>nd (nr.eq_4 a b)
theorem XA : ∀ (k:IntKind) (n:Int),Hn UnOp.neg (D.int k n)=some (D.int k (k.wrap (0 - n))):=
 fun k n=>nd (Hn.eq_1 k n)
theorem XB : ∀ (b:Bool),Hn UnOp.not (D.bool b)=some (D.bool !b):=
 fun b=>nd (Hn.eq_2 b)
theorem Nh : ∀ (k:IntKind) (a:Int) (k':IntKind) (b:Int),
 ma 0 (D.int k a) (D.int k' b)=if k=k' then some (a==b)else none:=
 fun k a k' b=>nd (ma.eq_1 k a k' b)
theorem Ni : ∀ (a b:Bool),ma 1 (D.bool a) (D.bool b)=some (a==b):=
 fun a b=>nd (ma.eq_2 a b)
theorem Nj : ∀ (a b:List UInt8),ma 2 (D.str a) (D.str b)=some (a==b):=
 fun a b=>nd (ma.eq_3 a b)
theorem JU:kH [] [] [] = some true:=
 nd (kH.eq_1)
theorem JV : ∀ (k:Nat) (ks:List Nat) (Vw:D) (xs:List D) (y:D) (ys:List D),
 kH (k::ks) (Vw::xs) (y::ys) =
  match ma k Vw y with
  | none=>none
  | some true=>kH ks xs ys
  | some false=>some false:=
 fun k ks Vw xs y ys=>nd (kH.eq_2 k ks Vw xs y ys)
theorem XC:vk none=some 0:=
 nd (vk.eq_1)
theorem XD : ∀ (k:IntKind) (n:Int),vk (some (D.int k n))=some n:=
 fun k n=>nd (vk.eq_2 k n)
theorem XE : ∀ (len:Nat),vl none len=some ↑len:=
 fun len=>nd (vl.eq_1 len)
theorem XF : ∀ (len:Nat) (k:IntKind) (n:Int),vl (some (D.int k n)) len=some n:=
 fun len k n=>nd (vl.eq_2 len k n)
theorem JW : ∀ (zero:List D),(AO.alloc zero).core=true:=
 fun zero=>nd (AO.core.eq_1 zero)
theorem JX : ∀ (fm:X),(AO.box fm).core=true:=
 fun fm=>nd (AO.core.eq_2 fm)
theorem JY : ∀ (zero:List D) (size n:Nat) (parts:List (Nat×X)),(AO.ug zero size n parts).core=true:=
 fun zero size n parts=>nd (AO.core.eq_3 zero size n parts)
theorem JZ : ∀ (fm:X),(AO.zw fm).core=true:=
 fun fm=>nd (AO.core.eq_4 fm)
theorem J0 : ∀ (p fm:X) (size:Nat),(AO.store p fm size).core=true:=
 fun p fm size=>nd (AO.core.eq_5 p fm size)
theorem J1 : ∀ (size bytes:Nat) (fm y:X),(AO.app size bytes fm y).core=true:=
 fun size bytes fm y=>nd (AO.core.eq_6 size bytes fm y)
theorem J2 : ∀ (val:Nat) (zero:List D),(AI.op (some val) none (AO.alloc zero)).kind=AK.alloc:=
 fun val zero=>nd (AI.kind.eq_1 val zero)
theorem J3 : ∀ (zero:List D),(AO.alloc zero).kind=AK.core:=
 fun zero=>nd (AO.kind.eq_1 zero)
theorem J4 : ∀ (fm:X),(AO.box fm).kind=AK.core:=
 fun fm=>nd (AO.kind.eq_2 fm)
theorem J5 : ∀ (zero:List D) (size n:Nat) (parts:List (Nat×X)),(AO.ug zero size n parts).kind=AK.core:=
 fun zero size n parts=>nd (AO.kind.eq_3 zero size n parts)
theorem J6 : ∀ (fm:X),(AO.zw fm).kind=AK.core:=
 fun fm=>nd (AO.kind.eq_4 fm)
theorem J7 : ∀ (p fm:X) (size:Nat),(AO.store p fm size).kind=AK.core:=
 fun p fm size=>nd (AO.kind.eq_5 p fm size)
theorem J8 : ∀ (size bytes:Nat) (fm y:X),(AO.app size bytes fm y).kind=AK.core:=
 fun size bytes fm y=>nd (AO.kind.eq_6 size bytes fm y)
theorem J9 : ∀ (fm:X) (agg:Bool) (size:Nat),(AO.load fm agg size).kind=AK.load:=
 fun _ _ _=>nd rfl
theorem Nk:gK AK.core=true:=
 nd (gK.eq_1)
theorem Nl:gK AK.alloc=true:=
 nd (gK.eq_2)
theorem Nn : ∀ (i:AI) (tm:Tm) (d:D),nB i tm d [] = True:=
 fun i tm d=>nd (nB.eq_1 i tm d)
theorem No : ∀ (i:AI) (tm:Tm) (d:D) (s:St) (r:List St),
 nB i tm d (s::r)=(jo i tm s=some d∧nB i tm d r):=
 fun i tm d s r=>nd (nB.eq_2 i tm d s r)
theorem XG : ∀ (tm:Tm) (s:St) (dst:Option Nat) (o:AO),
 jo (AI.op dst none o) tm s=Option.map (fun(x:D×St)=>x.fst) (aW o tm s):=
 fun tm s dst o=>nd (jo.eq_1 tm s dst o)
theorem XH : ∀ (tm:Tm) (s:St) (dst:Option Nat) (t:Nat) (want:Bool) (o:AO),
 jo (AI.op dst (some (t,want)) o) tm s =
  match tm.get t with
  | D.bool b=>if b=want then Option.map (fun(x:D×St)=>x.fst) (aW o tm s)else some (D.tuple [])
  | D.tuple vs=>some (D.tuple [])
  | x=>none:=
 fun tm s dst t want o=>nd (jo.eq_2 tm s dst t want o)
theorem Ka : ∀ (is:List AI),mg is [] = some []:=
 fun is=>nd (mg.eq_1 is)
theorem Kb : ∀ (is:List AI) (q b:Nat) (r:List (Nat×Nat)),
 mg is ((q,b)::r) =
  match is[q]?,mg is r with
  | some ai,some l=>some ((ai,b)::l)
  | x,fm=>none:=
 fun is q b r=>nd (mg.eq_2 is q b r)
theorem XI : ∀ (tm:Tm) (n m:Nat),tw tm n m [] = True:=
 fun tm n m=>nd (tw.eq_1 tm n m)
theorem XJ : ∀ (tm:Tm) (n m k:Nat) (d:D) (r:List (Nat×D)),
 tw tm n m ((k,d)::r)=(Wk (D.fg n m (tm.get k)) d∧tw tm n m r):=
 fun tm n m k d r=>nd (tw.eq_2 tm n m k d r)
theorem SE : ∀ (n m o off:Nat),D.fg n m (D.ptr o off)=if o<n then D.ptr o off else D.junk:=
 fun n m o off=>nd (D.fg.eq_1 n m o off)
theorem SF : ∀ (n m:Nat) (row:List D) (off:Nat),D.fg n m (D.dE row off)=D.dE (D.gw n m row) off:=
 fun n m row off=>nd (D.fg.eq_2 n m row off)
theorem SG : ∀ (n m:Nat) (g:Tag) (z:Nat) (rows:List (List D)),
 D.fg n m (D.slice g z rows)=D.slice (Tag.fg m g) z (D.kf n m rows):=
 fun n m g z rows=>nd (D.fg.eq_3 n m g z rows)
theorem SH : ∀ (n m:Nat) (cs:List D),D.fg n m (D.agg cs)=D.agg (D.gw n m cs):=
 fun n m cs=>nd (D.fg.eq_4 n m cs)
theorem SI : ∀ (n m:Nat) (ds:List D),D.fg n m (D.tuple ds)=D.tuple (D.gw n m ds):=
 fun n m ds=>nd (D.fg.eq_5 n m ds)
theorem SJ : ∀ (n m:Nat),D.fg n m D.junk=D.junk:=
 fun n m=>nd (D.fg.eq_6 n m)
theorem SK : ∀ (n m:Nat) (k:IntKind) (fm:Int),D.fg n m (D.int k fm)=D.int k fm:=
 fun n m k fm=>nd (D.fg.eq_7 n m k fm)
theorem SL : ∀ (n m:Nat) (b:Bool),D.fg n m (D.bool b)=D.bool b:=
 fun n m b=>nd (D.fg.eq_8 n m b)
theorem SM : ∀ (n m:Nat) (l:List UInt8),D.fg n m (D.str l)=D.str l:=
 fun n m l=>nd (D.fg.eq_9 n m l)
theorem PR : ∀ (n m:Nat),D.fg n m D.eO=D.eO:=
 fun n m=>nd (D.fg.eq_10 n m)
theorem PS : ∀ (n m:Nat),D.gw n m [] = []:=
 fun n m=>nd (D.gw.eq_1 n m)
theorem PT : ∀ (n m:Nat) (d:D) (r:List D),D.gw n m (d::r)=D.fg n m d::D.gw n m r:=
 fun n m d r=>nd (D.gw.eq_2 n m d r)
theorem PU : ∀ (n m:Nat),D.kf n m [] = []:=
 fun n m=>nd (D.kf.eq_1 n m)
theorem PV : ∀ (n m:Nat) (d:List D) (r:List (List D)),D.kf n m (d::r)=D.gw n m d::D.kf n m r:=
 fun n m d r=>nd (D.kf.eq_2 n m d r)
theorem Np : ∀ (m t:Nat) (y:Bool),Tag.fg m (Tag.tok t y)=if t<m then Tag.tok t y else Tag.shared:=
 fun _ _ _=>nd rfl
theorem Nq : ∀ (s:St) (n m:Nat),
 s.cut n m = {aw:=List.map (D.gw n m) (List.take n s.aw),aA:=List.take m s.aA}:=
 fun s n m=>nd (St.cut.eq_1 s n m)
theorem SN : ∀ (d:D),az [d] = d:=
 fun d=>nd (az.eq_1 d)
theorem SO (size bytes t:Nat) (rows:List (List D)) (g:Tag) (r:List D) (s:St):jr size bytes (.slice (.tok t) size rows) (.slice g size [r]) s =
 if(rows.length+1)*(bytes+1)≤bm∧s.aA[t]? = some (some rows.length)then some (.slice (.tok t) size (rows++ [r]),⟨s.aw,s.aA.set t (some (rows.length+1))⟩)else none:=by
 simp only [jr,List.length_singleton]
 by_cases h1:(rows.length+1)*(bytes+1)≤bm <;> by_cases h2:s.aA[t]? = some (some rows.length) <;> simp [h1,h2]
theorem Ig {size bytes t:Nat} {rows new:List (List D)} {g:Tag} {s:St} (h1:(rows.length+new.length)*(bytes+1)≤bm) (h2:s.aA[t]? = some (some rows.length)) :
 jr size bytes (.slice (.tok t) size rows) (.slice g size new) s=some (.slice (.tok t) size (rows++new),⟨s.aw,s.aA.set t (some (rows.length+new.length))⟩):=by
 cases new with
 | nil=>
  have:s.aA.set t (some rows.length)=s.aA:=by
   apply List.ext_getElem?
   intro i
   rw [List.getElem?_set]
   split
   ·rename_i hi;subst hi;rw [h2,if_pos (List.getElem?_eq_some_iff.1 h2).1]
   ·rfl
  simp only [List.length_nil,Nat.add_zero]at h1
  simp [jr,h1,this]
 | cons x l=>
  simp only [jr,h1,h2]
  simp
theorem PW (size bytes z:Nat) (g:Tag) (r:List D) (s:St):jr size bytes (.slice .full z []) (.slice g size [r]) s =
 if bytes+1≤bm then some (.slice (.tok s.aA.length) size [r],⟨s.aw,s.aA++ [some 1]⟩)else none:=by
 simp [jr]
theorem XK {P:Program} {B:fv} {nt:Nat} (ac:AC) (Q:Exit→Tm→St→Prop) (tm:Tm) (s:St):jC P B nt ac Q .normal tm s=Q .normal tm s:=nd rfl
theorem XL {P:Program} {B:fv} {nt:Nat} (ac:AC) (Q:Exit→Tm→St→Prop) (tm:Tm) (s:St):jC P B nt ac Q .ret tm s=Q .ret tm s:=nd rfl
theorem XM {P:Program} {B:fv} {nt:Nat} (ac:AC) (Q:Exit→Tm→St→Prop) (tm:Tm) (s:St) (i:Nat):jC P B nt ac Q (.exit i) tm s=Q (.exit i) tm s:=nd rfl
theorem XN (m:Nat):Tag.fg m .full = .full:=nd rfl
theorem PX (m:Nat):Tag.fg m .shared = .shared:=nd rfl
theorem aeg {P:Program} (K:Tm→St→Prop) (tm:Tm) (s:St):jI P [] K tm s=K tm s:=nd rfl
theorem s_op {P:Program} (dst:Option Nat) (o:AO) (r:List AI) (K:Tm→St→Prop) (tm:Tm) (s:St) :
 jI P (.op dst none o::r) K tm s=(match aW o tm s with | some (d,s')=>jI P r K (tm.put dst d) s' | none=>False):=nd rfl
def KJ (P:Program) (r:List AI) (K:Tm→St→Prop) (tm:Tm) (dst:Option Nat) (d:D) (s:St):Prop:=jI P r K (tm.put dst d) s
theorem ahO {P:Program} (r:List AI) (K:Tm→St→Prop) (tm:Tm) (dst:Option Nat) (d:D) (s:St):KJ P r K tm dst d s=jI P r K (tm.put dst d) s:=nd rfl
theorem s_call {P:Program} (dst:Option Nat) (f:Nat) (xs:List X) (r:List AI) (K:Tm→St→Prop) (tm:Tm) (s:St) :
 jI P (.call dst none f xs::r) K tm s=CL P f (xs.map (·.ev tm)) s (KJ P r K tm dst):=nd rfl
def NJ (P:Program) (dst:Option Nat) (neg:Bool) (x:D) (r:List AI) (K:Tm→St→Prop) (tm:Tm) (s:St):Prop:=
 match x with
 | .slice _ _ rows=>∀ b:Bool,(rows≠ []→b=false)→jI P r K (tm.put dst (.bool (if neg then !b else b))) s
 | _=>False
theorem aaf {P:Program} (dst:Option Nat) (neg:Bool) (x:X) (r:List AI) (K:Tm→St→Prop) (tm:Tm) (s:St) :
 jI P (.nil dst none neg x::r) K tm s=NJ P dst neg (x.ev tm) r K tm s:=nd rfl
theorem XO {P:Program} (dst:Option Nat) (neg:Bool) (g:Tag) (z:Nat) (d:List D) (l:List (List D)) (r:List AI) (K:Tm→St→Prop) (tm:Tm) (s:St) :
 NJ P dst neg (.slice g z (d::l)) r K tm s=jI P r K (tm.put dst (.bool neg)) s:=by
 simp only [NJ,ne_eq,reduceCtorEq,not_false_eq_true,true_imp_iff,eq_iff_iff]
 refine⟨fun h=>by have:=h false rfl;cases neg <;> exact this,fun h b hb=> ?_⟩
 subst hb;cases neg <;> exact h
theorem Ih {P:Program} {dst:Option Nat} {neg:Bool} {g:Tag} {z:Nat} {l:List (List D)} {r:List AI} {K:Tm→St→Prop} {tm:Tm} {s:St}
 (h1:l = []→jI P r K (tm.put dst (.bool (!neg))) s) (h2:jI P r K (tm.put dst (.bool neg)) s):NJ P dst neg (.slice g z l) r K tm s:=by
 intro b hb
 cases b with
 | false=>cases neg <;> exact h2
 | true=>
  have:l = []:=Decidable.byContradiction fun h=>by cases hb h
  cases neg <;> exact h1 this
theorem aei {P:Program} (dst:Option Nat) (t:Nat) (w:Bool) (o:AO) (r:List AI) (K:Tm→St→Prop) (tm:Tm) (s:St) :
 jI P (.op dst (some (t,w)) o::r) K tm s = @GB (tm.get t) w ⟨(jI P (.op dst none o::r) K tm s),(jI P r K (tm.put dst (.tuple [])) s)⟩:=nd rfl
def CV (P:Program) (x:D) (aej:List D) (s:St) (K:D→St→Prop):Prop:=
 match x with
 | .gb f mW=>enters P f=true∧CL P f (aej++mW) s K
 | _=>False
theorem XP {P:Program} (dst:Option Nat) (t:Nat) (xs:List X) (r:List AI) (K:Tm→St→Prop) (tm:Tm) (s:St) :
 jI P (.iS dst none t xs::r) K tm s=CV P (tm.get t) (xs.map (·.ev tm)) s (KJ P r K tm dst):=nd rfl
theorem CV.use {P:Program} {f:Nat} {mW aej:List D} {s s':St} {d:D} {K:D→St→Prop} (he:enters P f=true) (h:aB P f (aej++mW) s d s') (k:K d s'):CV P (.gb f mW) aej s K:=⟨he,d,s',h,k⟩
theorem SP {P:Program} (dst:Option Nat) (t:Nat) (w:Bool) (u:Nat) (xs:List X) (r:List AI) (K:Tm→St→Prop) (tm:Tm) (s:St) :
 jI P (.iS dst (some (t,w)) u xs::r) K tm s = @GB (tm.get t) w ⟨(jI P (.iS dst none u xs::r) K tm s),(jI P r K (tm.put dst (.tuple [])) s)⟩:=nd rfl
theorem XQ {P:Program} (dst:Option Nat) (t:Nat) (w:Bool) (f:Nat) (xs:List X) (r:List AI) (K:Tm→St→Prop) (tm:Tm) (s:St) :
 jI P (.call dst (some (t,w)) f xs::r) K tm s = @GB (tm.get t) w ⟨(jI P (.call dst none f xs::r) K tm s),(jI P r K (tm.put dst (.tuple [])) s)⟩:=nd rfl
theorem aah {P:Program} (dst:Option Nat) (t:Nat) (w:Bool) (neg:Bool) (x:X) (r:List AI) (K:Tm→St→Prop) (tm:Tm) (s:St) :
 jI P (.nil dst (some (t,w)) neg x::r) K tm s = @GB (tm.get t) w ⟨(jI P (.nil dst none neg x::r) K tm s),(jI P r K (tm.put dst (.tuple [])) s)⟩:=nd rfl
theorem ahP (b:Bool) (A C:Prop) : @GB (.bool b) true ⟨A,C⟩ = @CB (.bool b) ⟨A,C⟩:=nd rfl
theorem ahQ (b:Bool) (A C:Prop) : @GB (.bool b) false ⟨A,C⟩ = @CB (.bool b) ⟨C,A⟩:=by
 cases b <;> simp [GB,CB,GJ,tL]
theorem ahR (l:List D) (w:Bool) (A C:Prop) : @GB (.tuple l) w ⟨A,C⟩=C:=nd rfl
theorem aek {P:Program} {K:Tm→St→Prop} (bD:List St) (tm:Tm) (s:St):gj P K [] bD tm s=K tm s:=nd rfl
def OJ (P:Program) (o:AO) (dst:Option Nat) (b:Nat) (r:List (AI×Nat)) (K:Tm→St→Prop) (bD:List St) (tm:Tm) (s:St):Bool→Prop
 | true=>match aW o tm s with | some (d,s')=>gj P K r (s::bD) (tm.put dst d) s' | none=>False
 | false=>match aW o tm s with | some (d,_)=>nB (.op dst none o) tm d (bD.take b)∧gj P K r bD (tm.put dst d) s | none=>False
theorem ahT {P:Program} {K:Tm→St→Prop} (dst:Option Nat) (o:AO) (b:Nat) (r:List (AI×Nat)) (bD:List St) (tm:Tm) (s:St) :
 gj P K ((.op dst none o,b)::r) bD tm s=OJ P o dst b r K bD tm s o.core:=by
 simp only [gj,mh]
 cases o.core <;> rfl
theorem ahU {P:Program} (o:AO) (dst:Option Nat) (b:Nat) (r:List (AI×Nat)) (K:Tm→St→Prop) (bD:List St) (tm:Tm) (s:St) :
 OJ P o dst b r K bD tm s true=match aW o tm s with | some (d,s')=>gj P K r (s::bD) (tm.put dst d) s' | none=>False:=nd rfl
theorem ahV {P:Program} (o:AO) (dst:Option Nat) (b:Nat) (r:List (AI×Nat)) (K:Tm→St→Prop) (bD:List St) (tm:Tm) (s:St) :
 OJ P o dst b r K bD tm s false=match aW o tm s with | some (d,_)=>nB (.op dst none o) tm d (bD.take b)∧gj P K r bD (tm.put dst d) s | none=>False:=nd rfl
theorem ael {P:Program} {K:Tm→St→Prop} (dst:Option Nat) (t:Nat) (w:Bool) (o:AO) (b:Nat) (r:List (AI×Nat)) (bD:List St) (tm:Tm) (s:St) :
 gj P K ((.op dst (some (t,w)) o,b)::r) bD tm s = @GB (tm.get t) w ⟨(gj P K ((.op dst none o,b)::r) bD tm s),(gj P K r (if o.core then s::bD else bD) (tm.put dst (.tuple [])) s)⟩:=by
 simp only [GB,gj,mh]
 cases o.core <;> rfl
def KG (P:Program) (K:Tm→St→Prop) (r:List (AI×Nat)) (bD:List St) (tm:Tm) (dst:Option Nat) (d:D) (s:St):Prop:=gj P K r bD (tm.put dst d) s
theorem ahW {P:Program} (K:Tm→St→Prop) (r:List (AI×Nat)) (bD:List St) (tm:Tm) (dst:Option Nat) (d:D) (s:St):KG P K r bD tm dst d s=gj P K r bD (tm.put dst d) s:=nd rfl
theorem g_call {P:Program} {K:Tm→St→Prop} (dst:Option Nat) (f:Nat) (xs:List X) (b:Nat) (r:List (AI×Nat)) (bD:List St) (tm:Tm) (s:St) :
 gj P K ((.call dst none f xs,b)::r) bD tm s=CL P f (xs.map (·.ev tm)) s (KG P K r (s::bD) tm dst):=nd rfl
theorem XR {P:Program} {K:Tm→St→Prop} (dst:Option Nat) (t:Nat) (w:Bool) (f:Nat) (xs:List X) (b:Nat) (r:List (AI×Nat)) (bD:List St) (tm:Tm) (s:St) :
 gj P K ((.call dst (some (t,w)) f xs,b)::r) bD tm s = @GB (tm.get t) w ⟨(gj P K ((.call dst none f xs,b)::r) bD tm s),(gj P K r (s::bD) (tm.put dst (.tuple [])) s)⟩:=nd rfl
class Ok (p:Prop):Prop where
 out:p
instance:Ok True:=⟨trivial⟩
instance {p q:Prop} [Ok p] [Ok q] : Ok (p∧q):=⟨⟨Ok.out,Ok.out⟩⟩
instance {α:Type} (a:α):Ok (a=a):=⟨rfl⟩
instance (d:D):Ok (Wk d .junk):=⟨Wk.junk d⟩
instance {l l':List D} [Ok (jH l l')] : Ok (Wk (.tuple l) (.tuple l')):=⟨Wk.tuple Ok.out⟩
instance {l l':List D} [Ok (jH l l')] : Ok (Wk (.agg l) (.agg l')):=⟨Wk.agg Ok.out⟩
instance {g:Tag} {z:Nat} {l l':List (List D)} [Ok (gU l l')] : Ok (Wk (.slice g z l) (.slice g z l')):=⟨Wk.rows Ok.out⟩
instance {g:Tag} {z:Nat} {l l':List (List D)} [Ok (gU l l')] : Ok (Wk (.slice g z l) (.slice .shared z l')):=⟨Wk.slice Ok.out⟩
instance (z z':Nat):Ok (Wk (.slice .full z []) (.slice .full z' [])):=⟨Wk.ahE z z'⟩
instance (g:Tag) (z z':Nat):Ok (Wk (.slice g z []) (.slice .shared z' [])):=⟨Wk.nil g z z'⟩
instance (d:D):Ok (Wk d d):=⟨Wk.refl d⟩
instance:Ok (jH [] []):=⟨.nil⟩
instance {d d':D} {l l':List D} [Ok (Wk d d')] [Ok (jH l l')] : Ok (jH (d::l) (d'::l')):=⟨.cons Ok.out Ok.out⟩
instance (l:List D):Ok (jH l l):=⟨jH.refl l⟩
instance:Ok (gU [] []):=⟨.nil⟩
instance {d d':List D} {l l':List (List D)} [Ok (jH d d')] [Ok (gU l l')] : Ok (gU (d::l) (d'::l')):=⟨.cons Ok.out Ok.out⟩
instance {a a' b b':List (List D)} [Ok (gU a a')] [Ok (gU b b')] : Ok (gU (a++b) (a'++b')):=⟨gU.append Ok.out Ok.out⟩
instance (l:List (List D)):Ok (gU l l):=⟨gU.refl l⟩
theorem bs:(∀ b,(true || b)=true)∧(∀ b,(false || b)=b)∧(∀ b,(b || true)=true)∧(∀ b,(b || false)=b)∧(∀ b,(true && b)=b)∧(∀ b,(false && b)=false)∧(∀ b,(b && true)=b)∧(∀ b,(b && false)=false)∧
 (!true)=false∧(!false)=true∧(∀ b,(!!b)=b)∧((false=true)=False)∧(∀ (α β:Type) (a:α) (f:α→Option β),(some a).bind f=f a)∧
 (∀ (α β γ:Type) (x:Option α) (f:α→Option β) (g:β→Option γ),(x.bind f).bind g=x.bind fun y=>(f y).bind g):=
 ⟨Bool.true_or,Bool.false_or,Bool.or_true,Bool.or_false,Bool.true_and,Bool.false_and,Bool.and_true,Bool.and_false,rfl,rfl,Bool.not_not,by simp,fun _ _ _ _=>rfl,fun _ _ _ x f g=>Option.bind_assoc x f g⟩
attribute [go_sem] aac ahL ahM aeg s_op ahO s_call aaf XO aei XQ aah ahP ahQ ahR aek ahT ahU ahV ael ahW g_call XR AO.core AI.kind AO.kind gK
attribute [go_sem] XP SP MK MM MN MO H2 H3 H4 H5 PG PH MP Xq Sg
attribute [go_sem] MJ H6 MG MH MI H7 H8 H9 PI PJ Xp Pq Xl Sd Xm Se Xn Sf Pp Xo Si Mh Sj
attribute [go_sem] Px Py Pz PA PB PC PD PE PF Mk Ml Mm Mn Mp Mq Mr Ms Mt Mu Mv Mw Mx My Mz MA MB MC MD ME MF Sy Sz MQ MR MS MT MU MV PK PN MW MX MY SA SB MZ PO PQ Ia Ib Ic Ie SC SD M3 M4 M5 M6 M7 M8 M9 Na Nb JS JT Nc Nd Nf Ng XA XB Nh Ni Nj JU JV XC XD XE XF JW JX JY JZ J0 J1 J2 J3 J4 J5 J6 J7 J8 J9 Nk Nl Nn No XG XH Ka Kb XI XJ SE SF SG SH SI SJ SK SL SM PR PS PT PU PV Np Nq SN SO PW XN PX XK XL XM
attribute [go_sem] List.map_cons List.map_nil List.getElem?_cons_zero List.getElem?_cons_succ List.length_cons List.length_nil List.set_cons_zero List.set_cons_succ List.take_succ_cons List.take_zero List.take_nil List.drop_succ_cons List.drop_zero List.drop_nil List.cons_append List.nil_append List.append_nil Nat.zero_add Nat.add_zero Option.map_some Option.map_none
attribute [go_sem] Bool.not_false Bool.not_true List.length_map List.getElem?_map Int.toNat_natCast Int.natCast_nonneg Int.toNat_zero and_self and_true true_and
attribute [go_sem_proc ↓] reduceIte
attribute [go_sem_proc] Int.reduceLE reduceCtorEq Nat.reduceEqDiff Nat.reduceLeDiff Nat.reduceAdd Nat.reduceMul Nat.reduceSub Nat.reduceLT
theorem bw {b:Bool} {A C:Prop} (h1:b=true→A) (h:b=true:=by assumption) : @CB (.bool b) ⟨A,C⟩:=aad h h1
theorem bx {b:Bool} {A C:Prop} (h1:b=false→C) (h:b=false:=by assumption) : @CB (.bool b) ⟨A,C⟩:=aae h h1
theorem bA {b:Bool} {A C:Prop} (h1:b=true→A) (h2:b=false→C) : @CB (.bool b) ⟨A,C⟩:=⟨h1,h2⟩
theorem aI {a b:Prop} (x:a) (y:b):a∧b:=⟨x,y⟩
theorem bF {α:Type _} (a b:α):(some a=some b)=(a=b):=Option.some.injEq a b
theorem bG {α:Sort _} {p:α→Prop} {a:α} : (∃ x,a=x∧p x)↔p a:=exists_eq_left'
theorem lY {n m:Nat} (h:Nat.ble n m=true):n≤m:=Nat.le_of_ble_eq_true h
theorem aG {n m:Nat} {res:List (Nat×Option (Bool×Nat))} {d:D} {s':St} {e:Exit} {tm:Tm} {s:St} {Q:Exit→Tm→St→Prop} (hQ:iI n m res d s'=Q) (h : ∃ l,ay res tm s=some l∧Wk ((az l).fg n m) d∧gU (s.cut n m).aw s'.aw∧(s.cut n m).aA=s'.aA) (he:e = .ret∨e = .normal:=by first | exact .inl rfl | exact .inr rfl):Q e tm s:=by cases he with | inl x=>cases x;exact aee hQ h | inr x=>cases x;exact aef hQ h
theorem mj {p:Prop} (h:p:=by repeat' (first | exact Ok.out | with_reducible refine aI ?_ ?_ | (simp;done))):p:=h
theorem bO {p:Prop} (h:p:=by repeat' (first | exact Ok.out | with_reducible refine aI ?_ ?_)):p:=h
theorem jS {p:Prop} (h:p:=by(try cases h);simp only [ay,az,bF,bG,go_sem,hF,hP,hZ,gA];repeat' (first | exact Ok.out | with_reducible refine aI ?_ ?_ | (simp;done))):p:=h
theorem lX_ {p:Prop} (h:p:=by simp only [go_sem,hF,hP,hZ,gA];repeat' (first | exact Ok.out | with_reducible refine aI ?_ ?_)):p:=h
theorem cU {P:Program} {B:fv} {nt:Nat} {a:AC} {Q:Exit→Tm→St→Prop} {tm bt:Tm} {s:St} {dR:List (List D)} (n m:Nat) (h:bk P B nt a Q bt ⟨dR,(s.cut n m).aA⟩) (hn:B.s.aw.length≤n:=by rw [hB];exact lY rfl) (hm:B.s.aA.length≤m:=by rw [hB];exact lY rfl) (ht:tw tm n m bt:=by exact lX_) (ho:gU (s.cut n m).aw dR:=by exact lX_):bk P B nt a Q tm s:=bk.re bt dR n m hn hm ht ho h
theorem dZ {P:Program} {B:fv} {nt:Nat} {a:AC} {Q:Exit→Tm→St→Prop} {tm bt:Tm} {s:St} {dR:List (List D)} (n m:Nat) (ht:tw tm n m bt) (ho:gU (s.cut n m).aw dR) (h:bk P B nt a Q bt ⟨dR,(s.cut n m).aA⟩) (hn:B.s.aw.length≤n:=by rw [hB];exact lY rfl) (hm:B.s.aA.length≤m:=by rw [hB];exact lY rfl):bk P B nt a Q tm s:=bk.re bt dR n m hn hm ht ho h
theorem bH:0<1∧0<1∧0<1∧0<1:=⟨Nat.zero_lt_one,Nat.zero_lt_one,Nat.zero_lt_one,Nat.zero_lt_one⟩
end Go.Abs

/-! Types -/

namespace Go.Abs
mutual
theorem Nr (n m:Nat) : ∀ d,D.ok 0 0 d=true→D.fg n m d=d
 | .junk,_=>by simp [D.fg]
 | .int k n,_=>by simp [D.fg]
 | .bool b,_=>by simp [D.fg]
 | .str l,_=>by simp [D.fg]
 | .eO,_=>by simp [D.fg]
 | .val v,_=>by simp [D.fg]
 | .fu z,_=>by simp [D.fg]
 | .fi T o,h=>by simp [D.ok]at h
 | .fQ o,h=>by simp [D.ok]at h
 | .gb f cs,h=>by
  simp only [D.ok]at h
  simp only [D.fg,ib n m cs h]
 | .ptr o f,h=>by simp [D.ok]at h
 | .dE r f,h=>by
  simp only [D.ok]at h
  simp only [D.fg,ib n m r h]
 | .slice g z rows,h=>by
  simp only [D.ok,Bool.and_eq_true]at h
  simp only [D.fg,Ii n m rows h.2]
  cases g with
  | tok t y=>simp [Tag.ok]at h
  | full=>rfl
  | shared=>rfl
 | .agg cs,h=>by
  simp only [D.ok]at h
  simp only [D.fg,ib n m cs h]
 | .tuple cs,h=>by
  simp only [D.ok]at h
  simp only [D.fg,ib n m cs h]
theorem ib (n m:Nat) : ∀ l,D.bp 0 0 l=true→D.gw n m l=l
 | [],_=>by simp [D.gw]
 | d::r,h=>by
  simp only [D.bp,Bool.and_eq_true]at h
  simp only [D.gw,Nr n m d h.1,ib n m r h.2]
theorem Ii (n m:Nat) : ∀ l,D.hO 0 0 l=true→D.kf n m l=l
 | [],_=>by simp [D.kf]
 | d::r,h=>by
  simp only [D.hO,Bool.and_eq_true]at h
  simp only [D.kf,ib n m d h.1,Ii n m r h.2]
end
theorem gV {α:Type} {f:α→List D} (h : ∀ x,D.bp 0 0 (f x)=true) (l:List α):D.hO 0 0 (l.map f)=true:=by
 simp [CW,h]
theorem ml {α:Type} {f:α→List D} (h : ∀ x,D.bp 0 0 (f x)=true) (n m:Nat) (l:List α):D.kf n m (l.map f)=l.map f:=Ii n m _ (gV h l)
theorem KM (n m:Nat) : ∀ a b,D.kf n m (a++b)=D.kf n m a++D.kf n m b
 | [],b=>by simp [D.kf]
 | x::a,b=>by simp [D.kf,KM n m a b]
abbrev aC:=List UInt8
structure fB where
 kind:Int
 text:aC
 n:Int
 pos:Int
deriving DecidableEq
structure Ex where
 op:Int
 n:Int
 name:aC
 kids:List Ex
structure Ar where
 ref:Bool
 name:aC
 x:Ex
structure Sm where
 id:Int
 kind:Int
 labels:List aC
 name:aC
 proc:aC
 x:Ex
 has:Bool
 args:List Ar
 aY:List Sm
 aP:List Sm
structure Pm where
 name:aC
 ref:Bool
structure Pc where
 name:aC
 params:List Pm
 vars:List aC
 body:List Sm
 fin:List aC
structure Pg where
 globals:List aC
 procs:List Pc
def mU:Ex:=⟨0,0,[],[]⟩
def ar0:Ar:=⟨false,[],mU⟩
def FA:Sm:=⟨0,0,[],[],[],mU,false,[],[],[]⟩
def BK:Pg:=⟨[],[]⟩
def encStr (s:aC):List D:= [.str s]
def ew (t:fB):List D:= [.int .i64 t.kind, .str t.text, .int .i64 t.n, .int .i64 t.pos]
def sl (z:Nat) (rows:List (List D)):D:= .slice .shared z rows
mutual
def bu:Ex→List D
 | ⟨op,n,name,kids⟩=> [.int .i64 op, .int .i64 n, .str name, .slice .shared 4 (uA kids)]
def uA:List Ex→List (List D)
 | []=> []
 | x::l=>bu x::uA l
end
theorem FB : ∀ l,uA l=l.map bu
 | []=>by simp [uA]
 | x::l=>by simp [uA,FB l]
theorem gk (x:Ex):bu x = [.int .i64 x.op, .int .i64 x.n, .str x.name, .slice .shared 4 (x.kids.map bu)]:=by
 cases x;simp [bu,FB]
def ej (a:Ar):List D:= [.bool a.ref, .str a.name, .int .i64 a.x.op, .int .i64 a.x.n, .str a.x.name, .slice .shared 4 (a.x.kids.map bu)]
mutual
def aU:Sm→List D
 | ⟨id,kind,labels,name,proc,x,has,args,aY,aP⟩=> [.int .i64 id, .int .i64 kind, .slice .shared 1 (labels.map encStr), .str name, .str proc,
  .int .i64 x.op, .int .i64 x.n, .str x.name, .slice .shared 4 (x.kids.map bu), .bool has, .slice .shared 6 (args.map ej), .slice .shared 13 (sJ aY), .slice .shared 13 (sJ aP)]
def sJ:List Sm→List (List D)
 | []=> []
 | x::l=>aU x::sJ l
end
theorem FC : ∀ l,sJ l=l.map aU
 | []=>by simp [sJ]
 | x::l=>by simp [sJ,FC l]
theorem cH (s:Sm):aU s = [.int .i64 s.id, .int .i64 s.kind, .slice .shared 1 (s.labels.map encStr), .str s.name, .str s.proc,
 .int .i64 s.x.op, .int .i64 s.x.n, .str s.x.name, .slice .shared 4 (s.x.kids.map bu), .bool s.has, .slice .shared 6 (s.args.map ej), .slice .shared 13 (s.aY.map aU), .slice .shared 13 (s.aP.map aU)]:=by
 cases s;simp [aU,FC]
def fK (p:Pm):List D:= [.str p.name, .bool p.ref]
def bq (p:Pc):List D:= [.str p.name, .slice .shared 2 (p.params.map fK), .slice .shared 1 (p.vars.map encStr), .slice .shared 13 (p.body.map aU), .slice .shared 1 (p.fin.map encStr)]
def bC (p:Pg):List D:= [.slice .shared 1 (p.globals.map encStr), .slice .shared 5 (p.procs.map bq)]
theorem aai (x:fB):(ew x).length=4:=nd rfl
theorem XS (x:fB):List.take 4 (ew x)=ew x:=nd rfl
theorem XT (x:fB):List.drop 4 (ew x) = []:=nd rfl
theorem PY (x:fB):(ew x)[0]? = some (.int .i64 x.kind):=nd rfl
theorem PZ (x:fB):(ew x)[1]? = some (.str x.text):=nd rfl
theorem P0 (x:fB):(ew x)[2]? = some (.int .i64 x.n):=nd rfl
theorem P2 (x:fB):(ew x)[3]? = some (.int .i64 x.pos):=nd rfl
theorem aem (C1:Int) (Vx:aC) (n_:Int) (aak:Int):ew ⟨C1,Vx,n_,aak⟩ = [.int .i64 C1, .str Vx, .int .i64 n_, .int .i64 aak]:=by simp only [ew]
theorem Vy (x:Ex):(bu x).length=4:=by simp only [gk];rfl
theorem aal (x:Ex):List.take 4 (bu x)=bu x:=by simp only [gk];rfl
theorem aam (x:Ex):List.drop 4 (bu x) = []:=by simp only [gk];rfl
theorem SQ (x:Ex):(bu x)[0]? = some (.int .i64 x.op):=by simp only [gk];rfl
theorem SR (x:Ex):(bu x)[1]? = some (.int .i64 x.n):=by simp only [gk];rfl
theorem SS (x:Ex):(bu x)[2]? = some (.str x.name):=by simp only [gk];rfl
theorem SU (x:Ex):(bu x)[3]? = some (.slice .shared 4 (x.kids.map bu)):=by simp only [gk];rfl
theorem ahX (op_:Int) (n_:Int) (nY:aC) (Vz:List Ex):bu ⟨op_,n_,nY,Vz⟩ = [.int .i64 op_, .int .i64 n_, .str nY, .slice .shared 4 (Vz.map bu)]:=by simp only [gk]
theorem aen (x:Ar):(ej x).length=6:=nd rfl
theorem aan (x:Ar):List.take 6 (ej x)=ej x:=nd rfl
theorem aao (x:Ar):List.drop 6 (ej x) = []:=nd rfl
theorem SV (x:Ar):(ej x)[0]? = some (.bool x.ref):=nd rfl
theorem SW (x:Ar):(ej x)[1]? = some (.str x.name):=nd rfl
theorem SX (x:Ar):(ej x)[2]? = some (.int .i64 x.x.op):=nd rfl
theorem SY (x:Ar):(ej x)[3]? = some (.int .i64 x.x.n):=nd rfl
theorem SZ (x:Ar):(ej x)[4]? = some (.str x.x.name):=nd rfl
theorem S1 (x:Ar):(ej x)[5]? = some (.slice .shared 4 (x.x.kids.map bu)):=nd rfl
theorem S2 (x:Ar):List.take 4 (List.drop 2 (ej x))=bu x.x:=by simp only [ej,gk];rfl
theorem ahY (Ij:Bool) (nY:aC) (x_:Ex):ej ⟨Ij,nY,x_⟩ = [.bool Ij, .str nY, .int .i64 x_.op, .int .i64 x_.n, .str x_.name, .slice .shared 4 (x_.kids.map bu)]:=by simp only [ej]
theorem G5 (x:Sm):(aU x).length=13:=by simp only [cH];rfl
theorem aap (x:Sm):List.take 13 (aU x)=aU x:=by simp only [cH];rfl
theorem aaq (x:Sm):List.drop 13 (aU x) = []:=by simp only [cH];rfl
theorem S3 (x:Sm):(aU x)[0]? = some (.int .i64 x.id):=by simp only [cH];rfl
theorem S4 (x:Sm):(aU x)[1]? = some (.int .i64 x.kind):=by simp only [cH];rfl
theorem S5 (x:Sm):(aU x)[2]? = some (.slice .shared 1 (x.labels.map encStr)):=by simp only [cH];rfl
theorem S6 (x:Sm):(aU x)[3]? = some (.str x.name):=by simp only [cH];rfl
theorem S7 (x:Sm):(aU x)[4]? = some (.str x.proc):=by simp only [cH];rfl
theorem S8 (x:Sm):(aU x)[5]? = some (.int .i64 x.x.op):=by simp only [cH];rfl
theorem S9 (x:Sm):(aU x)[6]? = some (.int .i64 x.x.n):=by simp only [cH];rfl
theorem Ta (x:Sm):(aU x)[7]? = some (.str x.x.name):=by simp only [cH];rfl
theorem Tb (x:Sm):(aU x)[8]? = some (.slice .shared 4 (x.x.kids.map bu)):=by simp only [cH];rfl
theorem Tc (x:Sm):(aU x)[9]? = some (.bool x.has):=by simp only [cH];rfl
theorem P3 (x:Sm):(aU x)[10]? = some (.slice .shared 6 (x.args.map ej)):=by simp only [cH];rfl
theorem P4 (x:Sm):(aU x)[11]? = some (.slice .shared 13 (x.aY.map aU)):=by simp only [cH];rfl
theorem P5 (x:Sm):(aU x)[12]? = some (.slice .shared 13 (x.aP.map aU)):=by simp only [cH];rfl
theorem Td (x:Sm):List.take 4 (List.drop 5 (aU x))=bu x.x:=by simp only [cH,gk];rfl
theorem ahZ (id_:Int) (C1:Int) (KN:List aC) (nY:aC) (VA:aC) (x_:Ex) (aar:Bool) (VB:List Ar) (aas:List Sm) (aat:List Sm):aU ⟨id_,C1,KN,nY,VA,x_,aar,VB,aas,aat⟩ = [.int .i64 id_, .int .i64 C1, .slice .shared 1 (KN.map encStr), .str nY, .str VA, .int .i64 x_.op, .int .i64 x_.n, .str x_.name, .slice .shared 4 (x_.kids.map bu), .bool aar, .slice .shared 6 (VB.map ej), .slice .shared 13 (aas.map aU), .slice .shared 13 (aat.map aU)]:=by simp only [cH]
theorem aeo (x:Pm):(fK x).length=2:=nd rfl
theorem aau (x:Pm):List.take 2 (fK x)=fK x:=nd rfl
theorem aav (x:Pm):List.drop 2 (fK x) = []:=nd rfl
theorem Te (x:Pm):(fK x)[0]? = some (.str x.name):=nd rfl
theorem Tf (x:Pm):(fK x)[1]? = some (.bool x.ref):=nd rfl
theorem ah0 (nY:aC) (Ij:Bool):fK ⟨nY,Ij⟩ = [.str nY, .bool Ij]:=by simp only [fK]
theorem aep (x:Pc):(bq x).length=5:=nd rfl
theorem aaw (x:Pc):List.take 5 (bq x)=bq x:=nd rfl
theorem aax (x:Pc):List.drop 5 (bq x) = []:=nd rfl
theorem Tg (x:Pc):(bq x)[0]? = some (.str x.name):=nd rfl
theorem Ti (x:Pc):(bq x)[1]? = some (.slice .shared 2 (x.params.map fK)):=nd rfl
theorem Tj (x:Pc):(bq x)[2]? = some (.slice .shared 1 (x.vars.map encStr)):=nd rfl
theorem Tk (x:Pc):(bq x)[3]? = some (.slice .shared 13 (x.body.map aU)):=nd rfl
theorem Tl (x:Pc):(bq x)[4]? = some (.slice .shared 1 (x.fin.map encStr)):=nd rfl
theorem ah1 (nY:aC) (KO:List Pm) (VC:List aC) (VD:List Sm) (aay:List aC):bq ⟨nY,KO,VC,VD,aay⟩ = [.str nY, .slice .shared 2 (KO.map fK), .slice .shared 1 (VC.map encStr), .slice .shared 13 (VD.map aU), .slice .shared 1 (aay.map encStr)]:=by simp only [bq]
theorem aeq (x:Pg):(bC x).length=2:=nd rfl
theorem aaz (x:Pg):List.take 2 (bC x)=bC x:=nd rfl
theorem aaA (x:Pg):List.drop 2 (bC x) = []:=nd rfl
theorem Tn (x:Pg):(bC x)[0]? = some (.slice .shared 1 (x.globals.map encStr)):=nd rfl
theorem Tp (x:Pg):(bC x)[1]? = some (.slice .shared 5 (x.procs.map bq)):=nd rfl
theorem ah2 (Ik:List aC) (P6:List Pc):bC ⟨Ik,P6⟩ = [.slice .shared 1 (Ik.map encStr), .slice .shared 5 (P6.map bq)]:=by simp only [bC]
attribute [go_sem] aai XS XT PY PZ P0 P2 aem Vy aal aam SQ SR SS SU ahX aen aan aao SV SW SX SY SZ S1 S2 ahY G5 aap aaq S3 S4 S5 S6 S7 S8 S9 Ta Tb Tc P3 P4 P5 Td ahZ aeo aau aav Te Tf ah0 aep aaw aax Tg Ti Tj Tk Tl ah1 aeq aaz aaA Tn Tp ah2
theorem C2 (s:aC):D.bp 0 0 (encStr s)=true:=rfl
theorem G6 (t:fB):D.bp 0 0 (ew t)=true:=rfl
mutual
theorem gE : ∀ x,D.bp 0 0 (bu x)=true
 | ⟨op,n,name,kids⟩=>by simp [bu,D.bp,D.ok,Tag.ok,VE kids]
theorem VE : ∀ l,D.hO 0 0 (uA l)=true
 | []=>rfl
 | x::l=>by simp [uA,D.hO,gE x,VE l]
end
theorem Il (a:Ar):D.bp 0 0 (ej a)=true:=by simp [ej,D.bp,D.ok,Tag.ok,gV gE]
mutual
theorem jZ : ∀ x,D.bp 0 0 (aU x)=true
 | ⟨id,kind,labels,name,proc,x,has,args,aY,aP⟩=>by simp [aU,D.bp,D.ok,Tag.ok,Ns aY,Ns aP,gV C2,gV gE,gV Il]
theorem Ns : ∀ l,D.hO 0 0 (sJ l)=true
 | []=>rfl
 | x::l=>by simp [sJ,D.hO,jZ x,Ns l]
end
theorem Nt (p:Pm):D.bp 0 0 (fK p)=true:=rfl
theorem wq (p:Pc):D.bp 0 0 (bq p)=true:=by simp [bq,D.bp,D.ok,Tag.ok,gV Nt,gV C2,gV jZ]
theorem gl (p:Pg):D.bp 0 0 (bC p)=true:=by simp [bC,D.bp,D.ok,Tag.ok,gV C2,gV wq]
theorem aaB (n m:Nat) (x:fB):D.gw n m (ew x)=ew x:=ib n m _ (G6 x)
theorem aer (n m:Nat) (x:Ex):D.gw n m (bu x)=bu x:=ib n m _ (gE x)
theorem aes (n m:Nat) (x:Ar):D.gw n m (ej x)=ej x:=ib n m _ (Il x)
theorem aet (n m:Nat) (x:Sm):D.gw n m (aU x)=aU x:=ib n m _ (jZ x)
theorem aeu (n m:Nat) (x:Pm):D.gw n m (fK x)=fK x:=ib n m _ (Nt x)
theorem aev (n m:Nat) (x:Pc):D.gw n m (bq x)=bq x:=ib n m _ (wq x)
theorem aew (n m:Nat) (x:Pg):D.gw n m (bC x)=bC x:=ib n m _ (gl x)
attribute [go_sem] aaB aer aes aet aeu aev aew
theorem eC (l:List aC):D.hO 0 0 (l.map encStr)=true:=gV C2 l
theorem Io (l:List fB):D.hO 0 0 (l.map ew)=true:=gV G6 l
theorem VF (l:List Ex):D.hO 0 0 (l.map bu)=true:=gV gE l
theorem G7 (l:List Ar):D.hO 0 0 (l.map ej)=true:=gV Il l
theorem jD (l:List Sm):D.hO 0 0 (l.map aU)=true:=gV jZ l
theorem Nu (l:List Pm):D.hO 0 0 (l.map fK)=true:=gV Nt l
theorem vy (l:List Pc):D.hO 0 0 (l.map bq)=true:=gV wq l
theorem Ip (n m:Nat) (l:List aC):D.kf n m (l.map encStr)=l.map encStr:=ml C2 n m l
theorem mn (n m:Nat) (l:List fB):D.kf n m (l.map ew)=l.map ew:=ml G6 n m l
theorem aex (n m:Nat) (l:List Ex):D.kf n m (l.map bu)=l.map bu:=ml gE n m l
theorem aey (n m:Nat) (l:List Ar):D.kf n m (l.map ej)=l.map ej:=ml Il n m l
theorem aez (n m:Nat) (l:List Sm):D.kf n m (l.map aU)=l.map aU:=ml jZ n m l
theorem aeA (n m:Nat) (l:List Pm):D.kf n m (l.map fK)=l.map fK:=ml Nt n m l
theorem VG (n m:Nat) (l:List Pc):D.kf n m (l.map bq)=l.map bq:=ml wq n m l
theorem aaC (x:Ex) (r:List D):bu x++r = .int .i64 x.op:: .int .i64 x.n:: .str x.name:: .slice .shared 4 (x.kids.map bu)::r:=by rw [gk];rfl
theorem XU (d:D) (x:Ex):d::bu x = [d, .int .i64 x.op, .int .i64 x.n, .str x.name, .slice .shared 4 (x.kids.map bu)]:=by rw [gk]
attribute [go_sem] aaC XU
theorem aeB:((0:Nat):Int)=0:=nd rfl
theorem aeC:((1:Nat):Int)=1:=nd rfl
theorem aeD:((2:Nat):Int)=2:=nd rfl
attribute [go_sem] aeB aeC aeD KM List.length_append List.map_append encStr mU ar0 FA BK Ip mn aex aey aez aeA VG
theorem mx (a b:Nat):(if(b:Int) > (a:Int)then(b:Int)else(a:Int))=((max a b:Nat):Int):=by split <;> omega
theorem c6 {x:Int} (h1 : -9223372036854775808≤x) (h2:x<9223372036854775808):IntKind.wrap .i64 x=x:=by
 rw [IntKind.wrap_i64];omega
@[go_sem] theorem aM {n:Nat} (h:n<4611686018427387904):IntKind.wrap .i64 ((n:Int)+1)=((n+1:Nat):Int):=by
 rw [c6] <;> omega
def inc (n:Nat):Option Nat:=if n<4611686018427387904 then some (n+1)else none
theorem Tq {n k:Nat} (h:inc n=some k):IntKind.wrap .i64 ((n:Int)+1)=((n+1:Nat):Int)∧k=n+1:=by
 unfold inc at h
 split at h
 ·rename_i hn;cases h;exact⟨aM hn,rfl⟩
 ·cases h
def Tr (n:Int):Option Int:=if -4611686018427387904<n∧n<4611686018427387904 then some (n+1)else none
theorem P7 {n k:Int} (h:Tr n=some k):IntKind.wrap .i64 (n+1)=n+1∧k=n+1:=by
 unfold Tr at h
 split at h
 ·rename_i hn;cases h;exact⟨c6 (by omega) (by omega),rfl⟩
 ·cases h
@[go_sem] theorem agN {n:Nat} (h:n+1<4611686018427387904):IntKind.wrap .i64 ((n:Int)+1)=((n+1:Nat):Int):=by
 rw [c6] <;> omega
@[go_sem] theorem agO {n:Nat} (h:n<4611686018427387904):IntKind.wrap .i64 ((n:Int)+2)=((n+2:Nat):Int):=by
 rw [c6] <;> omega
def Nv {α:Type} (l:List α) (i:Nat):Option α:=if i<4611686018427387904 then l[i]? else none
theorem Aa {α:Type} {l:List α} {i:Nat} {x:α} (h:Nv l i=some x):i<4611686018427387904∧l[i]? = some x:=by
 unfold Nv at h
 split at h
 ·exact⟨‹_›,h⟩
 ·cases h
def push {α:Type} (k:Nat) (l:List α) (x:α):Option (List α):=if(l.length+1)*k≤bm then some (l++ [x])else none
theorem ow {α:Type} {k:Nat} {l l':List α} {x:α} (h:push k l x=some l'):(l.length+1)*k≤bm∧l'=l++ [x]:=by
 unfold push at h
 split at h
 ·cases h;exact⟨‹_›,rfl⟩
 ·cases h
end Go.Abs

/-! Mir -/

namespace Go.Abs
mutual
def Ex.size:Ex→Nat
 | ⟨_,_,_,kids⟩=>1+Ex.aX kids
def Ex.aX:List Ex→Nat
 | []=>0
 | x::l=>1+x.size+Ex.aX l
end
mutual
def Ex.depth:Ex→Nat
 | ⟨_,_,_,kids⟩=>Ex.gM kids+1
def Ex.gM:List Ex→Nat
 | []=>0
 | x::l=>max x.depth (Ex.gM l)
end
def Iq (x:Ex):Option Int:=if x.size<4611686018427387904 then some (x.depth:Int)else none
theorem Ex.bV {x:Ex} : ∀ {l:List Ex},x∈l→x.size<Ex.aX l
 | y::l,h=>by
  simp only [Ex.aX]
  rcases List.mem_cons.1 h with rfl | h
  ·omega
  ·have:=Ex.bV h;omega
theorem Ex.cP : ∀ (l:List Ex),l.length≤Ex.aX l
 | []=>Nat.le_refl _
 | x::l=>by simp only [Ex.aX,List.length_cons];have:=Ex.cP l;omega
theorem Ex.Nw : ∀ (n:Nat) (x:Ex),x.size≤n→x.depth≤x.size:=by
 intro n
 induction n with
 | zero=>intro x h;cases x;simp only [Ex.size]at h;omega
 | succ n ih=>
  rintro⟨op,m,name,kids⟩ h
  simp only [Ex.size,Ex.depth]at h ⊢
  have : ∀ l:List Ex,Ex.aX l≤n→Ex.gM l≤Ex.aX l:=by
   intro l
   induction l with
   | nil=>intro _;simp [Ex.gM]
   | cons x l P8=>
    intro h
    simp only [Ex.aX,Ex.gM]at h ⊢
    have:=ih x (by omega)
    have:=P8 (by omega)
    omega
  have:=this kids (by omega)
  omega
def qC (t:fB):Int×Int:=
 if t.kind != 4 then(0,0)
 else if t.text == [124,124]then(17,1)
 else if t.text == [38,38]then(16,2)
 else if t.text == [61,61]then(14,3)
 else if t.text == [33,61]then(15,3)
 else if t.text == [60]then(10,4)
 else if t.text == [60,61]then(11,4)
 else if t.text == [62]then(12,4)
 else if t.text == [62,61]then(13,4)
 else if t.text == [43]then(8,5)
 else if t.text == [45]then(9,5)
 else if t.text == [42]then(5,6)
 else if t.text == [47]then(6,6)
 else if t.text == [37]then(7,6)
 else(0,0)
structure Rd where
 l:List fB
 i:Nat
 code:Int
 vz:Int
 n:Nat
abbrev Rd.good (r:Rd):Bool:=r.code==0
def Rd.pd (r:Rd):Option fB:=(Nv r.l r.i).bind fun t=>if decide (0≤t.kind) && decide (t.kind≤4)then some t else none
theorem Ir {r:Rd} {t:fB} (h:r.pd=some t):r.i<4611686018427387904∧r.l[r.i]? = some t∧0≤t.kind∧t.kind≤4:=by
 unfold Rd.pd at h
 rw [Option.bind_eq_some_iff]at h
 obtain⟨u,h1,h⟩:=h
 obtain⟨g1,g2⟩:=Aa h1
 by_cases hk:(decide (0≤u.kind) && decide (u.kind≤4))=true
 ·rw [if_pos hk]at h
  cases h
  simp only [Bool.and_eq_true,decide_eq_true_eq]at hk
  exact⟨g1,g2,hk.1,hk.2⟩
 ·rw [if_neg hk]at h;cases h
def Rd.bad (c:Int) (r:Rd):Option Rd:=if r.good then r.pd.bind fun t=>some {r with code:=c,vz:=t.pos}else some r
def Rd.is (text:aC) (r:Rd):Option Bool:=r.pd.bind fun t=>some ((t.kind==3 || t.kind==4) && t.text==text)
def Rd.take (text:aC) (r:Rd):Option (Bool×Rd):=
 if !r.good then some (false,r)else(r.is text).bind fun b=>if !b then some (false,r)else some (true,{r with i:=r.i+1})
def Rd.want (text:aC) (r:Rd):Option Rd:=(r.take text).bind fun p=>if !p.1 then p.2.bad 3 else some p.2
def Rd.name (room:Bool) (r:Rd):Option (aC×Rd):=
 r.pd.bind fun t=>if !r.good || t.kind != 1 then(r.bad 3).bind fun r=>some ([],r)else if !room then(r.bad 4).bind fun r=>some ([],r)else some (t.text,{r with i:=r.i+1})
def Rd.on (r:Rd):Rd:= {r with i:=r.i+1}
mutual
def Rd.one:Nat→Rd→Option (Ex×Rd)
 | 0,_=>none
 | n+1,r=>r.pd.bind fun t=>
  if !r.good then some (mU,r)
  else if t.kind==2 then some (⟨1,t.n,[],[]⟩,{r with i:=r.i+1})
  else if t.kind==1 then some (⟨2,0,t.text,[]⟩,{r with i:=r.i+1})
  else(r.take [40]).bind fun p=>
   if p.1 then(Rd.two n 1 p.2).bind fun x=>(x.2.want [41]).bind fun r=>some (x.1,r)
   else(p.2.take [45]).bind fun p=>
    if p.1 then(Rd.one n p.2).bind fun x=>some (⟨3,0,[],[x.1]⟩,x.2)
    else(p.2.take [33]).bind fun p=>
     if p.1 then(Rd.one n p.2).bind fun x=>some (⟨4,0,[],[x.1]⟩,x.2)
     else(p.2.bad 3).bind fun r=>some (mU,r)
def Rd.two:Nat→Int→Rd→Option (Ex×Rd)
 | 0,_,_=>none
 | n+1,least,r=>(Rd.one n r).bind fun x=>Rd.Ev n least x.1 x.2
def Rd.Ev:Nat→Int→Ex→Rd→Option (Ex×Rd)
 | 0,_,_,_=>none
 | n+1,least,x,r=>
  if r.good then r.pd.bind fun t=>
   if decide ((qC t).2<least) || (qC t).1==0 then some (x,r)
   else(Rd.two n ((qC t).2+1) {r with i:=r.i+1}).bind fun y=>Rd.Ev n least ⟨(qC t).1,0,[],[x,y.1]⟩ y.2
  else some (x,r)
end
def Rd.whole (n:Nat) (r:Rd):Option (Ex×Rd):=
 r.pd.bind fun t=>(Rd.two n 1 r).bind fun x=>
  if x.2.good then(Iq x.1).bind fun d=>if decide (d > 20)then some (x.1,{x.2 with code:=4,vz:=t.pos})else some (x.1,x.2)
  else some (x.1,x.2)
def Rd.names:Nat→List aC→Int→Rd→Option (List aC×Rd)
 | 0,_,_,_=>none
 | n+1,l,gm,r=>
  if r.good then(r.name (decide ((l.length:Int)<gm))).bind fun p=>(push 17 l p.1).bind fun l=>(p.2.take [44]).bind fun q=>
   if !q.1 then(q.2.want [59]).bind fun r=>some (l,r)else Rd.names n l gm q.2
  else some (l,r)
def Rd.ahead (sign:aC) (r:Rd):Option Bool:=
 if r.good then r.pd.bind fun t=>if t.kind==1 then(Nv r.l (r.i+1)).bind fun u=>some (u.kind==4 && u.text==sign)else some false
 else some false
def Rd.labels:Nat→List aC→Rd→Option (List aC×Rd)
 | 0,_,_=>none
 | n+1,l,r=>(r.ahead [58]).bind fun b=>if b then r.pd.bind fun t=>(push 17 l t.text).bind fun l=>Rd.labels n l {r with i:=r.i+2}else some (l,r)
def Rd.Is (r:Rd):Option Bool:=
 r.pd.bind fun t=>some (if t.kind==1 then true else if t.kind != 3 then false
  else t.text == [105,102] || t.text == [119,104,105,108,101] || t.text == [98,114,101,97,107] || t.text == [99,111,110,116,105,110,117,101] || t.text == [114,101,116,117,114,110] || t.text == [103,111,116,111] || t.text == [114,101,97,100] || t.text == [112,114,105,110,116])
def Rd.yd (m:Nat):Nat→List Ar→Rd→Option (List Ar×Rd)
 | 0,_,_=>none
 | n+1,l,r=>
  if r.good then(r.take [114,101,102]).bind fun p=>
   if p.1 then(p.2.name true).bind fun x=>(push 81 l ⟨true,x.1,mU⟩).bind fun l=>(x.2.take [44]).bind fun c=>if !c.1 then some (l,c.2)else Rd.yd m n l c.2
   else(Rd.whole m p.2).bind fun x=>(push 81 l ⟨false,[],x.1⟩).bind fun l=>(x.2.take [44]).bind fun c=>if !c.1 then some (l,c.2)else Rd.yd m n l c.2
  else some (l,r)
def Rd.other (sign:aC) (r:Rd):Option Bool:=if r.good then(r.is sign).bind fun b=>some !b else some false
def Rd.call (m:Nat) (name proc:aC) (r:Rd):Option (Sm×Rd):=
 (r.want [40]).bind fun r=>(r.other [41]).bind fun b=>
  if b then(Rd.yd m m [] r).bind fun q=>(q.2.want [41]).bind fun r=>(r.want [59]).bind fun r=>some (⟨0,4,[],name,proc,mU,false,q.1,[],[]⟩,r)
  else(r.want [41]).bind fun r=>(r.want [59]).bind fun r=>some (⟨0,4,[],name,proc,mU,false,[],[],[]⟩,r)
def Rd.named (m:Nat) (r:Rd):Option (Sm×Rd):=
 (r.name true).bind fun x=>(x.2.is [40]).bind fun b=>
  if b then Rd.call m [] x.1 x.2
  else(x.2.want [61]).bind fun r=>(r.ahead [40]).bind fun b=>
   if b then(r.name true).bind fun y=>Rd.call m x.1 y.1 y.2
   else(Rd.whole m r).bind fun y=>(y.2.want [59]).bind fun r=>some (⟨0,1,[],x.1,[],y.1,false,[],[],[]⟩,r)
def Rd.plain (m:Nat) (word:aC) (r:Rd):Option (Sm×Rd):=
 if word == [98,114,101,97,107]then some (⟨0,7,[],[],[],mU,false,[],[],[]⟩,r)
 else if word == [99,111,110,116,105,110,117,101]then some (⟨0,8,[],[],[],mU,false,[],[],[]⟩,r)
 else if word == [114,101,116,117,114,110]then(r.is [59]).bind fun b=>
  if !b then(Rd.whole m r).bind fun x=>some (⟨0,9,[],[],[],x.1,true,[],[],[]⟩,x.2)else some (⟨0,9,[],[],[],mU,false,[],[],[]⟩,r)
 else if word == [103,111,116,111]then(r.name true).bind fun x=>some (⟨0,10,[],x.1,[],mU,false,[],[],[]⟩,x.2)
 else if word == [114,101,97,100]then(r.name true).bind fun x=>some (⟨0,2,[],x.1,[],mU,false,[],[],[]⟩,x.2)
 else if word == [112,114,105,110,116]then(Rd.whole m r).bind fun x=>some (⟨0,3,[],[],[],x.1,false,[],[],[]⟩,x.2)
 else some (FA,r)
def Rd.head (m:Nat) (r:Rd):Option (Ex×Rd):=(r.want [40]).bind fun r=>(Rd.whole m r).bind fun x=>(x.2.want [41]).bind fun r=>some (x.1,r)
mutual
def Rd.rows (m:Nat):Nat→Int→Bool→Rd→Option ((List Sm×List aC)×Rd)
 | 0,_,_,_=>none
 | n+1,nest,body,r=>Rd.vA m n nest body [] r
def Rd.vA (m:Nat):Nat→Int→Bool→List Sm→Rd→Option ((List Sm×List aC)×Rd)
 | 0,_,_,_,_=>none
 | n+1,nest,body,out,r=>
  if r.good then(Rd.labels m [] r).bind fun l=>(l.2.is [125]).bind fun b=>
   if b && (body || (l.1.length:Int)==0)then some ((out,l.1),{l.2 with i:=l.2.i+1})
   else(Rd.stmt m n nest l.2).bind fun s=>(push 209 out {s.1 with labels:=l.1}).bind fun out=>Rd.vA m n nest body out s.2
  else some (([],[]),r)
def Rd.stmt (m:Nat):Nat→Int→Rd→Option (Sm×Rd)
 | 0,_,_=>none
 | n+1,nest,r=>r.Is.bind fun b=>
  if !b then(r.bad 3).bind fun r=>some (FA,r)
  else(inc r.n).bind fun k=>
   if decide ((k:Int) > 200) || decide (nest > 12)then(({r with n:=k} : Rd).bad 4).bind fun r=>some (FA,r)
   else({r with n:=k} : Rd).pd.bind fun t=>
    if t.kind==1 then Rd.named m {r with n:=k}
    else if t.text == [105,102]then Rd.choice m n nest {r with n:=k,i:=r.i+1}
    else if t.text == [119,104,105,108,101]then(Rd.head m {r with n:=k,i:=r.i+1}).bind fun x=>(Rd.block m n nest x.2).bind fun b=>some (⟨0,6,[],[],[],x.1,false,[],b.1,[]⟩,b.2)
    else(Rd.plain m t.text {r with n:=k,i:=r.i+1}).bind fun s=>(s.2.want [59]).bind fun r=>some (s.1,r)
def Rd.block (m:Nat):Nat→Int→Rd→Option (List Sm×Rd)
 | 0,_,_=>none
 | n+1,nest,r=>(r.want [123]).bind fun r=>(Tr nest).bind fun k=>(Rd.rows m n k false r).bind fun p=>some (p.1.1,p.2)
def Rd.choice (m:Nat):Nat→Int→Rd→Option (Sm×Rd)
 | 0,_,_=>none
 | n+1,nest,r=>(Rd.head m r).bind fun x=>(Rd.block m n nest x.2).bind fun t=>(t.2.take [101,108,115,101]).bind fun q=>
  if q.1 then(Rd.block m n nest q.2).bind fun e=>some (⟨0,5,[],[],[],x.1,false,[],t.1,e.1⟩,e.2)
  else some (⟨0,5,[],[],[],x.1,false,[],t.1,[]⟩,q.2)
end
def Rd.params:Nat→List Pm→Rd→Option (List Pm×Rd)
 | 0,_,_=>none
 | n+1,l,r=>
  if r.good then(r.take [114,101,102]).bind fun q=>(q.2.name (decide ((l.length:Int)<8))).bind fun x=>(push 25 l ⟨x.1,q.1⟩).bind fun l=>(x.2.take [44]).bind fun c=>
   if !c.1 then some (l,c.2)else Rd.params n l c.2
  else some (l,r)
def Rd.vars (m:Nat):Nat→List aC→Rd→Option (List aC×Rd)
 | 0,_,_=>none
 | n+1,l,r=>(r.take [118,97,114]).bind fun q=>if q.1 then(Rd.names m l 16 q.2).bind fun x=>Rd.vars m n x.1 x.2 else some (l,q.2)
def Rd.ye (m:Nat) (name:aC) (ps:List Pm) (r:Rd):Option (Pc×Rd):=
 (Rd.vars m m [] r).bind fun v=>(Rd.rows m m 1 true v.2).bind fun b=>some (⟨name,ps,v.1,b.1.1,b.1.2⟩,b.2)
def Rd.proc (m:Nat) (r:Rd):Option (Pc×Rd):=
 (r.name true).bind fun x=>(x.2.want [40]).bind fun r=>(r.other [41]).bind fun b=>
  if b then(Rd.params m [] r).bind fun q=>(q.2.want [41]).bind fun r=>(r.want [123]).bind fun r=>Rd.ye m x.1 q.1 r
  else(r.want [41]).bind fun r=>(r.want [123]).bind fun r=>Rd.ye m x.1 [] r
def Rd.globals (m:Nat):Nat→List aC→Rd→Option (List aC×Rd)
 | 0,_,_=>none
 | n+1,l,r=>(r.take [103,108,111,98,97,108]).bind fun q=>if q.1 then(Rd.names m l 16 q.2).bind fun x=>Rd.globals m n x.1 x.2 else some (l,q.2)
def Rd.P9 (r:Rd):Option Bool:=if r.good then r.is [112,114,111,99]else some false
def Rd.Iu (r:Rd):Option Bool:=if r.good then r.pd.bind fun t=>some (t.kind != 0)else some false
def Rd.procs (m:Nat):Nat→List Pc→Rd→Option (List Pc×Rd)
 | 0,_,_=>none
 | n+1,l,r=>r.P9.bind fun b=>
  if b then
   if(l.length:Int)==16 then(r.bad 4).bind fun r=>some (l,r)
   else(Rd.proc m {r with i:=r.i+1}).bind fun x=>(push 113 l x.1).bind fun l=>Rd.procs m n l x.2
  else r.Iu.bind fun b=>if b then(r.bad 3).bind fun r=>some (l,r)else some (l,r)
def Rd.program (m:Nat) (r:Rd):Option (Pg×Rd):=(Rd.globals m m [] r).bind fun g=>(Rd.procs m m [] g.2).bind fun q=>some (⟨g.1,q.1⟩,q.2)
mutual
def Ex.beq:Ex→Ex→Bool
 | ⟨op,n,name,kids⟩,⟨op',n',Nx,VH⟩=>if op != op' || n != n' || !(name==Nx) || (kids.length:Int) != (VH.length:Int)then false else Ex.pe kids VH
def Ex.pe:List Ex→List Ex→Bool
 | [],_=>true
 | _::_,[]=>true
 | x::l,y::l'=>if !Ex.beq x y then false else Ex.pe l l'
end
end Go.Abs

/-! MirLex -/

namespace Go.Abs
def qD (c:UInt8):Bool:=decide ((c.toNat:Int)≥97) && decide ((c.toNat:Int)≤122)
def o6 (c:UInt8):Bool:=decide ((c.toNat:Int)≥48) && decide ((c.toNat:Int)≤57)
def zb (c:UInt8):Bool:=(c.toNat:Int)==32 || (c.toNat:Int)==9 || (c.toNat:Int)==10 || (c.toNat:Int)==13
def la:aC→Nat
 | []=>0
 | c::r=>if qD c || o6 c then la r+1 else 0
def qE:aC→Nat
 | []=>0
 | c::r=>if o6 c then qE r+1 else 0
def pJ:aC→Nat
 | []=>0
 | c::r=>if(c.toNat:Int) != 10 then pJ r+1 else 0
def isWord (s:aC):Bool:=
 s == [103,108,111,98,97,108] || s == [112,114,111,99] || s == [118,97,114] || s == [114,101,102] || s == [105,102] || s == [101,108,115,101] || s == [119,104,105,108,101] || s == [98,114,101,97,107] || s == [99,111,110,116,105,110,117,101] || s == [114,101,116,117,114,110] || s == [103,111,116,111] || s == [114,101,97,100] || s == [112,114,105,110,116]
def VI (s:aC):Bool:=s == [61,61] || s == [33,61] || s == [60,61] || s == [62,61] || s == [38,38] || s == [124,124]
def G8 (c:UInt8):Bool:=
 (c.toNat:Int)==40 || (c.toNat:Int)==41 || (c.toNat:Int)==123 || (c.toNat:Int)==125 || (c.toNat:Int)==44 || (c.toNat:Int)==59 || (c.toNat:Int)==58 || (c.toNat:Int)==61 ||
 (c.toNat:Int)==33 || (c.toNat:Int)==60 || (c.toNat:Int)==62 || (c.toNat:Int)==43 || (c.toNat:Int)==45 || (c.toNat:Int)==42 || (c.toNat:Int)==47 || (c.toNat:Int)==37
def sf:aC→Nat
 | []=>0
 | [c]=>if G8 c then 1 else 0
 | c::d::_=>if VI [c,d]then 2 else if G8 c then 1 else 0
def vB:Int→aC→Option Int
 | n,[]=>some n
 | n,c::r=>if n > (9223372036854775807 - ((c.toNat:Int) - 48)) / 10 then none else vB (n*10+((c.toNat:Int) - 48)) r
def Ny (pos:Nat):aC→fB ⊕ Int
 | []=> .inr 2
 | c::r=>
  if qD c then
   let s:=(c::r).take (la (c::r))
   if s.length > 8 then .inr 4 else .inl ⟨if isWord s then 3 else 1,s,0,pos⟩
  else if o6 c then
   let s:=(c::r).take (qE (c::r))
   if s.length > 1∧(c.toNat:Int)=48 then .inr 2 else
   match vB 0 s with
   | some n=> .inl ⟨2,s,n,pos⟩
   | none=> .inr 4
  else
   if sf (c::r)=0 then .inr 2 else .inl ⟨4,(c::r).take (sf (c::r)),0,pos⟩
def nc:Nat→Nat→aC→List fB→List fB×Int×Int
 | 0,_,_,_=>([],0,0)
 | _+1,pos,[],out=>(out++ [⟨0,[],0,pos⟩],0,0)
 | n+1,pos,c::r,out=>
  if zb c then nc n (pos+1) r out
  else if(c.toNat:Int)==35 then nc n (pos+pJ (c::r)) ((c::r).drop (pJ (c::r))) out
  else match Ny pos (c::r)with
   | .inr e=>([],e,pos)
   | .inl t=>if out.length=2000 then([],4,pos)else nc n (pos+t.text.length) ((c::r).drop t.text.length) (out++ [t])
def ox (text:aC):List fB×Int×Int:=if text.length > 100000 then([],4,0)else nc (text.length+1) 0 text []
end Go.Abs

/-! MirTree -/

namespace Go.Abs
def Ar.aX:List Ar→Nat
 | []=>0
 | a::l=>1+a.x.size+Ar.aX l
mutual
def Sm.size:Sm→Nat
 | ⟨_,_,labels,_,_,x,_,args,aY,aP⟩=>1+labels.length+x.size+Ar.aX args+Sm.aX aY+Sm.aX aP
def Sm.aX:List Sm→Nat
 | []=>0
 | s::l=>1+s.size+Sm.aX l
end
def Pc.size (f:Pc):Nat:=1+f.params.length+f.vars.length+f.fin.length+Sm.aX f.body
def Pc.aX:List Pc→Nat
 | []=>0
 | f::l=>1+f.size+Pc.aX l
def Pg.size (p:Pg):Nat:=1+p.globals.length+Pc.aX p.procs
mutual
def Sm.num (b:Bool) (n:Nat):Sm→Sm×Nat
 | ⟨id,kind,labels,name,proc,x,has,args,aY,aP⟩=>
  (⟨if b then((n+1:Nat):Int)else id,kind,labels,name,proc,x,has,args,(Sm.cz b (n+1) aY).1,(Sm.cz b (Sm.cz b (n+1) aY).2 aP).1⟩,(Sm.cz b (Sm.cz b (n+1) aY).2 aP).2)
def Sm.cz (b:Bool) (n:Nat):List Sm→List Sm×Nat
 | []=>([],n)
 | s::l=>((Sm.num b n s).1::(Sm.cz b (Sm.num b n s).2 l).1,(Sm.cz b (Sm.num b n s).2 l).2)
end
def Pc.cz (n:Nat):List Pc→List Pc
 | []=> []
 | f::l=> {f with body:=(Sm.cz true n f.body).1}::Pc.cz (Sm.cz true n f.body).2 l
def Pg.number (p:Pg):Pg:= {p with procs:=Pc.cz 0 p.procs}
def Pg.Ew (p:Pg):Option Pg:=if p.size<1073741824 then some p.number else none
mutual
theorem Sm.aaD (b:Bool) (n:Nat) : ∀ s:Sm,(Sm.num b n s).2≤n+s.size
 | ⟨id,kind,labels,name,proc,x,has,args,aY,aP⟩=>by
  simp only [Sm.num,Sm.size]
  have h1:=Sm.nI b (n+1) aY
  have h2:=Sm.nI b (Sm.cz b (n+1) aY).2 aP
  omega
theorem Sm.nI (b:Bool) (n:Nat) : ∀ l:List Sm,(Sm.cz b n l).2≤n+Sm.aX l
 | []=>by simp [Sm.cz,Sm.aX]
 | s::l=>by
  simp only [Sm.cz,Sm.aX]
  have h1:=Sm.aaD b n s
  have h2:=Sm.nI b (Sm.num b n s).2 l
  omega
end
theorem Sm.cP : ∀ (l:List Sm),l.length≤Sm.aX l
 | []=>Nat.le_refl _
 | x::l=>by simp only [Sm.aX,List.length_cons];have:=Sm.cP l;omega
theorem Ar.cP : ∀ (l:List Ar),l.length≤Ar.aX l
 | []=>Nat.le_refl _
 | x::l=>by simp only [Ar.aX,List.length_cons];have:=Ar.cP l;omega
theorem Pc.cP : ∀ (l:List Pc),l.length≤Pc.aX l
 | []=>Nat.le_refl _
 | x::l=>by simp only [Pc.aX,List.length_cons];have:=Pc.cP l;omega
theorem Ar.bV {x:Ar} : ∀ {l:List Ar},x∈l→x.x.size<Ar.aX l
 | y::l,h=>by
  simp only [Ar.aX]
  rcases List.mem_cons.1 h with rfl | h
  ·omega
  ·have:=Ar.bV h;omega
theorem Sm.bV {x:Sm} : ∀ {l:List Sm},x∈l→x.size<Sm.aX l
 | y::l,h=>by
  simp only [Sm.aX]
  rcases List.mem_cons.1 h with rfl | h
  ·omega
  ·have:=Sm.bV h;omega
theorem Pc.bV {x:Pc} : ∀ {l:List Pc},x∈l→x.size<Pc.aX l
 | y::l,h=>by
  simp only [Pc.aX]
  rcases List.mem_cons.1 h with rfl | h
  ·omega
  ·have:=Pc.bV h;omega
theorem Sm.Iv (b:Bool) (n:Nat) : ∀ l:List Sm,(Sm.cz b n l).1.length=l.length
 | []=>rfl
 | s::l=>by simp only [Sm.cz,List.length_cons,Sm.Iv b _ l]
end Go.Abs

/-! MirMay -/

namespace Go.Abs
def tM:aC→Bool
 | []=>true
 | c::r=>if !(qD c) && !(o6 c)then false else tM r
def isName:aC→Bool
 | []=>false
 | c::r=>if decide (((r.length+1:Nat):Int) > 8) || !(qD c)then false else if tM r then !(isWord (c::r))else false
def mq (op:Int):Int:=if op==1 || op==2 then 0 else if op==3 || op==4 then 1 else if decide (op≥5) && decide (op≤17)then 2 else -1
mutual
def Ex.form:Ex→Bool
 | ⟨op,n,name,kids⟩=>
  if mq op != (kids.length:Int) || (op != 1 && n != 0) || decide (n<0) || !((op==2) == !(name == [])) || (!(name == []) && !(isName name))then false else Ex.oP kids
def Ex.oP:List Ex→Bool
 | []=>true
 | x::l=>if !(Ex.form x)then false else Ex.oP l
end
mutual
def Ex.texts:Ex→Prop
 | ⟨_,_,name,kids⟩=>name.length<4611686018427387904∧Ex.uB kids
def Ex.uB:List Ex→Prop
 | []=>True
 | x::l=>x.texts∧Ex.uB l
end
theorem Ex.C3 {x:Ex} : ∀ {l:List Ex},Ex.uB l→x∈l→x.texts
 | y::l,h,m=>by
  rcases List.mem_cons.1 m with rfl | m
  ·exact h.1
  ·exact Ex.C3 h.2 m
theorem Ex.FD {op n:Int} {name:aC} {kids:List Ex} (h:Ex.texts ⟨op,n,name,kids⟩) {y:Ex} (m:y∈kids):y.texts:=Ex.C3 h.2 m
def Ex.may (x:Ex):Bool:=decide (((min x.depth 21:Nat):Int)≤20) && x.form
def Ex.none (x:Ex):Bool:=x.op==0 && x.n==0 && x.name == [] && (x.kids.length:Int)==0
def dd:List aC→Bool
 | []=>true
 | s::l=>if !(isName s)then false else dd l
def Ar.may (a:Ar):Bool:=if a.ref then isName a.name && a.x.none else a.name == [] && a.x.may
def Ar.ep:List Ar→Bool
 | []=>true
 | a::l=>if !(a.may)then false else Ar.ep l
def Sm.yf (s:Sm):Bool:=s.kind==1 || s.kind==3 || s.kind==5 || s.kind==6 || (s.kind==9 && s.has)
def Sm.hasName (s:Sm):Bool:=s.kind==1 || s.kind==2 || s.kind==10
def Sm.qF (s:Sm):Bool:=s.kind==4
def Sm.one (s:Sm):Bool:=
 if decide (s.kind<1) || decide (s.kind > 10) || !(dd s.labels) || (s.yf && !(s.x.may)) || (!(s.yf) && !(s.x.none)) || (s.has && s.kind != 9)then false
 else if(s.hasName && !(isName s.name)) || (!(s.hasName) && !(s.name == []) && !(s.qF && isName s.name))then false
 else if !(s.qF == !(s.proc == [])) || (s.qF && !(isName s.proc)) || (!(s.qF) && decide ((s.args.length:Int) > 0))then false
 else if !(Ar.ep s.args)then false
 else((s.aY.length:Int)==0 || s.kind==5 || s.kind==6) && ((s.aP.length:Int)==0 || s.kind==5)
structure It where
 s:Sm
 deep:Int
 bY:Int
 aP:Bool
mutual
def gy (deep bY:Int) (aP:Bool) (out:List It):Sm→List It
 | ⟨id,kind,labels,name,proc,x,has,args,aY,e⟩=>
  if decide (deep≤12)then eA (deep+1) id true (eA (deep+1) id false (out++ [⟨⟨id,kind,labels,name,proc,x,has,args,aY,e⟩,deep,bY,aP⟩]) aY) e
  else out++ [⟨⟨id,kind,labels,name,proc,x,has,args,aY,e⟩,deep,bY,aP⟩]
def eA (deep bY:Int) (aP:Bool) (out:List It):List Sm→List It
 | []=>out
 | s::l=>if decide ((out.length:Int)≤200)then eA deep bY aP (gy deep bY aP out s) l else out
end
def Pc.flat (f:Pc):List It:=eA 1 0 false [] f.body
def allM (out:List It):List Pc→List It
 | []=>out
 | f::l=>if decide (((out++f.flat).length:Int) > 200)then out++f.flat else allM (out++f.flat) l
def Pg.all (p:Pg):List It:=allM [] p.procs
def Pm.ep:List Pm→Bool
 | []=>true
 | a::l=>if !(isName a.name)then false else Pm.ep l
def Pc.lA:List Pc→Bool
 | []=>true
 | f::l=>
  if !(isName f.name) || decide ((f.params.length:Int) > 8) || decide ((f.vars.length:Int) > 16) || !(dd f.vars) || !(dd f.fin)then false
  else if !(Pm.ep f.params)then false else Pc.lA l
def It.ep (n:Nat):List It→Bool
 | []=>true
 | i::l=>if i.s.id != ((n+1:Nat):Int) || decide (i.deep > 12) || !(i.s.one)then false else It.ep (n+1) l
def Pg.may (p:Pg):Bool:=
 if decide ((p.globals.length:Int) > 16) || decide ((p.procs.length:Int) > 16) || !(dd p.globals)then false
 else if !(Pc.lA p.procs)then false
 else if decide ((p.all.length:Int) > 200)then false else It.ep 0 p.all
end Go.Abs

/-! Swap0 -/

namespace Go.Abs
def BL (a b t:aC):aC:=if t==a then b else if t==b then a else t
mutual
def Ex.swap (a b:aC):Ex→Ex
 | ⟨op,n,name,kids⟩=>⟨op,n,BL a b name,Ex.yg a b kids⟩
def Ex.yg (a b:aC):List Ex→List Ex
 | []=> []
 | x::l=>x.swap a b::Ex.yg a b l
end
def Ar.swap (a b:aC) (x:Ar):Ar:=⟨x.ref,BL a b x.name,x.x.swap a b⟩
mutual
def Sm.swap (a b:aC):Sm→Sm
 | ⟨id,kind,labels,name,proc,x,has,args,aY,aP⟩=>⟨id,kind,labels.map (BL a b),BL a b name,BL a b proc,x.swap a b,has,args.map (Ar.swap a b),Sm.yg a b aY,Sm.yg a b aP⟩
def Sm.yg (a b:aC):List Sm→List Sm
 | []=> []
 | s::l=>s.swap a b::Sm.yg a b l
end
def Pm.swap (a b:aC) (x:Pm):Pm:=⟨BL a b x.name,x.ref⟩
def Pc.swap (a b:aC) (f:Pc):Pc:=⟨BL a b f.name,f.params.map (Pm.swap a b),f.vars.map (BL a b),Sm.yg a b f.body,f.fin.map (BL a b)⟩
def Pg.swap (a b:aC) (p:Pg):Pg:=⟨p.globals.map (BL a b),p.procs.map (Pc.swap a b)⟩
end Go.Abs

/-! Nums -/

namespace Go.Abs
def Ts:Nat:=3
def RH:Nat:=4
def Qa:Nat:=5
def Qb:Nat:=6
def RI:Nat:=7
def RJ:Nat:=8
def RK:Nat:=9
def RL:Nat:=10
def tx:Nat:=11
def qG:Nat:=12
def wu:Nat:=13
def pk:Nat:=14
def aeE:Nat:=15
def po:Nat:=16
def aaE:Nat:=17
def aeF:Nat:=18
def uC:Nat:=19
def adt:Nat:=20
def agP:Nat:=21
def tO:Nat:=22
def lg:Nat:=23
def pK:Nat:=24
def uD:Nat:=25
def sW:Nat:=26
def sX:Nat:=27
def nf:Nat:=28
def adu:Nat:=29
def adv:Nat:=30
def nJ:Nat:=31
def yh:Nat:=32
def oy:Nat:=33
def pL:Nat:=34
def adw:Nat:=35
def aeG:Nat:=36
def adx:Nat:=37
def aeH:Nat:=38
def agQ:Nat:=39
def ady:Nat:=40
def Y8:Nat:=41
def aaF:Nat:=42
def qH:Nat:=43
def sY:Nat:=44
def wv:Nat:=45
def jg:Nat:=46
def gn:Nat:=47
def kg:Nat:=48
def aaG:Nat:=49
def aaH:Nat:=50
def aaI:Nat:=51
def VJ:Nat:=52
def aaJ:Nat:=53
def XV:Nat:=54
def Ey:Nat:=55
def mr:Nat:=56
def jJ:Nat:=57
def iN:Nat:=58
def nC:Nat:=59
def lB:Nat:=60
def wx:Nat:=61
def fU:Nat:=62
def nZ:Nat:=63
def b9:Nat:=64
def gN:Nat:=65
def pM:Nat:=66
def uE:Nat:=67
def qI:Nat:=68
def pw:Nat:=69
def uF:Nat:=70
def qJ:Nat:=71
def rF:Nat:=72
def Ab:Nat:=73
def lO:Nat:=74
def pN:Nat:=75
def oz:Nat:=76
def vC:Nat:=77
def tP:Nat:=78
def Tv:Nat:=79
def aaK:Nat:=80
def Tw:Nat:=81
def Y9:Nat:=82
def adz:Nat:=83
def adA:Nat:=84
def ng:Nat:=85
def jK:Nat:=86
def iV:Nat:=87
def adB:Nat:=88
def Ez:Nat:=89
def VK:Nat:=90
def aeI:Nat:=91
def adC:Nat:=92
def adD:Nat:=93
def adE:Nat:=94
def qK:Nat:=95
def kA:Nat:=96
def tQ:Nat:=97
def jv:Nat:=98
def aaL:Nat:=99
def aaM:Nat:=100
def aaN:Nat:=101
def adF:Nat:=102
def VL:Nat:=103
def Za:Nat:=104
def Zb:Nat:=105
def aaO:Nat:=106
def aeJ:Nat:=107
def Zc:Nat:=108
def Zd:Nat:=109
def adG:Nat:=110
def adH:Nat:=111
def Ze:Nat:=112
def Zf:Nat:=113
def Zg:Nat:=114
def Iw:Nat:=115
def sZ:Nat:=116
def jw:Nat:=117
def kn:Nat:=118
def qL:Nat:=119
def uG:Nat:=120
def uH:Nat:=121
def qM:Nat:=122
def s4:Nat:=123
def wy:Nat:=124
def l5:Nat:=125
def iW:Nat:=126
def jm:Nat:=127
def px:Nat:=128
def yi:Nat:=129
def uI:Nat:=130
def dw:Nat:=131
def iX:Nat:=132
def cE:Nat:=133
def fD:Nat:=134
def eZ:Nat:=135
def nO:Nat:=136
def dz:Nat:=137
def gQ:Nat:=138
def kR:Nat:=139
def j7:Nat:=140
def VM:Nat:=141
def Kc:Nat:=142
def aaP:Nat:=143
def mw:Nat:=144
def nh:Nat:=145
def my:Nat:=146
def adI:Nat:=147
def uJ:Nat:=148
def kB:Nat:=149
def C4:Nat:=150
def adJ:Nat:=151
def XW:Nat:=152
def aaQ:Nat:=153
def aaR:Nat:=154
def Zh:Nat:=155
def EA:Nat:=156
def Zi:Nat:=157
def oA:Nat:=158
def qN:Nat:=159
def s5:Nat:=160
def lP:Nat:=161
def qO:Nat:=162
def gO:Nat:=163
def n3:Nat:=164
def s6:Nat:=165
def gh:Nat:=166
def kX:Nat:=167
def C5:Nat:=168
def VN:Nat:=169
def eD:Nat:=170
def c9:Nat:=171
def gF:Nat:=172
def lQ:Nat:=173
def oQ:Nat:=174
def Kd:Nat:=175
def iY:Nat:=176
def qP:Nat:=177
def uK:Nat:=178
def wz:Nat:=179
def sg:Nat:=180
def yj:Nat:=181
def adK:Nat:=182
def adL:Nat:=183
def Zj:Nat:=184
def Zk:Nat:=185
def adM:Nat:=186
def aaS:Nat:=187
def adN:Nat:=188
def Gr:Nat:=189
def oR:Nat:=190
def wA:Nat:=191
def iC:Nat:=192
def Ac:Nat:=193
def Ct:Nat:=194
def Ad:Nat:=195
def Bn:Nat:=196
def A9:Nat:=197
def wT:Nat:=198
def RM:Nat:=199
def zt:Nat:=200
def Cb:Nat:=201
def RN:Nat:=202
def RO:Nat:=203
def mz:Nat:=204
def nP:Nat:=205
def py:Nat:=206
def pz:Nat:=207
def Zl:Nat:=208
def uL:Nat:=209
def uM:Nat:=210
def aeK:Nat:=211
def aeL:Nat:=212
def adO:Nat:=213
def adP:Nat:=214
def aaT:Nat:=215
def VO:Nat:=216
def Zm:Nat:=217
def XX:Nat:=218
def pA:Nat:=219
def Cu:Nat:=220
def JF:Nat:=221
def Ke:Nat:=222
def zu:Nat:=223
def Eb:Nat:=224
def Qc:Nat:=225
def mA:Nat:=226
def ni:Nat:=227
def mB:Nat:=228
def kY:Nat:=229
def iZ:Nat:=230
def nj:Nat:=231
def Zn:Nat:=232
def aaU:Nat:=233
def Gs:Nat:=234
def EB:Nat:=235
def XY:Nat:=236
def wB:Nat:=237
def Ec:Nat:=238
def kZ:Nat:=239
def gp:Nat:=240
def Zo:Nat:=241
def iO:Nat:=242
def lh:Nat:=243
def jL:Nat:=244
def tR:Nat:=245
end Go.Abs

/-! Codes0 -/

namespace Go.Abs
abbrev AI.o (t:Nat) (a:AO):AI:= .op (some t) none a
abbrev AI.g (t c:Nat) (b:Bool) (a:AO):AI:= .op (some t) (some (c,b)) a
abbrev AI.c (t f:Nat) (l:List X):AI:= .call (some t) none f l
abbrev AI.d (t c:Nat) (b:Bool) (f:Nat) (l:List X):AI:= .call (some t) (some (c,b)) f l
abbrev AI.m (t:Nat) (x:X):AI:= .op (some t) none (.mv x)
abbrev aT:X:= .s 0
abbrev bc:X:= .s 1
abbrev dr:X:= .s 2
abbrev bL:X:= .s 3
abbrev cZ:X:= .s 4
abbrev bj:X:= .s 5
abbrev bP:X:= .s 6
abbrev bJ:X:= .s 7
abbrev bU:X:= .s 8
abbrev cq:X:= .s 9
abbrev bQ:X:= .s 10
abbrev bS:X:= .s 11
abbrev b6:X:= .s 12
abbrev bW:X:= .s 13
abbrev bN:X:= .s 14
abbrev cj:X:= .s 15
abbrev b7:X:= .s 16
abbrev cJ:X:= .s 17
abbrev cG:X:= .s 18
abbrev da:X:= .s 19
abbrev dm:X:= .s 20
abbrev dt:X:= .s 21
abbrev dv:X:= .s 22
abbrev dB:X:= .s 23
abbrev de:X:= .s 24
abbrev df:X:= .s 25
abbrev dY:X:= .s 26
abbrev dT:X:= .s 27
abbrev eR:X:= .s 28
abbrev eU:X:= .s 29
abbrev fb:X:= .s 30
abbrev fc:X:= .s 31
abbrev fz:X:= .s 32
abbrev fw:X:= .s 33
abbrev fL:X:= .s 34
abbrev fF:X:= .s 35
abbrev fN:X:= .s 36
abbrev gu:X:= .s 37
abbrev gP:X:= .s 38
abbrev gG:X:= .s 39
abbrev ig:X:= .s 40
abbrev gW:X:= .s 41
abbrev iR:X:= .s 42
abbrev ja:X:= .s 43
abbrev jx:X:= .s 44
abbrev ko:X:= .s 45
abbrev kp:X:= .s 46
abbrev lb:X:= .s 47
abbrev j8:X:= .s 48
abbrev kq:X:= .s 49
abbrev lR:X:= .s 50
abbrev kS:X:= .s 51
abbrev ld:X:= .s 52
abbrev lf:X:= .s 53
abbrev lS:X:= .s 54
abbrev mC:X:= .s 55
abbrev nQ:X:= .s 56
abbrev oB:X:= .s 57
abbrev nR:X:= .s 58
abbrev lT:X:= .s 59
abbrev pZ:X:= .s 60
abbrev rG:X:= .s 61
abbrev rH:X:= .s 62
abbrev rI:X:= .s 63
abbrev s7:X:= .s 64
abbrev wC:X:= .s 65
abbrev yk:X:= .s 66
abbrev wD:X:= .s 67
abbrev wE:X:= .s 68
abbrev Ae:X:= .s 69
abbrev yl:X:= .s 70
abbrev EC:X:= .s 71
abbrev Cc:X:= .s 72
abbrev ED:X:= .s 73
abbrev EE:X:= .s 74
abbrev EF:X:= .s 75
abbrev Cd:X:= .s 76
abbrev EG:X:= .s 77
abbrev Ce:X:= .s 78
abbrev Nz:X:= .s 79
abbrev NA:X:= .s 80
abbrev NB:X:= .s 81
abbrev NC:X:= .s 82
abbrev ND:X:= .s 83
abbrev NF:X:= .s 84
abbrev NG:X:= .s 85
abbrev NH:X:= .s 86
abbrev NK:X:= .s 87
abbrev NL:X:= .s 88
abbrev NM:X:= .s 89
abbrev NN:X:= .s 90
abbrev NO:X:= .s 91
abbrev NP:X:= .s 92
abbrev Tx:X:= .s 93
abbrev Ty:X:= .s 94
abbrev Tz:X:= .s 95
abbrev aaV:X:= .s 96
abbrev aaW:X:= .s 97
abbrev aaX:X:= .s 98
abbrev aaY:X:= .s 99
abbrev VP:X:= .s 100
abbrev VQ:X:= .s 101
abbrev VR:X:= .s 102
abbrev VS:X:= .s 103
abbrev VT:X:= .s 104
abbrev VU:X:= .s 105
abbrev VV:X:= .s 106
abbrev VW:X:= .s 107
abbrev VX:X:= .s 108
abbrev VY:X:= .s 109
abbrev VZ:X:= .s 110
abbrev V0:X:= .s 111
abbrev V1:X:= .s 112
abbrev V2:X:= .s 113
abbrev V3:X:= .s 114
abbrev V4:X:= .s 115
abbrev V5:X:= .s 116
abbrev V6:X:= .s 117
abbrev V7:X:= .s 118
abbrev V8:X:= .s 119
abbrev V9:X:= .s 120
abbrev Wa:X:= .s 121
abbrev Wb:X:= .s 122
abbrev Wc:X:= .s 123
abbrev Wd:X:= .s 124
abbrev Wf:X:= .s 125
abbrev Wg:X:= .s 126
abbrev Wh:X:= .s 127
abbrev Wi:X:= .s 128
abbrev Wj:X:= .s 129
abbrev Wl:X:= .s 130
abbrev Wm:X:= .s 131
abbrev NQ:X:= .s 132
abbrev Wn:X:= .s 133
abbrev Wo:X:= .s 134
abbrev Wp:X:= .s 135
abbrev Wq:X:= .s 136
abbrev Wr:X:= .s 137
abbrev Ws:X:= .s 138
abbrev Wt:X:= .s 139
abbrev Wu:X:= .s 140
abbrev Wv:X:= .s 141
abbrev Ww:X:= .s 142
abbrev NR:X:= .s 143
abbrev Wx:X:= .s 144
abbrev G9:X:= .s 145
abbrev Wy:X:= .s 146
abbrev Wz:X:= .s 147
abbrev WA:X:= .s 148
abbrev WB:X:= .s 149
abbrev WC:X:= .s 150
abbrev WD:X:= .s 151
abbrev aeM:X:= .s 152
abbrev aeN:X:= .s 153
abbrev aeO:X:= .s 154
abbrev aeP:X:= .s 155
abbrev aeQ:X:= .s 156
abbrev aeR:X:= .s 157
abbrev aeS:X:= .s 158
abbrev aeT:X:= .s 159
abbrev aeU:X:= .s 160
abbrev aeV:X:= .s 161
abbrev aeW:X:= .s 162
abbrev aeX:X:= .s 163
abbrev aeY:X:= .s 164
abbrev aeZ:X:= .s 165
abbrev ae0:X:= .s 166
abbrev ae1:X:= .s 167
abbrev ae2:X:= .s 168
abbrev ae3:X:= .s 169
abbrev ae4:X:= .s 170
abbrev ae5:X:= .s 171
abbrev ae6:X:= .s 172
abbrev ae7:X:= .s 173
abbrev ae8:X:= .s 174
abbrev ae9:X:= .s 175
abbrev afa:X:= .s 176
abbrev afb:X:= .s 177
abbrev Q04:AC:= .cond bP (.seq (.run [.o 4 (.mv (.k (.bool false)))]) .ret) .skip
abbrev Q09:AC:= .cond cq (.seq (.run [.o 4 (.mv (.k (.bool true)))]) .ret) .skip
abbrev Q0E:AC:= .cond b6 (.seq (.run [.o 4 (.mv (.k (.bool true)))]) .ret) .skip
abbrev Q0G:AC:= .par [.o 13 (.load dr true 2), .m 14 bc, .c 15 qH [bW,bN], .c 16 po [cj], .m 17 b7, .g 18 17 true (.load dr true 2), .g 19 17 true (.mv bc), .d 20 17 true qH [cG,da], .d 21 17 true oy [dm], .g 22 17 true (.load dr true 2), .d 23 17 true oy [dv], .g 24 17 true (.bin .eql dt dB), .o 25 (.pick cJ de (.k (.bool false))), .m 4 df] [(0,0),(1,0),(2,0),(3,0),(4,0),(5,0),(6,0),(7,0),(8,0),(9,2),(10,0),(11,0),(12,0),(13,0)]
abbrev Q0K:AC:= .seq (.seq (.run [.c 5 qG [], .o 6 (.un .not bj)]) Q04) (.seq (.seq (.run [.o 7 (.load dr true 2), .c 8 wu [bJ], .o 9 (.un .not bU)]) Q09) (.seq (.seq (.run [.o 10 (.load dr true 2), .c 11 po [bQ], .o 12 (.un .not bS)]) Q0E) (.seq Q0G .ret)))
abbrev Q0L:AC:= .seq (.run [.o 2 (.box aT), .o 4 (.mv (.k (.bool false)))]) Q0K
abbrev Q0Q:AC:= .seq (.run [.c 4 sY [], .c 5 uC [cZ], .m 3 bj, .o 6 (.ext bL 0), .o 7 (.ext bL 1), .o 1 (.alloc [(.slice .full 0 []),(.slice .full 0 [])]), .o 2 (.alloc [(.int .i64 0),(.int .i64 0)]), .op none none (.store bc bP 2), .op none none (.store dr bJ 2)]) (.seq (.run [.c 8 wv [], .c 9 po [bU], .m 10 cq, .g 11 10 true (.av dr 0), .g 12 10 true (.load bS false 1), .g 13 10 true (.bin .eql b6 (.k (.int .i64 0))), .o 14 (.pick bQ bW (.k (.bool false))), .m 15 bN, .g 16 15 true (.load bc true 2), .d 17 15 true oy [b7], .g 18 15 true (.bin .eql cJ (.k (.int .i64 8))), .o 19 (.pick cj cG (.k (.bool false))), .m 20 da, .g 21 20 true (.build [(.slice .full 0 []),(.slice .full 0 [])] []), .d 22 20 true pk [dt], .g 23 20 true (.sn dv 0 false 1), .g 24 20 true (.bin .eql dB (.k (.int .i64 5))), .o 25 (.pick dm de (.k (.bool false))), .m 0 df]) .ret)
abbrev Q0R:AC:= .seq (.run [.o 0 (.mv (.k (.bool false)))]) Q0Q
abbrev Q0Z:AC:= .par [.o 26 (.av bj 4), .o 27 (.load dY false 1), .o 28 (.av bj 2), .o 29 (.load eR false 1), .o 30 (.av bj 0), .o 31 (.load fb false 1), .m 32 bL, .c 33 gn [fc,fz], .c 34 jg [eU,fw], .c 35 jg [dT,fL], .m 3 fF] [(4,0),(5,0),(6,0),(7,0),(2,0),(3,1),(8,0),(0,0),(1,2),(9,0),(10,0)]
abbrev Q18:AC:= .seq (.seq (.run [.m 36 bP, .o 37 (.av bj 1), .o 38 (.load gu false 1), .o 39 (.len gP), .o 40 (.bin .lss fN gG), .m 41 ig, .g 42 41 true (.mv bL), .g 43 41 true (.bin .leq iR (.k (.int .i64 20000))), .o 44 (.pick gW ja (.k (.bool false)))]) (.cond jx .skip (.exit 2))) (.seq (.block 3 (.run [.o 47 (.av bj 1), .o 48 (.load lb false 1), .m 49 bP, .o 50 (.ct j8 kq 2), .o 51 (.av lR 0), .o 52 (.load kS false 1), .m 53 bL, .c 54 gn [ld,lf], .m 3 lS])) (.run [.m 45 bP, .o 46 (.bin .add ko (.k (.int .i64 1))), .m 6 kp]))
abbrev Q1D:AC:= .seq (.seq (.run [.o 6 (.mv (.k (.int .i64 0)))]) (.block 2 (.loop Q18))) (.run [.o 55 (.av bj 3), .o 56 (.load mC false 1), .m 57 bL, .c 58 kg [nQ,oB], .m 3 nR])
abbrev Q1I:AC:= .seq (.block 1 (.seq (.run [.o 21 (.av bc 1), .o 22 (.load dt false 1), .m 23 cZ, .o 24 (.ct dv dB 5), .o 25 (.load de true 5), .o 5 (.alloc [(.str []),(.slice .full 0 []),(.slice .full 0 []),(.slice .full 0 []),(.slice .full 0 [])]), .op none none (.store bj df 5)]) (.seq Q0Z Q1D))) (.run [.m 19 cZ, .o 20 (.bin .add da (.k (.int .i64 1))), .m 4 dm])
abbrev Q1J:AC:= .seq (.seq (.run [.m 10 cZ, .o 11 (.av bc 1), .o 12 (.load bS false 1), .o 13 (.len b6), .o 14 (.bin .lss bQ bW), .m 15 bN, .g 16 15 true (.mv bL), .g 17 15 true (.bin .leq b7 (.k (.int .i64 20000))), .o 18 (.pick cj cJ (.k (.bool false)))]) (.cond cG .skip (.exit 0))) Q1I
abbrev Q1P:AC:= .seq (.seq (.run [.o 4 (.mv (.k (.int .i64 0)))]) (.block 0 (.loop Q1J))) (.seq (.run [.m 59 bL, .o 60 (.bin .leq lT (.k (.int .i64 20000))), .m 2 pZ]) .ret)
abbrev Q1R:AC:= .seq (.run [.o 1 (.box aT), .o 2 (.mv (.k (.bool false)))]) (.seq (.run [.o 7 (.av bc 0), .o 8 (.load bJ false 1), .c 9 jg [bU,(.k (.int .i64 0))], .m 3 cq]) Q1P)
abbrev Q1V:AC:= .seq (.run [(.o 7 (.build [(.int .i64 0),(.int .i64 0)] [(0,(1,(.k (.int .i64 1))))])), .op none none (.store dr bJ 2)]) .ret
abbrev Q2D:AC:= .seq (.seq (.run [.o 20 (.av bL 0), .o 21 (.load dm false 1), .o 22 (.bin .eql dt (.k (.int .i64 0)))]) (.cond dv (.run [.o 23 (.load bc true 2), .c 24 sW [dB], .op none none (.store bL de 2)]) .skip)) (.seq (.run [.o 25 (.load bL true 2), .op none none (.store dr df 2)]) .ret)
abbrev Q2E:AC:= .seq (.seq (.run [.o 15 (.av bL 0), .o 16 (.load cj false 1), .o 17 (.bin .eql b7 (.k (.int .i64 0)))]) (.cond cJ (.run [.o 18 (.load bc true 2), .c 19 uD [cG], .op none none (.store bL da 2)]) .skip)) Q2D
abbrev Q2F:AC:= .seq (.seq (.run [.o 10 (.av bL 0), .o 11 (.load bQ false 1), .o 12 (.bin .eql bS (.k (.int .i64 0)))]) (.cond b6 (.run [.o 13 (.load bc true 2), .c 14 pK [bW], .op none none (.store bL bN 2)]) .skip)) Q2E
abbrev Q2I:AC:= .seq (.run [.o 1 (.box aT), .o 2 (.alloc [(.int .i64 0),(.int .i64 0)])]) (.seq (.seq (.run [.o 4 (.load bc true 2), .c 5 tO [cZ], .o 6 (.un .not bj)]) (.cond bP Q1V .skip)) (.seq (.run [.o 8 (.load bc true 2), .c 9 lg [bU], .o 3 (.alloc [(.int .i64 0),(.int .i64 0)]), .op none none (.store bL cq 2)]) Q2F))
abbrev Q2M:AC:= .seq (.run [.o 1 (.box aT), .o 2 (.mv (.k (.bool false)))]) (.seq (.run [.o 3 (.load bc true 2), .c 4 pk [bL], .o 5 (.sn cZ 0 false 1), .o 6 (.bin .eql bj (.k (.int .i64 0))), .m 2 bP]) .ret)
abbrev Q2U:AC:= .par [.o 19 (.build [(.slice .full 0 []),(.slice .full 0 [])] []), .o 20 (.load bj true 2), .op none none (.store dr da 2), .op none none (.store bL dm 2)] [(0,0),(2,0),(1,1),(3,0)]
abbrev Q30:AC:= .seq (.seq (.run [.o 16 (.av bj 0), .o 17 (.load b7 false 1), .o 18 (.bin .neq cJ (.k (.int .i64 0)))]) (.cond cG (.seq Q2U .ret) .skip)) (.seq (.run [.o 21 (.load cZ true 2), .o 22 (.build [(.int .i64 0),(.int .i64 0)] []), .op none none (.store dr dt 2), .op none none (.store bL dv 2)]) .ret)
abbrev Q31:AC:= .seq (.seq (.run [.o 11 (.av bj 0), .o 12 (.load bS false 1), .o 13 (.bin .eql b6 (.k (.int .i64 0)))]) (.cond bW (.run [.o 14 (.load cZ true 2), .c 15 pk [bN], .op none none (.store bj cj 2)]) .skip)) Q30
abbrev Q33:AC:= .seq (.run [.o 2 (.alloc [(.slice .full 0 []),(.slice .full 0 [])]), .o 3 (.alloc [(.int .i64 0),(.int .i64 0)])]) (.seq (.run [.m 7 aT, .c 8 sX [bJ], .m 6 bU, .o 9 (.ext bP 0), .o 10 (.ext bP 1), .o 4 (.alloc [(.slice .full 0 []),(.slice .full 0 [])]), .o 5 (.alloc [(.int .i64 0),(.int .i64 0)]), .op none none (.store cZ cq 2), .op none none (.store bj bQ 2)]) Q31)
abbrev Q38:AC:= .cond dB (.seq (.run [.o 2 (.mv (.k (.bool false)))]) .ret) .skip
abbrev Q3F:AC:= .run [.o 33 (.av bj 1), .o 34 (.load fw false 1), .o 35 (.len fL), .o 36 (.bin .gtr fF (.k (.int .i64 8))), .m 37 fN, .g 38 37 false (.av bj 2), .g 39 37 false (.load gP false 1), .g 40 37 false (.len gG), .g 41 37 false (.bin .gtr ig (.k (.int .i64 16))), .o 42 (.pick gu (.k (.bool true)) gW), .m 43 iR, .g 44 43 false (.av bj 0), .g 45 43 false (.load jx false 1), .d 46 43 false nf [ko], .g 47 43 false (.un .not kp), .o 48 (.pick ja (.k (.bool true)) lb), .m 49 j8, .g 50 49 false (.av bj 2), .g 51 49 false (.load lR false 1), .d 52 49 false mr [kS], .g 53 49 false (.un .not ld), .o 54 (.pick kq (.k (.bool true)) lf), .m 55 lS, .g 56 55 false (.av bj 4), .g 57 55 false (.load nQ false 1), .d 58 55 false mr [oB], .g 59 55 false (.un .not nR), .o 60 (.pick mC (.k (.bool true)) lT)]
abbrev Q3I:AC:= .cond pZ (.seq (.run [.o 2 (.mv (.k (.bool false)))]) .ret) .skip
abbrev Q3R:AC:= .cond EC (.seq (.run [.o 2 (.mv (.k (.bool false)))]) .ret) .skip
abbrev Q3W:AC:= .seq (.block 3 (.seq (.run [.o 66 (.ct rH s7 2), .o 67 (.load yk true 2), .o 7 (.alloc [(.str []),(.bool false)]), .op none none (.store bJ wD 2)]) (.seq (.run [.o 68 (.av bJ 0), .o 69 (.load wE false 1), .c 70 nf [Ae], .o 71 (.un .not yl)]) Q3R))) (.run [.o 72 (.bin .add s7 (.k (.int .i64 1))), .m 64 Cc])
abbrev Q40:AC:= .block 2 (.loop (.seq (.run [.o 65 (.bin .lss s7 rI)]) (.seq (.cond wC .skip (.exit 2)) Q3W)))
abbrev Q45:AC:= .cond EG (.seq (.run [.o 2 (.mv (.k (.bool false)))]) .ret) .skip
abbrev Q47:AC:= .seq (.seq (.run [.o 61 (.av bj 1), .o 62 (.load rG false 1), .o 63 (.len rH), .o 64 (.mv (.k (.int .i64 0)))]) Q40) (.seq (.run [.m 73 bL, .o 74 (.av bj 3), .o 75 (.load EE false 1), .c 76 jJ [ED,EF,(.k (.int .i64 1))], .o 77 (.un .not Cd)]) Q45)
abbrev Q4C:AC:= .seq (.block 1 (.seq (.run [.o 31 (.ct dT eU 5), .o 32 (.load fc true 5), .o 5 (.alloc [(.str []),(.slice .full 0 []),(.slice .full 0 []),(.slice .full 0 []),(.slice .full 0 [])]), .op none none (.store bj fz 5)]) (.seq (.seq Q3F Q3I) Q47))) (.run [.o 78 (.bin .add eU (.k (.int .i64 1))), .m 29 Ce])
abbrev Q4G:AC:= .block 0 (.loop (.seq (.run [.o 30 (.bin .lss eU eR)]) (.seq (.cond fb .skip (.exit 0)) Q4C)))
abbrev Q4K:AC:= .seq (.seq (.run [.o 26 (.av bc 1), .o 27 (.load dY false 1), .o 28 (.len dT), .o 29 (.mv (.k (.int .i64 0)))]) Q4G) (.seq (.run [.o 2 (.mv (.k (.bool true)))]) .ret)
abbrev Q4M:AC:= .seq (.seq (.run [.o 8 (.av bc 0), .o 9 (.load bU false 1), .o 10 (.len cq), .o 11 (.bin .gtr bQ (.k (.int .i64 16))), .m 12 bS, .g 13 12 false (.av bc 1), .g 14 12 false (.load bW false 1), .g 15 12 false (.len bN), .g 16 12 false (.bin .gtr cj (.k (.int .i64 16))), .o 17 (.pick b6 (.k (.bool true)) b7), .m 18 cJ, .g 19 18 false (.av bc 0), .g 20 18 false (.load da false 1), .d 21 18 false mr [dm], .g 22 18 false (.un .not dt), .o 23 (.pick cG (.k (.bool true)) dv)]) Q38) (.seq (.run [.o 24 (.build [(.int .i64 0)] []), .o 25 (.box de), .m 3 df]) Q4K)
abbrev Q4N:AC:= .seq (.run [.o 1 (.box aT), .o 2 (.mv (.k (.bool false)))]) Q4M
abbrev Q4R:AC:= .seq (.run [(.o 16 (.build [(.int .i64 0),(.int .i64 0)] [(0,(1,(.k (.int .i64 1))))])), .op none none (.store dr b7 2)]) .ret
abbrev Q53:AC:= .seq (.block 1 (.seq (.run [.o 22 (.ct cG dm 5), .o 23 (.load dv true 5), .o 5 (.alloc [(.str []),(.slice .full 0 []),(.slice .full 0 []),(.slice .full 0 []),(.slice .full 0 [])]), .op none none (.store bj dB 5)]) (.run [.m 24 bL, .o 25 (.av bj 0), .o 26 (.load df false 1), .o 27 (.cL [(.str [])] 1 1 [(0,dY)]), .o 28 (.app 1 16 de dT), .m 3 eR]))) (.run [.o 29 (.bin .add dm (.k (.int .i64 1))), .m 20 eU])
abbrev Q57:AC:= .block 0 (.loop (.seq (.run [.o 21 (.bin .lss dm da)]) (.seq (.cond dt .skip (.exit 0)) Q53)))
abbrev Q5C:AC:= .seq (.run [(.o 53 (.build [(.int .i64 0),(.int .i64 0)] [(0,(1,(.k (.int .i64 5))))])), .op none none (.store dr lf 2)]) .ret
abbrev Q5N:AC:= .seq (.run [(.o 73 (.build [(.int .i64 0),(.int .i64 0)] [(0,(1,(.k (.int .i64 5))))])), .op none none (.store dr ED 2)]) .ret
abbrev Q5W:AC:= .seq (.run [.o 89 (.av b6 0), .o 90 (.av NM 0), .o 91 (.load NN false 1),(.o 92 (.build [(.int .i64 0),(.int .i64 0)] [(0,(1,(.k (.int .i64 5)))),(1,(1,NO))])), .op none none (.store dr NP 2)]) .ret
abbrev Q62:AC:= .seq (.block 5 (.seq (.run [.o 80 (.ct Cd Ce 17), .o 81 (.load NA true 17), .o 12 (.alloc [(.int .i64 0),(.int .i64 0),(.slice .full 0 []),(.str []),(.str []),(.int .i64 0),(.int .i64 0),(.str []),(.slice .full 0 []),(.bool false),(.slice .full 0 []),(.slice .full 0 []),(.slice .full 0 []),(.int .i64 0),(.int .i64 0),(.int .i64 0),(.int .i64 0)]), .op none none (.store b6 NB 17)]) (.seq (.run [.o 82 (.load bc true 2), .o 83 (.load cq true 5), .m 84 bL, .o 85 (.av b6 0), .o 86 (.load NG true 13), .c 87 pM [NC,ND,NF,NH], .o 88 (.un .not NK)]) (.cond NL Q5W .skip)))) (.run [.o 93 (.bin .add Ce (.k (.int .i64 1))), .m 78 Tx])
abbrev Q66:AC:= .block 4 (.loop (.seq (.run [.o 79 (.bin .lss Ce EG)]) (.seq (.cond Nz .skip (.exit 4)) Q62)))
abbrev Q68:AC:= .seq (.seq (.run [.m 66 bQ, .c 67 nC [yk], .m 68 wD, .g 69 68 false (.mv bQ), .g 70 68 false (.tD 63 [bc]), .d 71 68 false fU [Ae,yl], .o 72 (.pick wE (.k (.bool true)) EC)]) (.cond Cc Q5N .skip)) (.seq (.run [.m 74 bJ, .m 75 bU, .c 76 gN [EE,EF], .o 77 (.len Cd), .o 78 (.mv (.k (.int .i64 0)))]) Q66)
abbrev Q6D:AC:= .seq (.block 3 (.seq (.run [.m 61 lT, .o 62 (.ct oB lT 5), .o 63 (.load rH true 5), .o 9 (.alloc [(.str []),(.slice .full 0 []),(.slice .full 0 []),(.slice .full 0 []),(.slice .full 0 [])]), .m 8 rG, .op none none (.store cq rI 5)]) (.seq (.run [.o 64 (.load cq true 5), .c 65 wx [s7], .m 10 wC]) Q68))) (.run [.o 94 (.bin .add lT (.k (.int .i64 1))), .m 59 Ty])
abbrev Q6H:AC:= .block 2 (.loop (.seq (.run [.o 60 (.bin .lss lT nR)]) (.seq (.cond pZ .skip (.exit 2)) Q6D)))
abbrev Q6L:AC:= .seq (.seq (.run [.o 56 (.av bc 1), .o 57 (.load nQ false 1), .o 58 (.len oB), .o 59 (.mv (.k (.int .i64 0)))]) Q6H) (.seq (.run [.o 95 (.build [(.int .i64 0),(.int .i64 0)] []), .op none none (.store dr Tz 2)]) .ret)
abbrev Q6N:AC:= .seq (.seq (.run [.o 32 (.av bc 0), .o 33 (.load fz false 1), .c 34 nC [fw], .m 35 fL, .g 36 35 false (.mv bL), .d 37 35 false nC [fN], .o 38 (.pick fF (.k (.bool true)) gu), .m 39 gP, .g 40 39 false (.mv bP), .g 41 39 false (.bin .lss ig (.k (.int .i64 0))), .o 42 (.pick gG (.k (.bool true)) gW), .m 43 iR, .g 44 43 false (.av bc 1), .g 45 43 false (.load jx false 1), .g 46 43 false (.mv bP), .g 47 43 false (.ct ko kp 5), .g 48 43 false (.av lb 1), .g 49 43 false (.load j8 false 1), .g 50 43 false (.len kq), .g 51 43 false (.bin .gtr lR (.k (.int .i64 0))), .o 52 (.pick ja (.k (.bool true)) kS)]) (.cond ld Q5C .skip)) (.seq (.run [.o 54 (.load bc true 2), .c 55 lB [lS], .m 7 mC]) Q6L)
abbrev Q6P:AC:= .seq (.seq (.run [.o 17 (.av bc 1), .o 18 (.load cJ false 1), .o 19 (.len cG), .o 20 (.mv (.k (.int .i64 0)))]) Q57) (.seq (.run [.m 30 bL,(.c 31 iN [fb,(.k (.str [109,97,105,110]))]), .m 6 fc]) Q6N)
abbrev Q6R:AC:= .seq (.seq (.run [.o 13 (.load bc true 2), .c 14 tO [bW], .o 15 (.un .not bN)]) (.cond cj Q4R .skip)) (.seq (.run [.o 3 (.mv (.k (.slice .full 0 [])))]) Q6P)
abbrev Q6S:AC:= .seq (.run [.o 1 (.box aT), .o 2 (.alloc [(.int .i64 0),(.int .i64 0)])]) Q6R
abbrev Q6W:AC:= .seq (.run [(.o 9 (.build [(.int .i64 0),(.int .i64 0)] [(0,(1,(.k (.int .i64 1))))])), .op none none (.store dr cq 2)]) .ret
abbrev Q75:AC:= .seq (.run [.o 31 (.av cZ 0), .o 32 (.av fc 0), .o 33 (.load fz false 1),(.o 34 (.build [(.int .i64 0),(.int .i64 0)] [(0,(1,(.k (.int .i64 6)))),(1,(1,fw))])), .op none none (.store dr fL 2)]) .ret
abbrev Q78:AC:= .seq (.run [.o 18 (.ct bN b7 17), .o 19 (.load cG true 17), .o 4 (.alloc [(.int .i64 0),(.int .i64 0),(.slice .full 0 []),(.str []),(.str []),(.int .i64 0),(.int .i64 0),(.str []),(.slice .full 0 []),(.bool false),(.slice .full 0 []),(.slice .full 0 []),(.slice .full 0 []),(.int .i64 0),(.int .i64 0),(.int .i64 0),(.int .i64 0)]), .op none none (.store cZ da 17)]) (.seq (.run [.o 20 (.av cZ 0), .o 21 (.av dm 1), .o 22 (.load dt false 1), .o 23 (.bin .eql dv (.k (.int .i64 4))), .m 24 dB, .g 25 24 true (.load bc true 2), .g 26 24 true (.av cZ 0), .g 27 24 true (.load dY true 13), .d 28 24 true uE [df,dT], .g 29 24 true (.un .not eR), .o 30 (.pick de eU (.k (.bool false)))]) (.cond fb Q75 .skip))
abbrev Q7C:AC:= .seq (.cond cJ .skip (.exit 0)) (.seq (.block 1 Q78) (.run [.o 35 (.bin .add b7 (.k (.int .i64 1))), .m 16 fF]))
abbrev Q7G:AC:= .seq (.run [.o 10 (.load bc true 2), .c 11 lB [bQ], .o 12 (.du bS), .o 13 (.av b6 2), .o 14 (.load bW false 1), .o 15 (.len bN), .o 16 (.mv (.k (.int .i64 0)))]) (.block 0 (.loop (.seq (.run [.o 17 (.bin .lss b7 cj)]) Q7C)))
abbrev Q7K:AC:= .seq (.seq (.run [.o 5 (.load bc true 2), .c 6 lg [bj], .o 7 (.sn bP 0 false 1), .o 8 (.bin .neq bJ (.k (.int .i64 0)))]) (.cond bU Q6W .skip)) (.seq Q7G (.seq (.run [.o 36 (.build [(.int .i64 0),(.int .i64 0)] []), .op none none (.store dr fN 2)]) .ret))
abbrev Q7L:AC:= .seq (.run [.o 1 (.box aT), .o 2 (.alloc [(.int .i64 0),(.int .i64 0)])]) Q7K
abbrev Q7Q:AC:= .seq (.run [(.o 14 (.build [(.int .i64 0),(.int .i64 0)] [(0,(1,(.k (.int .i64 1))))])), .op none none (.store dr bN 2)]) .ret
abbrev Q86:AC:= .seq (.run [.o 47 (.av cq 0), .o 48 (.av lb 0), .o 49 (.load j8 false 1),(.o 50 (.build [(.int .i64 0),(.int .i64 0)] [(0,(1,(.k (.int .i64 7)))),(1,(1,kq))])), .op none none (.store dr lR 2)]) .ret
abbrev Q89:AC:= .seq (.run [.m 32 bP, .o 33 (.av cq 0), .o 34 (.av fw 2), .o 35 (.load fL false 1), .c 36 pw [fz,fF], .m 31 fN, .o 37 (.ext fc 0), .o 38 (.ext fc 1), .m 6 gu, .m 7 gP]) (.seq (.run [.m 39 bJ, .o 40 (.un .not gG), .m 41 ig, .g 42 41 false (.mv bL), .g 43 41 false (.load cq true 17), .d 44 41 false uF [iR,ja], .g 45 41 false (.un .not jx), .o 46 (.pick gW (.k (.bool true)) ko)]) (.cond kp Q86 .skip))
abbrev Q8D:AC:= .seq (.block 3 (.seq (.run [.o 29 (.ct df dT 17), .o 30 (.load eU true 17), .o 9 (.alloc [(.int .i64 0),(.int .i64 0),(.slice .full 0 []),(.str []),(.str []),(.int .i64 0),(.int .i64 0),(.str []),(.slice .full 0 []),(.bool false),(.slice .full 0 []),(.slice .full 0 []),(.slice .full 0 []),(.int .i64 0),(.int .i64 0),(.int .i64 0),(.int .i64 0)]), .op none none (.store cq fb 17)]) Q89)) (.run [.o 51 (.bin .add dT (.k (.int .i64 1))), .m 27 kS])
abbrev Q8H:AC:= .block 2 (.loop (.seq (.run [.o 28 (.bin .lss dT dY)]) (.seq (.cond eR .skip (.exit 2)) Q8D)))
abbrev Q8M:AC:= .seq (.run [(.o 61 (.build [(.int .i64 0),(.int .i64 0)] [(0,(1,(.k (.int .i64 7))))])), .op none none (.store dr rG 2)]) .ret
abbrev Q8Q:AC:= .seq (.seq (.run [.m 23 bL, .m 24 cZ, .c 25 gN [dB,de], .o 26 (.len df), .o 27 (.mv (.k (.int .i64 0)))]) Q8H) (.seq (.run [.m 53 bP, .o 54 (.av bj 4), .o 55 (.load lS false 1), .c 56 pw [lf,mC], .m 52 nQ, .o 57 (.ext ld 0), .o 58 (.ext ld 1), .m 7 nR]) (.seq (.run [.m 59 bJ, .o 60 (.un .not lT)]) (.cond pZ Q8M .skip)))
abbrev Q8S:AC:= .seq (.run [.o 6 (.mv (.k (.slice .full 0 [])))]) (.seq (.run [.o 7 (.mv (.k (.bool true)))]) Q8Q)
abbrev Q8W:AC:= .seq (.block 1 (.seq (.run [.m 20 cG, .o 21 (.ct b7 cG 5), .o 22 (.load dt true 5), .o 5 (.alloc [(.str []),(.slice .full 0 []),(.slice .full 0 []),(.slice .full 0 []),(.slice .full 0 [])]), .m 4 dm, .op none none (.store bj dv 5)]) Q8S)) (.run [.o 62 (.bin .add cG (.k (.int .i64 1))), .m 18 rH])
abbrev Q90:AC:= .block 0 (.loop (.seq (.run [.o 19 (.bin .lss cG cJ)]) (.seq (.cond da .skip (.exit 0)) Q8W)))
abbrev Q94:AC:= .seq (.seq (.run [.o 15 (.av bc 1), .o 16 (.load cj false 1), .o 17 (.len b7), .o 18 (.mv (.k (.int .i64 0)))]) Q90) (.seq (.run [.o 63 (.build [(.int .i64 0),(.int .i64 0)] []), .op none none (.store dr rI 2)]) .ret)
abbrev Q96:AC:= .seq (.run [.o 10 (.load bc true 2), .c 11 qI [bQ], .m 3 bS]) (.seq (.seq (.run [.m 12 bL, .o 13 (.Fj false b6 (.k .eO))]) (.cond bW Q7Q .skip)) Q94)
abbrev Q97:AC:= .seq (.run [.o 1 (.box aT), .o 2 (.alloc [(.int .i64 0),(.int .i64 0)])]) Q96
abbrev Q9B:AC:= .seq (.run [(.o 12 (.build [(.int .i64 0),(.int .i64 0)] [(0,(1,(.k (.int .i64 1))))])), .op none none (.store dr b6 2)]) .ret
abbrev Q9J:AC:= .par [.m 21 bL, .o 22 (.av bj 0), .o 23 (.load dv false 1), .o 24 (.load bc true 2), .o 25 (.av bj 0), .o 26 (.load df false 1), .c 27 qJ [de,dY], .op none none (.xV dt dB dT)] [(3,0),(4,0),(5,0),(6,0),(0,0),(1,0),(2,1),(7,0)]
abbrev Q9N:AC:= .seq (.block 1 (.seq (.run [.o 19 (.ct cj cJ 5), .o 20 (.load da true 5), .o 5 (.alloc [(.str []),(.slice .full 0 []),(.slice .full 0 []),(.slice .full 0 []),(.slice .full 0 [])]), .op none none (.store bj dm 5)]) Q9J)) (.run [.o 28 (.bin .add cJ (.k (.int .i64 1))), .m 17 eR])
abbrev Q9R:AC:= .block 0 (.loop (.seq (.run [.o 18 (.bin .lss cJ b7)]) (.seq (.cond cG .skip (.exit 0)) Q9N)))
abbrev Q9Z:AC:= .seq (.run [.o 54 (.av bJ 0), .o 55 (.av lS 0), .o 56 (.load mC false 1),(.o 57 (.build [(.int .i64 0),(.int .i64 0)] [(0,(1,(.k (.int .i64 8)))),(1,(1,nQ))])), .op none none (.store dr oB 2)]) .ret
abbrev QA2:AC:= .seq (.run [.o 37 (.ct fw fF 17), .o 38 (.load gu true 17), .o 7 (.alloc [(.int .i64 0),(.int .i64 0),(.slice .full 0 []),(.str []),(.str []),(.int .i64 0),(.int .i64 0),(.str []),(.slice .full 0 []),(.bool false),(.slice .full 0 []),(.slice .full 0 []),(.slice .full 0 []),(.int .i64 0),(.int .i64 0),(.int .i64 0),(.int .i64 0)]), .op none none (.store bJ gP 17)]) (.seq (.run [.o 39 (.av bJ 0), .o 40 (.av gG 1), .o 41 (.load ig false 1), .o 42 (.bin .eql gW (.k (.int .i64 4))), .m 43 iR, .g 44 43 true (.av bJ 0), .g 45 43 true (.load jx true 13), .g 46 43 true (.mv bL), .g 47 43 true (.av bJ 0), .g 48 43 true (.av lb 4), .g 49 43 true (.load j8 false 1), .g 50 43 true (.vj kp kq (.slice .full 0 [])), .d 51 43 true rF [ko,lR], .g 52 43 true (.un .not kS), .o 53 (.pick ja ld (.k (.bool false)))]) (.cond lf Q9Z .skip))
abbrev QA6:AC:= .seq (.cond fN .skip (.exit 2)) (.seq (.block 3 QA2) (.run [.o 58 (.bin .add fF (.k (.int .i64 1))), .m 35 nR]))
abbrev QAA:AC:= .seq (.run [.o 29 (.load bc true 2), .c 30 lB [eU], .o 31 (.du fb), .o 32 (.av fc 2), .o 33 (.load fz false 1), .o 34 (.len fw), .o 35 (.mv (.k (.int .i64 0)))]) (.block 2 (.loop (.seq (.run [.o 36 (.bin .lss fF fL)]) QA6)))
abbrev QAE:AC:= .seq (.seq (.run [.o 14 (.av bc 1), .o 15 (.load bN false 1), .o 16 (.len cj), .o 17 (.mv (.k (.int .i64 0)))]) Q9R) (.seq QAA (.seq (.run [.o 59 (.build [(.int .i64 0),(.int .i64 0)] []), .op none none (.store dr lT 2)]) .ret))
abbrev QAG:AC:= .seq (.seq (.run [.o 8 (.load bc true 2), .c 9 pK [bU], .o 10 (.sn cq 0 false 1), .o 11 (.bin .neq bQ (.k (.int .i64 0)))]) (.cond bS Q9B .skip)) (.seq (.run [.op (some 13) none .tF, .m 3 bW]) QAE)
abbrev QAH:AC:= .seq (.run [.o 1 (.box aT), .o 2 (.alloc [(.int .i64 0),(.int .i64 0)])]) QAG
abbrev QAL:AC:= .par [.o 16 (.build [(.slice .full 0 []),(.slice .full 0 [])] []), .o 17 (.load bj true 2), .op none none (.store dr b7 2), .op none none (.store bL cJ 2)] [(0,0),(2,0),(1,1),(3,0)]
abbrev QAS:AC:= .par [.o 29 (.build [(.slice .full 0 []),(.slice .full 0 [])] []), .m 30 bP, .o 31 (.du fb), .o 32 (.av fc 2), .o 33 (.load fz true 2), .op none none (.store dr eU 2), .op none none (.store bL fw 2)] [(0,0),(5,0),(1,0),(2,0),(3,0),(4,1),(6,0)]
abbrev QAY:AC:= .seq (.seq (.run [.m 23 bP, .o 24 (.du dB), .o 25 (.av de 2), .o 26 (.av df 0), .o 27 (.load dY false 1), .o 28 (.bin .neq dT (.k (.int .i64 0)))]) (.cond eR (.seq QAS .ret) .skip)) (.seq (.run [.o 34 (.load bJ true 2), .c 35 pN [fL], .o 36 (.build [(.int .i64 0),(.int .i64 0)] []), .op none none (.store dr fF 2), .op none none (.store bL fN 2)]) .ret)
abbrev QB1:AC:= .seq (.seq (.run [.o 13 (.av bj 0), .o 14 (.load bW false 1), .o 15 (.bin .neq bN (.k (.int .i64 0)))]) (.cond cj (.seq QAL .ret) .skip)) (.seq (.run [.m 18 cZ, .o 19 (.build [(.slice .full 0 []),(.int .i64 0),(.int .i64 0),(.int .i64 0),(.int .i64 0)] [(0,(1,cG))]), .o 20 (.box da), .m 6 dm]) (.seq (.run [.m 21 bP, .c 22 lO [dt], .o 7 (.alloc [(.slice .full 0 []),(.slice .full 0 [])]), .op none none (.store bJ dv 2)]) QAY))
abbrev QB3:AC:= .seq (.run [.o 2 (.alloc [(.slice .full 0 []),(.slice .full 0 [])]), .o 3 (.alloc [(.int .i64 0),(.int .i64 0)])]) (.seq (.run [.m 9 aT, .c 10 Ab [cq], .m 8 bQ, .o 11 (.ext bU 0), .o 12 (.ext bU 1), .o 5 (.alloc [(.int .i64 0),(.int .i64 0)]), .m 4 bS, .op none none (.store bj b6 2)]) QB1)
abbrev QB8:AC:= .cond b7 (.seq (.run [.o 2 (.mv (.k (.bool false)))]) .ret) .skip
abbrev QBC:AC:= .seq (.seq (.run [.m 3 aT, .o 4 (.lH bL), .o 5 (.bin .lss cZ (.k (.int .i64 1))), .m 6 bj, .g 7 6 false (.mv aT), .g 8 6 false (.lH bJ), .g 9 6 false (.bin .gtr bU (.k (.int .i64 8))), .o 10 (.pick bP (.k (.bool true)) cq), .m 11 bQ, .g 12 11 false (.mv aT), .g 13 11 false (.od b6 (.k (.int .i64 0))), .d 14 11 false oz [bW], .g 15 11 false (.un .not bN), .o 16 (.pick bS (.k (.bool true)) cj)]) QB8) (.seq (.run [.m 17 aT, .c 18 vC [cJ,(.k (.int .i64 0))], .m 19 aT, .o 20 (.lH da), .o 21 (.bin .eql cG dm), .m 22 dt, .g 23 22 true (.mv aT), .d 24 22 true tP [dB], .g 25 22 true (.un .not de), .o 26 (.pick dv df (.k (.bool false))), .m 2 dY]) .ret)
abbrev QBD:AC:= .seq (.run [.o 2 (.mv (.k (.bool false)))]) QBC
abbrev QBG:AC:= .seq (.run [.o 3 (.load bc true 2),(.o 4 (.build [(.int .i64 0),(.int .i64 0),(.slice .full 0 []),(.str []),(.str []),(.int .i64 0),(.int .i64 0),(.str []),(.slice .full 0 []),(.bool false),(.slice .full 0 []),(.slice .full 0 []),(.slice .full 0 [])] [(0,(1,(.k (.int .i64 (-1)))))])), .c 5 ng [bL,cZ], .op none none (.store dr bj 2)]) .ret
abbrev QBH:AC:= .seq (.run [.o 1 (.box aT), .o 2 (.alloc [(.slice .full 0 []),(.slice .full 0 [])])]) QBG
abbrev QBM:AC:= .cond bP (.seq (.run [.o 4 (.mv (.k (.int .i64 0)))]) .ret) .skip
abbrev QBW:AC:= .seq (.seq (.run [.m 10 aT, .o 11 (.bin .lss bQ (.k (.int .i64 0)))]) (.cond bS (.seq (.run [.m 12 aT, .m 13 bc, .o 14 (.bin .add b6 bW), .m 4 bN]) .ret) .skip)) (.seq (.run [.m 15 aT, .m 4 cj]) .ret)
abbrev QBY:AC:= .seq (.seq (.run [.m 5 bc, .o 6 (.bin .lss bj (.k (.int .i64 1)))]) QBM) (.seq (.run [.m 7 aT, .m 8 bc, .o 9 (.bin .rem bJ bU), .m 0 cq]) QBW)
abbrev QBZ:AC:= .seq (.run [.o 4 (.mv (.k (.int .i64 0)))]) QBY
abbrev QCA:AC:= .seq (.block 1 (.seq (.run [.o 11 (.ct bJ cq 5), .o 12 (.load bS true 5), .o 5 (.alloc [(.str []),(.slice .full 0 []),(.slice .full 0 []),(.slice .full 0 []),(.slice .full 0 [])]), .op none none (.store bj b6 5)]) (.run [.m 13 bL, .o 14 (.av bj 3), .o 15 (.load bN false 1), .c 16 jK [cj], .o 17 (.bin .add bW b7), .m 3 cJ]))) (.run [.o 18 (.bin .add cq (.k (.int .i64 1))), .m 9 cG])
abbrev QCE:AC:= .block 0 (.loop (.seq (.run [.o 10 (.bin .lss cq bU)]) (.seq (.cond bQ .skip (.exit 0)) QCA)))
abbrev QCI:AC:= .seq (.seq (.run [.o 6 (.av bc 1), .o 7 (.load bP false 1), .o 8 (.len bJ), .o 9 (.mv (.k (.int .i64 0)))]) QCE) (.seq (.run [.m 19 bL, .m 2 da]) .ret)
abbrev QCK:AC:= .seq (.run [.o 1 (.box aT), .o 2 (.mv (.k (.int .i64 0)))]) (.seq (.run [.o 3 (.mv (.k (.int .i64 0)))]) QCI)
abbrev QCS:AC:= .par [.o 15 (.av bL 1), .o 16 (.load cj false 1), .m 17 bj, .o 18 (.av bc 1), .o 19 (.load cG false 1), .m 20 bj, .o 21 (.ct da dm 5), .o 22 (.av dt 3), .o 23 (.load dv false 1), .m 24 cZ, .c 25 iV [dB,de], .m 14 df, .o 26 (.ext bN 0), .o 27 (.ext bN 1), .o 28 (.ct b7 cJ 5), .o 29 (.av eR 3), .op none none (.store eU dY 1), .m 4 dT] [(3,0),(4,0),(5,0),(6,0),(7,0),(8,0),(9,0),(10,0),(0,0),(1,1),(2,0),(11,0),(12,0),(14,0),(15,0),(16,0),(13,0),(17,0)]
abbrev QCX:AC:= .seq (.cond b6 .skip (.exit 0)) (.seq (.block 1 (.seq (.run [.m 13 bS, .m 5 bW]) QCS)) (.run [.o 30 (.bin .add bS (.k (.int .i64 1))), .m 11 fb]))
abbrev QCY:AC:= .seq (.run [.o 12 (.bin .lss bS bQ)]) QCX
abbrev QD3:AC:= .seq (.run [.o 31 (.load bL true 2), .op none none (.store dr fc 2)]) .ret
abbrev QD4:AC:= .seq (.seq (.run [.o 8 (.av bL 1), .o 9 (.load bU false 1), .o 10 (.len cq), .o 11 (.mv (.k (.int .i64 0)))]) (.block 0 (.loop QCY))) QD3
abbrev QD6:AC:= .seq (.run [.o 6 (.load bc true 2), .c 7 nJ [bP], .o 3 (.alloc [(.slice .full 0 []),(.slice .full 0 [])]), .op none none (.store bL bJ 2)]) (.seq (.run [.o 4 (.mv (.k (.int .i64 0)))]) QD4)
abbrev QD7:AC:= .seq (.run [.o 1 (.box aT), .o 2 (.alloc [(.slice .full 0 []),(.slice .full 0 [])])]) QD6
end Go.Abs

/-! Have0 -/

namespace Go.Abs
open Go.Proofs
theorem nS:Has Tryz.prog tx 26 [(4,none)] Q0L:=⟨Tryz.f11,by kernel_rfl,by kernel_rfl⟩
theorem Bo:Has Tryz.prog qG 26 [(0,none)] Q0R:=⟨Tryz.f12,by kernel_rfl,by kernel_rfl⟩
theorem Gt:Has Tryz.prog wu 61 [(2,none)] Q1R:=⟨Tryz.f13,by kernel_rfl,by kernel_rfl⟩
theorem nD:Has Tryz.prog pk 26 [(2,(some (true,2)))] Q2I:=⟨Tryz.f14,by kernel_rfl,by kernel_rfl⟩
theorem Gu:Has Tryz.prog po 7 [(2,none)] Q2M:=⟨Tryz.f16,by kernel_rfl,by kernel_rfl⟩
theorem rJ:Has Tryz.prog uC 23 [(2,(some (true,2))),(3,(some (true,2)))] Q33:=⟨Tryz.f19,by kernel_rfl,by kernel_rfl⟩
theorem Ix:Has Tryz.prog tO 79 [(2,none)] Q4N:=⟨Tryz.f22,by kernel_rfl,by kernel_rfl⟩
theorem vD:Has Tryz.prog lg 96 [(2,(some (true,2)))] Q6S:=⟨Tryz.f23,by kernel_rfl,by kernel_rfl⟩
theorem vE:Has Tryz.prog pK 37 [(2,(some (true,2)))] Q7L:=⟨Tryz.f24,by kernel_rfl,by kernel_rfl⟩
theorem xl:Has Tryz.prog uD 64 [(2,(some (true,2)))] Q97:=⟨Tryz.f25,by kernel_rfl,by kernel_rfl⟩
theorem vF:Has Tryz.prog sW 60 [(2,(some (true,2)))] QAH:=⟨Tryz.f26,by kernel_rfl,by kernel_rfl⟩
theorem C6:Has Tryz.prog sX 37 [(2,(some (true,2))),(3,(some (true,2)))] QB3:=⟨Tryz.f27,by kernel_rfl,by kernel_rfl⟩
theorem mD:Has Tryz.prog nf 27 [(2,none)] QBD:=⟨Tryz.f28,by kernel_rfl,by kernel_rfl⟩
theorem zc:Has Tryz.prog nJ 6 [(2,(some (true,2)))] QBH:=⟨Tryz.f31,by kernel_rfl,by kernel_rfl⟩
theorem Af:Has Tryz.prog yh 16 [(4,none)] QBZ:=⟨Tryz.f32,by kernel_rfl,by kernel_rfl⟩
theorem EH:Has Tryz.prog oy 20 [(2,none)] QCK:=⟨Tryz.f33,by kernel_rfl,by kernel_rfl⟩
theorem C7:Has Tryz.prog pL 32 [(2,(some (true,2)))] QD7:=⟨Tryz.f34,by kernel_rfl,by kernel_rfl⟩
end Go.Abs
