/-
  What is proved here: part 1 of the road to the claim (Frame, Frame2, Walk, Par, Par1, Par2, Par3, Step, Wp, Types, Mir, MirLex, MirTree, MirMay, Swap0, Nums, Codes0, Have0).
  No conditions.
-/
import Derived.Test.YtiopamakecmpkaaGreatCkL0
import Derived.Attr
import Derived.Test.YtiopamakecmpkaaGreatProg
import Derived.KernelRfl

set_option linter.unusedSimpArgs false
set_option linter.unusedVariables false

/-! Frame -/

namespace Go.Abs
def Tag.ok (m:Nat):Tag→Bool
 | .tok t _=>decide (t<m)
 | _=>true
def Tag.cm (ts:List Nat):Tag→Tag
 | .tok t y=>match ts[t]? with | some t'=> .tok t' y | none=> .shared
 | g=>g
mutual
def D.ok (n m:Nat):D→Bool
 | .ptr o _=>decide (o<n)
 | .dG row _=>D.bp n m row
 | .slice g _ rows=>g.ok m && D.gZ n m rows
 | .agg cs=>D.bp n m cs
 | .tuple ds=>D.bp n m ds
 | .fm _ o=>decide (o<n)
 | .gj _ cs=>D.bp n m cs
 | .fY o=>decide (o<n)
 | .er _ o _ _=>decide (o<n)
 | .fu o _ _=>decide (o<n)
 | _=>true
def D.bp (n m:Nat):List D→Bool
 | []=>true
 | d::r=>D.ok n m d && D.bp n m r
def D.gZ (n m:Nat):List (List D)→Bool
 | []=>true
 | d::r=>D.bp n m d && D.gZ n m r
end
mutual
def D.cm (os ts:List Nat):D→D
 | .ptr o off=>match os[o]? with | some o'=> .ptr o' off | none=> .junk
 | .dG row off=> .dG (D.dY os ts row) off
 | .slice g z rows=> .slice (g.cm ts) z (D.oI os ts rows)
 | .agg cs=> .agg (D.dY os ts cs)
 | .tuple ds=> .tuple (D.dY os ts ds)
 | .junk=> .junk
 | .int k x=> .int k x
 | .bool b=> .bool b
 | .str l=> .str l
 | .eR=> .eR
 | .val v=> .val v
 | .fm T o=>match os[o]? with | some o'=> .fm T o' | none=> .junk
 | .gj f cs=> .gj f (D.dY os ts cs)
 | .fY o=>match os[o]? with | some o'=> .fY o' | none=> .junk
 | .er z o g len=>match os[o]? with | some o'=> .er z o' g len | none=> .junk
 | .fu o g off=>match os[o]? with | some o'=> .fu o' g off | none=> .junk
 | .fy z=> .fy z
def D.dY (os ts:List Nat):List D→List D
 | []=> []
 | d::r=>D.cm os ts d::D.dY os ts r
def D.oI (os ts:List Nat):List (List D)→List (List D)
 | []=> []
 | d::r=>D.dY os ts d::D.oI os ts r
end
theorem fR (os ts:List Nat) : ∀ l,D.dY os ts l=l.map (D.cm os ts)
 | []=>by simp [D.dY]
 | d::r=>by simp [D.dY,fR os ts r]
theorem BG (os ts:List Nat) : ∀ l,D.oI os ts l=l.map (D.dY os ts)
 | []=>by simp [D.oI]
 | d::r=>by simp [D.oI,BG os ts r]
theorem xM (n m:Nat) : ∀ l,D.bp n m l=l.all (D.ok n m)
 | []=>by simp [D.bp]
 | d::r=>by simp [D.bp,xM n m r]
theorem DH (n m:Nat) : ∀ l,D.gZ n m l=l.all (D.bp n m)
 | []=>by simp [D.gZ]
 | d::r=>by simp [D.gZ,DH n m r]
theorem uV {n m:Nat} {l:List D} (h:D.bp n m l=true) {i:Nat} {d:D} (e:l[i]? = some d):D.ok n m d=true:=by
 rw [xM]at h;exact List.all_eq_true.1 h d (List.mem_of_getElem? e)
theorem Yi {n m:Nat} {l:List (List D)} (h:D.gZ n m l=true) {i:Nat} {d:List D} (e:l[i]? = some d):D.bp n m d=true:=by
 rw [DH]at h;exact List.all_eq_true.1 h d (List.mem_of_getElem? e)
section
variable {M M0:Map} {s s0:St} {os ts:List Nat}
theorem iE.BH (kv : ∀ (i:Nat) t,ts[i]? = some t→M0.be i=M.be t) (ht : ∀ (i t:Nat),ts[i]? = some t→s0.aA[i]? = s.aA[t]?) (hlen:s0.aA.length=ts.length) {g:Tag} {z len cap:Nat} {base:Option (Nat×Nat)} (Ck:g.ok ts.length=true) (h:iE M s (g.cm ts) z len base cap):iE M0 s0 g z len base cap:=by
 cases g with
 | full=>exact h
 | shared=>exact h
 | tok t y=>
  have hF:t<ts.length:=by simpa [Tag.ok]using Ck
  have e:ts[t]? = some ts[t]:=List.getElem?_eq_getElem hF
  simp only [Tag.cm,e]at h
  obtain⟨h1,h2⟩:=h
  refine⟨by omega,fun n hn=> ?_⟩
  rw [ht t _ e]at hn
  rw [kv t _ e]
  exact h2 n hn
theorem RD.BH (hG:M0.G=M.G) (qg : ∀ (i:Nat) o,os[i]? = some o→M0.loc i=M.loc o) (kO:s0.aw.length=os.length)
 (kv : ∀ (i:Nat) t,ts[i]? = some t→M0.be i=M.be t) (ht : ∀ (i t:Nat),ts[i]? = some t→s0.aA[i]? = s.aA[t]?) (hlen:s0.aA.length=ts.length) {d:D} {v:Value} (h:RD M s d v) :
 ∀ d0:D,d0.cm os ts=d→d0.ok os.length ts.length=true→RD M0 s0 d0 v:=by
 have mE : ∀ (i:Nat) o,os[i]? = some o→M0.mu i=M.mu o:=fun i o h=>congrArg Prod.fst (qg i o h)
 have tag:=fun {g z len cap base}=>@iE.BH M M0 s s0 ts kv ht hlen g z len cap base
 induction h with
 | junk v=>
  intro d0 e ok
  cases d0 <;> simp only [D.cm]at e <;> try (cases e;done)
  ·exact .junk v
  ·rename_i o off
   have hF:o<os.length:=by simpa [D.ok]using ok
   rw [List.getElem?_eq_getElem hF]at e;cases e
  ·rename_i T o
   have hF:o<os.length:=by simpa [D.ok]using ok
   rw [List.getElem?_eq_getElem hF]at e;cases e
  ·rename_i o
   have hF:o<os.length:=by simpa [D.ok]using ok
   rw [List.getElem?_eq_getElem hF]at e;cases e
  ·rename_i z o g len
   have hF:o<os.length:=by simpa [D.ok]using ok
   rw [List.getElem?_eq_getElem hF]at e;cases e
  ·rename_i o g off
   have hF:o<os.length:=by simpa [D.ok]using ok
   rw [List.getElem?_eq_getElem hF]at e;cases e
 | fy z a=>intro d0 e ok;cases d0 <;> simp only [D.cm]at e <;> first | (cases e;exact .fy _ _) | (split at e <;> cases e) | cases e
 | er z o g len b cap A ho hm ha hl=>
  intro d0 e ok
  cases d0 <;> simp only [D.cm]at e <;> first | (cases e;done) | skip
  all_goals try (split at e <;> cases e;done)
  rename_i z0 o0 g0 aa0
  have hF:o0<os.length:=by simpa [D.ok]using ok
  rw [List.getElem?_eq_getElem hF]at e
  cases e
  exact RD.er (s:=s0) z o0 g len b cap A (by omega) ((congrArg Prod.snd (qg o0 _ (List.getElem?_eq_getElem hF))).trans hm) ha hl
 | fu z o g off b cap A ho hm ha=>
  intro d0 e ok
  cases d0 <;> simp only [D.cm]at e <;> first | (cases e;done) | skip
  all_goals try (split at e <;> cases e;done)
  rename_i o0 g0 Tk
  have hF:o0<os.length:=by simpa [D.ok]using ok
  rw [List.getElem?_eq_getElem hF]at e
  cases e
  exact RD.fu (s:=s0) z o0 g off b cap A (by omega) ((congrArg Prod.snd (qg o0 _ (List.getElem?_eq_getElem hF))).trans hm) ha
 | val v hv=>intro d0 e ok;cases d0 <;> simp only [D.cm]at e <;> first | (cases e;exact .val _ hv) | (split at e <;> cases e) | cases e
 | fm T o v ho ht hv=>
  intro d0 e ok
  cases d0 <;> simp only [D.cm]at e <;> first | (split at e <;> cases e;done) | skip
  all_goals try (cases e;done)
  rename_i T0 o0
  have hF:o0<os.length:=by simpa [D.ok]using ok
  rw [List.getElem?_eq_getElem hF]at e
  cases e
  have hl:=qg o0 _ (List.getElem?_eq_getElem hF)
  exact .fm _ o0 v (by omega) ((congrArg (fun x=>x.2.ty?) hl).trans ht) (by rw [mE o0 _ (List.getElem?_eq_getElem hF)];exact hv)
 | int k x=>intro d0 e ok;cases d0 <;> simp only [D.cm]at e <;> first | (cases e;exact .int _ _) | (split at e <;> cases e) | cases e
 | bool b=>intro d0 e ok;cases d0 <;> simp only [D.cm]at e <;> first | (cases e;exact .bool _) | (split at e <;> cases e) | cases e
 | str l=>intro d0 e ok;cases d0 <;> simp only [D.cm]at e <;> first | (cases e;exact .str _) | (split at e <;> cases e) | cases e
 | eR=>intro d0 e ok;cases d0 <;> simp only [D.cm]at e <;> first | (cases e;exact .eR) | (split at e <;> cases e) | cases e
 | fY o ho hm=>
  intro d0 e ok
  cases d0 <;> simp only [D.cm]at e <;> first | (cases e;done) | skip
  all_goals try (split at e <;> cases e;done)
  rename_i o0
  have hF:o0<os.length:=by simpa [D.ok]using ok
  rw [List.getElem?_eq_getElem hF]at e
  cases e
  rw [← mE o0 _ (List.getElem?_eq_getElem hF)]
  exact RD.fY (s:=s0) o0 (by omega) ((congrArg Prod.snd (qg o0 _ (List.getElem?_eq_getElem hF))).trans hm)
 | gj f ds vs hl _ ih=>
  intro d0 e ok
  cases d0 <;> simp only [D.cm]at e <;> first | (split at e <;> cases e;done) | skip
  all_goals try (cases e;done)
  rename_i f0 Qg
  simp only [D.gj.injEq]at e
  obtain⟨rfl,rfl⟩:=e
  simp only [D.ok]at ok
  rw [fR]at hl ih
  refine .gj _ Qg vs (by simpa using hl) (fun i d v e1 e2=>ih i _ v (by rw [List.getElem?_map,e1];rfl) e2 d rfl (uV ok e1))
 | ptr o off ho hm=>
  intro d0 e ok
  cases d0 <;> simp only [D.cm]at e <;> first | (cases e;done) | skip
  all_goals try (split at e <;> cases e;done)
  rename_i o0 Tk
  have hF:o0<os.length:=by simpa [D.ok]using ok
  rw [List.getElem?_eq_getElem hF]at e
  cases e
  rw [← mE o0 _ (List.getElem?_eq_getElem hF)]
  exact RD.ptr (s:=s0) o0 _ (by omega) (by rw [show M0.ob o0=_ from congrArg Prod.snd (qg o0 _ (List.getElem?_eq_getElem hF))];exact hm)
 | dG row off b k h1 h2 ih=>
  intro d0 e ok
  cases d0 <;> simp only [D.cm]at e <;> first | (split at e <;> cases e;done) | skip
  all_goals try (cases e;done)
  rename_i aiH Tk
  simp only [D.dG.injEq]at e
  obtain⟨rfl,rfl⟩:=e
  simp only [D.ok]at ok
  rw [fR]at h1 ih
  refine .dG aiH Tk b k (fun i d e=> ?_) (fun i d u e eu=> ?_)
  ·rw [hG];exact h1 i _ (by rw [List.getElem?_map,e];rfl)
  ·rw [hG]at eu;exact ih i _ u (by rw [List.getElem?_map,e];rfl) eu d rfl (uV ok e)
 | iZ g z cap hc py=>
  intro d0 e ok
  cases d0 <;> simp only [D.cm]at e <;> first | (split at e <;> cases e;done) | skip
  all_goals try (cases e;done)
  rename_i g0 z0 uk
  simp only [D.slice.injEq]at e
  obtain⟨rfl,rfl,e⟩:=e
  have:uk = []:=by cases uk <;> simp [D.oI]at e;rfl
  subst this
  simp only [D.ok,Bool.and_eq_true]at ok
  exact .iZ g0 z0 cap hc (tag ok.1 py)
 | lV z a cap=>
  intro d0 e ok
  cases d0 <;> simp only [D.cm]at e <;> first | (split at e <;> cases e;done) | skip
  all_goals try (cases e;done)
  rename_i g0 z0 uk
  simp only [D.slice.injEq]at e
  obtain⟨hg,rfl,e⟩:=e
  have:uk = []:=by cases uk <;> simp [D.oI]at e;rfl
  subst this
  simp only [D.ok,Bool.and_eq_true]at ok
  have:g0 = .shared:=by
   cases g0 with
   | tok t y=>
    have ht:t<ts.length:=by simpa [Tag.ok]using ok.1
    simp [Tag.cm,ht]at hg
   | shared=>rfl
   | _=>simp [Tag.cm]at hg
  subst this
  exact .lV _ a cap
 | slice g z rows b k cap hl hs h1 h2 py ih=>
  intro d0 e ok
  cases d0 <;> simp only [D.cm]at e <;> first | (split at e <;> cases e;done) | skip
  all_goals try (cases e;done)
  rename_i g0 z0 uk
  simp only [D.slice.injEq]at e
  obtain⟨rfl,rfl,rfl⟩:=e
  simp only [D.ok,Bool.and_eq_true]at ok
  rw [BG]at hl hs h1 ih py
  simp only [BG,List.length_map]at hl py ⊢
  have eo : ∀ (i:Nat) (row:List D),uk[i]? = some row→(uk.map (D.dY os ts))[i]? = some (D.dY os ts row):=fun i row e=>by rw [List.getElem?_map,e];rfl
  have qO : ∀ (row:List D) (j:Nat) (d:D),row[j]? = some d→(D.dY os ts row)[j]? = some (D.cm os ts d):=fun row j d e=>by rw [fR,List.getElem?_map,e];rfl
  refine .slice g0 z0 uk b k cap hl (fun row hr=> ?_) (fun i row j d e1 e2=> ?_) (fun i row j d u e1 e2 eu=> ?_) (tag ok.1 py)
  ·have:=hs (D.dY os ts row) (List.mem_map.2 ⟨row,hr,rfl⟩)
   rwa [fR,List.length_map]at this
  ·rw [hG];exact h1 i _ j _ (eo i row e1) (qO row j d e2)
  ·rw [hG]at eu;exact ih i _ j _ u (eo i row e1) (qO row j d e2) eu d rfl (uV (Yi ok.2 e1) e2)
 | agg cells vs hl h1 _ ih=>
  intro d0 e ok
  cases d0 <;> simp only [D.cm]at e <;> first | (split at e <;> cases e;done) | skip
  all_goals try (cases e;done)
  rename_i Qg
  simp only [D.agg.injEq]at e
  subst e
  simp only [D.ok]at ok
  rw [fR]at hl ih
  refine .agg Qg vs (by simpa using hl) h1 (fun i d v e1 e2=>ih i _ v (by rw [List.getElem?_map,e1];rfl) e2 d rfl (uV ok e1))
 | tuple ds vs hl _ ih=>
  intro d0 e ok
  cases d0 <;> simp only [D.cm]at e <;> first | (split at e <;> cases e;done) | skip
  all_goals try (cases e;done)
  rename_i Qg
  simp only [D.tuple.injEq]at e
  subst e
  simp only [D.ok]at ok
  rw [fR]at hl ih
  refine .tuple Qg vs (by simpa using hl) (fun i d v e1 e2=>ih i _ v (by rw [List.getElem?_map,e1];rfl) e2 d rfl (uV ok e1))
theorem RD.cm (hG:M0.G=M.G) (qg : ∀ i,i<s0.aw.length→∃ o,os[i]? = some o∧o<s.aw.length∧M.loc o=M0.loc i)
 (kv : ∀ i,i<s0.aA.length→∃ t,ts[i]? = some t∧t<s.aA.length∧s.aA[t]? = s0.aA[i]? ∧M.be t=M0.be i) {d:D} {v:Value} (h:RD M0 s0 d v):RD M s (d.cm os ts) v:=by
 have tag : ∀ {g:Tag} {z len cap:Nat} {base:Option (Nat×Nat)},iE M0 s0 g z len base cap→iE M s (g.cm ts) z len base cap:=by
  intro g z len cap base h
  cases g with
  | full=>exact h
  | shared=>exact h
  | tok t y=>
   obtain⟨h1,h2⟩:=h
   obtain⟨t',e,hF,P7,hb⟩:=kv t h1
   simp only [Tag.cm,e]
   refine⟨hF,fun n hn=> ?_⟩
   rw [hb]
   exact h2 n (P7 ▸ hn)
 induction h with
 | junk v=>simp only [D.cm];exact .junk v
 | int k x=>simp only [D.cm];exact .int k x
 | bool b=>simp only [D.cm];exact .bool b
 | str l=>simp only [D.cm];exact .str l
 | eR=>simp only [D.cm];exact .eR
 | ptr o off ho hk=>
  obtain⟨o',e,hF,hm⟩:=qg o ho
  simp only [D.cm,e]
  have hb:M.ob o'=M0.ob o:=congrArg Prod.snd hm
  have hm:M.mu o'=M0.mu o:=congrArg Prod.fst hm
  rw [← hm]
  exact .ptr o' off hF (by rw [hb];exact hk)
 | fY o ho hk=>
  obtain⟨o',e,hF,hm⟩:=qg o ho
  simp only [D.cm,e]
  have hb:M.ob o'=M0.ob o:=congrArg Prod.snd hm
  have hm:M.mu o'=M0.mu o:=congrArg Prod.fst hm
  rw [← hm]
  exact .fY o' hF (by rw [hb];exact hk)
 | fy z a=>simp only [D.cm];exact .fy z a
 | er z o g len b cap A ho hk ha hl=>
  obtain⟨o',e,hF,hm⟩:=qg o ho
  simp only [D.cm,e]
  exact .er z o' g len b cap A hF ((congrArg Prod.snd hm).trans hk) ha hl
 | fu z o g off b cap A ho hk ha=>
  obtain⟨o',e,hF,hm⟩:=qg o ho
  simp only [D.cm,e]
  exact .fu z o' g off b cap A hF ((congrArg Prod.snd hm).trans hk) ha
 | gj f ds vs hl _ ih=>
  simp only [D.cm,fR]
  refine .gj f _ vs (by simpa using hl) (fun i d v e1 e2=> ?_)
  simp only [List.getElem?_map,Option.map_eq_some_iff]at e1
  obtain⟨d',e1,rfl⟩:=e1
  exact ih i d' v e1 e2
 | val v hv=>simp only [D.cm];exact .val v hv
 | fm T o v ho ht hv=>
  obtain⟨o',e,hF,hm⟩:=qg o ho
  simp only [D.cm,e]
  have h1:M.mu o'=M0.mu o:=congrArg Prod.fst hm
  have h2:M.ty o'=M0.ty o:=congrArg (fun x=>x.2.ty?) hm
  exact .fm T o' v hF (by rw [h2];exact ht) (by rw [h1];exact hv)
 | dG row off b k h1 h2 ih=>
  simp only [D.cm,fR]
  refine .dG _ off b k (fun i d e=> ?_) (fun i d u e eu=> ?_)
  ·simp only [List.getElem?_map,Option.map_eq_some_iff]at e
   obtain⟨d',e,rfl⟩:=e
   rw [← hG];exact h1 i d' e
  ·simp only [List.getElem?_map,Option.map_eq_some_iff]at e
   obtain⟨d',e,rfl⟩:=e
   rw [← hG]at eu;exact ih i d' u e eu
 | iZ g z cap hc ht=>simp only [D.cm,D.oI];exact .iZ _ z cap hc (tag ht)
 | lV z a cap=>simp only [D.cm,D.oI,Tag.cm];exact .lV z a cap
 | slice g z rows b k cap hl hs h1 h2 ht ih=>
  simp only [D.cm,BG]
  have hlen:(rows.map (D.dY os ts)).length=rows.length:=by simp
  have key:=RD.slice (M:=M) (s:=s) (g.cm ts) z (rows.map (D.dY os ts)) b k cap (by rw [hlen];exact hl) (fun row hr=>by
   obtain⟨ja,h',rfl⟩:=List.mem_map.1 hr
   rw [fR,List.length_map];exact hs ja h')
   (fun i row j d e1 e2=>by
    simp only [List.getElem?_map,Option.map_eq_some_iff]at e1
    obtain⟨ja,e1,rfl⟩:=e1
    rw [fR]at e2
    simp only [List.getElem?_map,Option.map_eq_some_iff]at e2
    obtain⟨d',e2,rfl⟩:=e2
    rw [← hG];exact h1 i ja j d' e1 e2)
   (fun i row j d u e1 e2 eu=>by
    simp only [List.getElem?_map,Option.map_eq_some_iff]at e1
    obtain⟨ja,e1,rfl⟩:=e1
    rw [fR]at e2
    simp only [List.getElem?_map,Option.map_eq_some_iff]at e2
    obtain⟨d',e2,rfl⟩:=e2
    rw [← hG]at eu;exact ih i ja j d' u e1 e2 eu)
   (by rw [hlen];exact tag ht)
  rw [hlen]at key
  exact key
 | agg cells vs hl h1 _ ih=>
  simp only [D.cm,fR]
  refine .agg _ vs (by simpa using hl) h1 (fun i d v e1 e2=> ?_)
  simp only [List.getElem?_map,Option.map_eq_some_iff]at e1
  obtain⟨d',e1,rfl⟩:=e1
  exact ih i d' v e1 e2
 | tuple ds vs hl _ ih=>
  simp only [D.cm,fR]
  refine .tuple _ vs (by simpa using hl) (fun i d v e1 e2=> ?_)
  simp only [List.getElem?_map,Option.map_eq_some_iff]at e1
  obtain⟨d',e1,rfl⟩:=e1
  exact ih i d' v e1 e2
def jO {α:Type} : List Nat→List α→List α→List α
 | [],new,l=>l++new
 | _::_,[],l=>l
 | o::os,x::xs,l=>jO os xs (l.set o x)
def jn (os:List Nat) (n k:Nat):List Nat:=os++(List.range k).map (n + ·)
theorem wN {α:Type} : ∀ (os:List Nat) (xs l:List α),os.length≤xs.length→(jO os xs l).length=l.length+(xs.length - os.length)
 | [],xs,l,_=>by simp [jO]
 | o::os,[],l,h=>by simp at h
 | o::os,x::xs,l,h=>by
  simp only [jO]
  rw [wN os xs _ (by simpa using h)]
  simp
theorem CP {α:Type} : ∀ (os:List Nat) (xs l:List α),os.length≤xs.length→os.Nodup→(∀ o∈os,o<l.length)→
 (∀ (i:Nat) (o:Nat),os[i]? = some o→(jO os xs l)[o]? = xs[i]?)∧(∀ o,o<l.length→o∉os→(jO os xs l)[o]? = l[o]?)∧
 (∀ k,(jO os xs l)[l.length+k]? = xs[os.length+k]?)
 | [],xs,l,_,_,_=>by
  refine⟨by simp,fun o ho _=>by simp only [jO];rw [List.getElem?_append_left ho],fun k=>by simp only [jO];rw [List.getElem?_append_right (by omega)];simp⟩
 | o::os,[],l,h,_,_=>by simp at h
 | o::os,x::xs,l,h,hn,hF=>by
  simp only [List.nodup_cons]at hn
  have zJ : ∀ q∈os,q<(l.set o x).length:=fun q hq=>by simpa using hF q (by simp [hq])
  obtain⟨h1,h2,h3⟩:=CP os xs (l.set o x) (by simpa using h) hn.2 zJ
  have ho:o<l.length:=hF o (by simp)
  simp only [jO]
  refine⟨fun i q e=> ?_,fun q hq hq2=> ?_,fun k=> ?_⟩
  ·cases i with
   | zero=>
    simp only [List.getElem?_cons_zero,Option.some.injEq]at e
    subst e
    rw [h2 o (by simpa using ho) hn.1]
    simp [ho]
   | succ i=>simpa using h1 i q (by simpa using e)
  ·have sV:q≠o:=fun e=>hq2 (by simp [e])
   rw [h2 q (by simpa using hq) (fun h=>hq2 (by simp [h])),List.getElem?_set_ne (Ne.symm sV)]
  ·have:=h3 k
   simp only [List.length_set]at this
   rw [this]
   simp only [List.length_cons]
   rw [show os.length+1+k=(os.length+k)+1 by omega];simp
theorem Cl (os:List Nat) (n k i:Nat):(jn os n k)[i]? = if i<os.length then os[i]? else if i<os.length+k then some (n+(i - os.length))else none:=by
 unfold jn
 split
 ·rename_i h;rw [List.getElem?_append_left h]
 ·rename_i h
  rw [List.getElem?_append_right (by omega)]
  split
  ·rename_i h2
   rw [List.getElem?_map,List.getElem?_range (by omega)];rfl
  ·rename_i h2
   rw [List.getElem?_eq_none]
   simp;omega
def posOf:List Nat→Nat→Option Nat
 | [],_=>none
 | x::r,o=>if x=o then some 0 else(posOf r o).map (· + 1)
theorem iG : ∀ {l:List Nat} {o i:Nat},posOf l o=some i→l[i]? = some o
 | x::r,o,i,h=>by
  simp only [posOf]at h
  split at h
  ·rename_i e;cases h;simp [e]
  ·cases hp:posOf r o with
   | none=>rw [hp]at h;cases h
   | some j=>rw [hp]at h;cases h;simpa using iG hp
theorem lP : ∀ {l:List Nat} {o i:Nat},l.Nodup→l[i]? = some o→posOf l o=some i
 | x::r,o,i,hn,h=>by
  simp only [List.nodup_cons]at hn
  simp only [posOf]
  cases i with
  | zero=>simp at h;simp [h]
  | succ i=>
   simp at h
   have:x≠o:=fun e=>hn.1 (by rw [e];exact List.mem_of_getElem? h)
   rw [if_neg this,lP hn.2 h];rfl
end
end Go.Abs

/-! Frame2 -/

namespace Go.Abs
theorem zK {l:List Nat} {n k:Nat} (h:l.Nodup) (hl : ∀ o∈l,o<n):(jn l n k).Nodup:=by
 unfold jn
 rw [List.nodup_append]
 refine⟨h, ?_,fun a ha b hb=> ?_⟩
 ·rw [List.nodup_iff_pairwise_ne,List.pairwise_map]
  exact List.Pairwise.imp (fun h=>by omega) (List.nodup_iff_pairwise_ne.1 List.nodup_range)
 ·obtain⟨c,hc,rfl⟩:=List.mem_map.1 hb
  have:=hl a ha
  omega
def fL (M:Map) (os ts:List Nat):Map:=⟨M.G,fun i=>M.loc (os.getD i 0),fun i=>M.be (ts.getD i 0)⟩
def xN (M M0:Map) (os ts:List Nat):Map:=
 ⟨M0.G,fun o=>match posOf os o with | some i=>M0.loc i | none=>M.loc o,fun t=>match posOf ts t with | some i=>M0.be i | none=>M.be t⟩
section
variable {P:Program} {M:Map} {s s0:St} {w:World} {os ts:List Nat}
theorem rV {l:List Nat} {i o:Nat} (h:l[i]? = some o):l.getD i 0=o:=by simp [List.getD,h]
theorem Rel.sub (r:Rel M s w) (tT:os.Nodup) (LF:ts.Nodup) (kO : ∀ o∈os,o<s.aw.length)
 (ho:s0.aw.length=os.length) (oJ : ∀ (i o:Nat) (ds:List D),os[i]? = some o→s0.aw[i]? = some ds→s.aw[o]? = some (D.dY os ts ds)∧D.bp os.length ts.length ds=true)
 (ht:s0.aA.length=ts.length) (tj : ∀ (i t:Nat),ts[i]? = some t→s0.aA[i]? = s.aA[t]?):Rel (fL M os ts) s0 w:=by
 have nth : ∀ i,i<s0.aw.length→∃ o,os[i]? = some o∧o<s.aw.length:=fun i hi=>⟨os[i],List.getElem?_eq_getElem (by omega),kO _ (List.getElem_mem _)⟩
 have loc : ∀ (i:Nat) o,os[i]? = some o→(fL M os ts).loc i=M.loc o:=fun i o h=>by simp only [fL,rV h]
 have mu : ∀ (i:Nat) o,os[i]? = some o→(fL M os ts).mu i=M.mu o:=fun i o h=>congrArg Prod.fst (loc i o h)
 have be : ∀ (i:Nat) t,ts[i]? = some t→(fL M os ts).be i=M.be t:=fun i t h=>by simp only [fL,rV h]
 have Wr : ∀ t,s0.live t→∃ t',ts[t]? = some t'∧s.live t':=fun t ⟨n,hn⟩=>by
  have hF:=(List.getElem?_eq_some_iff.1 hn).1
  have e:ts[t]? = some ts[t]:=List.getElem?_eq_getElem (by omega)
  exact⟨_,e,n,by rw [← tj t _ e];exact hn⟩
 refine⟨r.comm,fun i ds e=> ?_,fun i hi off=> ?_,fun i i' hi ik e=> ?_,fun t n e=> ?_,fun t b c z i hl e hi=> ?_,fun t t' b c z c' z' h h' e e'=> ?_⟩
 ·obtain⟨o,h1,_⟩:=nth i (List.getElem?_eq_some_iff.1 e).1
  obtain⟨h2,h3⟩:=oJ i o ds h1 e
  obtain⟨vs,T,g1,g2,g3,g4⟩:=r.obj o _ h2
  refine⟨vs,T,by rw [loc i o h1];exact g1,by rw [fR]at g2;simpa using g2,⟨g3.1,by rw [show(fL M os ts).ty i=M.ty o from congrArg (fun x=>x.2.ty?) (loc i o h1)];exact g3.2⟩,fun j d v e1 e2=> ?_⟩
  exact RD.BH (M:=M) (M0:=fL M os ts) (s:=s) rfl loc ho be tj ht (g4 j (d.cm os ts) v (by rw [fR,List.getElem?_map,e1];rfl) e2) d rfl (uV h3 e1)
 ·obtain⟨o,h1,h2⟩:=nth i hi
  rw [mu i o h1];exact r.jr o h2 off
 ·obtain⟨o,h1,h2⟩:=nth i hi
  obtain⟨o',rL,xO⟩:=nth i' ik
  rw [mu i o h1,mu i' o' rL]at e
  have:=r.inj o o' h2 xO e
  subst this
  have a:=lP tT h1
  have b:=lP tT rL
  rw [a]at b;cases b;rfl
 ·obtain⟨t',h1,h2⟩:=Wr t ⟨n,e⟩
  rw [be t t' h1]
  exact r.tok t' n (by rw [← tj t t' h1];exact e)
 ·obtain⟨t',h1,h2⟩:=Wr t hl
  obtain⟨o,h3,h4⟩:=nth i hi
  rw [be t t' h1]at e
  rw [mu i o h3]
  exact r.eY t' b c z o h2 e h4
 ·obtain⟨q,h1,h2⟩:=Wr t h
  obtain⟨q',rL,xO⟩:=Wr t' h'
  rw [be t q h1]at e
  rw [be t' q' rL]at e'
  have:=r.fZ q q' b c z c' z' h2 xO e e'
  subst this
  have a:=lP LF h1
  have b:=lP LF rL
  rw [a]at b;cases b;rfl
end
def St.back (s:St) (os ts:List Nat) (s':St):St:=
 ⟨jO os (s'.aw.map (D.dY (jn os s.aw.length (s'.aw.length - os.length)) (jn ts s.aA.length (s'.aA.length - ts.length)))) s.aw,jO ts s'.aA s.aA⟩
def D.back (s:St) (os ts:List Nat) (s':St) (d:D):D:=
 d.cm (jn os s.aw.length (s'.aw.length - os.length)) (jn ts s.aA.length (s'.aA.length - ts.length))
theorem ew.frame {P:Program} {f:FuncId} {MZ args:List D} {s s0:St} {Q0 Q:D→St→Prop} (os ts:List Nat) (h:ew P f MZ s0 Q0) (tT:os.Nodup) (LF:ts.Nodup) (kO : ∀ o∈os,o<s.aw.length) (xE : ∀ t∈ts,t<s.aA.length)
 (ho:s0.aw.length=os.length) (oJ : ∀ (i o:Nat) (ds:List D),os[i]? = some o→s0.aw[i]? = some ds→s.aw[o]? = some (D.dY os ts ds)∧D.bp os.length ts.length ds=true)
 (ht:s0.aA.length=ts.length) (tj : ∀ (i t:Nat),ts[i]? = some t→s0.aA[i]? = s.aA[t]?)
 (HV:args=D.dY os ts MZ) (Ck:D.bp os.length ts.length MZ=true) (k : ∀ d s',Q0 d s'→Q (d.back s os ts s') (s.back os ts s')):ew P f args s Q:=by
 intro M w gi r j9 dN ha
 have r0:=r.sub tT LF kO ho oJ ht tj
 have loc : ∀ (i:Nat) o,os[i]? = some o→(fL M os ts).loc i=M.loc o:=fun i o h=>by simp only [fL,rV h]
 have mu : ∀ (i:Nat) o,os[i]? = some o→(fL M os ts).mu i=M.mu o:=fun i o h=>congrArg Prod.fst (loc i o h)
 have be : ∀ (i:Nat) t,ts[i]? = some t→(fL M os ts).be i=M.be t:=fun i t h=>by simp only [fL,rV h]
 subst HV
 have aa1:Laid (fL M os ts) s0 w:=by
  intro g cs hg
  obtain⟨h1,h2,h3⟩:=j9 g cs hg
  refine⟨h1,fun o hF=> ?_,fun t c z hl hb=> ?_⟩
  ·obtain⟨o',nr⟩ : ∃ o',os[o]? = some o':=⟨_,List.getElem?_eq_getElem (by omega)⟩
   rw [mu o o' nr]
   exact h2 o' (kO o' (List.mem_of_getElem? nr))
  ·obtain⟨n,hn⟩:=hl
   have hF:=(List.getElem?_eq_some_iff.1 hn).1
   obtain⟨t',Gj⟩ : ∃ t',ts[t]? = some t':=⟨_,List.getElem?_eq_getElem (by omega)⟩
   rw [be t t' Gj]at hb
   exact h3 t' c z ⟨n,by rw [← tj t t' Gj];exact hn⟩ hb
 have hc:=h (fL M os ts) w gi r0 aa1 (by rw [dN,fR,List.length_map]) (fun i d v e1 e2=>
  RD.BH (M:=M) (M0:=fL M os ts) (s:=s) rfl loc ho be tj ht (ha i (d.cm os ts) v (by rw [fR,List.getElem?_map,e1];rfl) e2) d rfl (uV Ck e1))
 refine hc.mono ?_
 rintro en w' ⟨xP,d,v,s',rfl,hq,e,r',hv⟩
 have IG:=e.le.n
 have Ds:=e.le.t
 generalize M3:jn os s.aw.length (s'.aw.length - os.length)=lB
 generalize M4:jn ts s.aA.length (s'.aA.length - ts.length)=oK
 have nd:lB.Nodup:=by rw [← M3];exact zK tT kO
 have ndt:oK.Nodup:=by rw [← M4];exact zK LF xE
 have M5 : ∀ i,lB[i]? = if i<os.length then os[i]? else if i<s'.aw.length then some (s.aw.length+(i - os.length))else none:=fun i=>by
  rw [← M3,Cl];split
  ·rfl
  ·rw [show os.length+(s'.aw.length - os.length)=s'.aw.length by omega]
 have M6 : ∀ i,oK[i]? = if i<ts.length then ts[i]? else if i<s'.aA.length then some (s.aA.length+(i - ts.length))else none:=fun i=>by
  rw [← M4,Cl];split
  ·rfl
  ·rw [show ts.length+(s'.aA.length - ts.length)=s'.aA.length by omega]
 have hsb:s.back os ts s' = ⟨jO os (s'.aw.map (D.dY lB oK)) s.aw,jO ts s'.aA s.aA⟩:=by simp only [St.back,M3,M4]
 have hdb:d.back s os ts s'=d.cm lB oK:=by simp only [D.back,M3,M4]
 have lA:=k d s' hq
 rw [hsb,hdb]at lA
 obtain⟨p1,p2,p3⟩:=CP os (s'.aw.map (D.dY lB oK)) s.aw (by simp;omega) tT kO
 obtain⟨q1,q2,q3⟩:=CP ts s'.aA s.aA (by omega) LF xE
 have IP:=wN os (s'.aw.map (D.dY lB oK)) s.aw (by simp;omega)
 have IQ:=wN ts s'.aA s.aA (by omega)
 simp only [List.length_map]at IP
 generalize Ly:(⟨jO os (s'.aw.map (D.dY lB oK)) s.aw,jO ts s'.aA s.aA⟩:St)=s2 at lA
 have so:s2.aw=jO os (s'.aw.map (D.dY lB oK)) s.aw:=by rw [← Ly]
 have st:s2.aA=jO ts s'.aA s.aA:=by rw [← Ly]
 -- the framed objects
 have fo : ∀ (i o:Nat),lB[i]? = some o→o<s2.aw.length∧s2.aw[o]? = (s'.aw[i]?).map (D.dY lB oK)∧i<s'.aw.length∧(i<os.length→o<s.aw.length∧os[i]? = some o)∧(os.length≤i→s.aw.length≤o):=by
  intro i o hi
  rw [M5]at hi
  split at hi
  ·rename_i h1
   have hF:=kO o (List.mem_of_getElem? hi)
   refine⟨by rw [so,IP];omega,by rw [so,p1 i o hi,List.getElem?_map],by omega,fun _=>⟨hF,hi⟩,fun h=>by omega⟩
  ·split at hi
   ·rename_i h1 h2
    cases hi
    refine⟨by rw [so,IP];omega, ?_,h2,fun h=>by omega,fun _=>by omega⟩
    rw [so,p3,List.getElem?_map,show os.length+(i - os.length)=i by omega]
   ·cases hi
 have ft : ∀ (i t:Nat),oK[i]? = some t→t<s2.aA.length∧s2.aA[t]? = s'.aA[i]? ∧i<s'.aA.length∧(i<ts.length→t<s.aA.length∧ts[i]? = some t)∧(ts.length≤i→s.aA.length≤t):=by
  intro i t hi
  rw [M6]at hi
  split at hi
  ·rename_i h1
   have hF:=xE t (List.mem_of_getElem? hi)
   refine⟨by rw [st,IQ];omega,by rw [st,q1 i t hi],by omega,fun _=>⟨hF,hi⟩,fun h=>by omega⟩
  ·split at hi
   ·rename_i h1 h2
    cases hi
    refine⟨by rw [st,IQ];omega, ?_,h2,fun h=>by omega,fun _=>by omega⟩
    rw [st,q3,show ts.length+(i - ts.length)=i by omega]
   ·cases hi
 -- all others
 have uo : ∀ o,o<s2.aw.length→posOf lB o=none→o<s.aw.length∧o∉os∧s2.aw[o]? = s.aw[o]? :=by
  intro o hF hp
  have oL : ∀ i,lB[i]? ≠some o:=fun i hi=>by rw [lP nd hi]at hp;cases hp
  have h1:o<s.aw.length:=by
   rcases Nat.lt_or_ge o s.aw.length with h | h
   ·exact h
   ·exfalso
    rw [so,IP]at hF
    refine oL (os.length+(o - s.aw.length)) ?_
    rw [M5,if_neg (by omega),if_pos (by omega)]
    congr 1;omega
  have h2:o∉os:=fun hm=>by
   obtain⟨i,hi⟩:=List.mem_iff_getElem?.1 hm
   have qz:=(List.getElem?_eq_some_iff.1 hi).1
   exact oL i (by rw [M5,if_pos qz];exact hi)
  exact⟨h1,h2,by rw [so,p2 o h1 h2]⟩
 have ut : ∀ t,t<s2.aA.length→posOf oK t=none→t<s.aA.length∧t∉ts∧s2.aA[t]? = s.aA[t]? :=by
  intro t hF hp
  have oL : ∀ i,oK[i]? ≠some t:=fun i hi=>by rw [lP ndt hi]at hp;cases hp
  have h1:t<s.aA.length:=by
   rcases Nat.lt_or_ge t s.aA.length with h | h
   ·exact h
   ·exfalso
    rw [st,IQ]at hF
    refine oL (ts.length+(t - s.aA.length)) ?_
    rw [M6,if_neg (by omega),if_pos (by omega)]
    congr 1;omega
  have h2:t∉ts:=fun hm=>by
   obtain⟨i,hi⟩:=List.mem_iff_getElem?.1 hm
   have qz:=(List.getElem?_eq_some_iff.1 hi).1
   exact oL i (by rw [M6,if_pos qz];exact hi)
  exact⟨h1,h2,by rw [st,q2 t h1 h2]⟩
 generalize Qi:xN M xP lB oK=M2
 have mG:xP.G=M2.G:=by rw [← Qi];rfl
 have lo : ∀ (i o:Nat),lB[i]? = some o→M2.loc o=xP.loc i:=fun i o hi=>by rw [← Qi];simp only [xN,lP nd hi]
 have Ws : ∀ o,posOf lB o=none→M2.loc o=M.loc o:=fun o hp=>by rw [← Qi];simp only [xN,hp]
 have mo : ∀ (i o:Nat),lB[i]? = some o→M2.mu o=xP.mu i:=fun i o hi=>congrArg Prod.fst (lo i o hi)
 have IS : ∀ o,posOf lB o=none→M2.mu o=M.mu o:=fun o hp=>congrArg Prod.fst (Ws o hp)
 have mt : ∀ (i t:Nat),oK[i]? = some t→M2.be t=xP.be i:=fun i t hi=>by rw [← Qi];simp only [xN,lP ndt hi]
 have IT : ∀ t,posOf oK t=none→M2.be t=M.be t:=fun t hp=>by rw [← Qi];simp only [xN,hp]
 have le:Le M s M2 s2:=by
  refine⟨fun b o v hg=>by rw [← mG];exact e.le.G b o v hg,by rw [so,IP];omega,fun o hF=> ?_,by rw [st,IQ];omega,fun t n' hF oe=> ?_⟩
  ·cases hp:posOf lB o with
   | none=>rw [Ws o hp];exact .refl _
   | some i=>
    have hi:=iG hp
    rw [lo i o hi]
    obtain⟨_,_,_,h1,h2⟩:=fo i o hi
    have qz:i<os.length:=by
     rcases Nat.lt_or_ge i os.length with h | h
     ·exact h
     ·have:=h2 h;omega
    have h3:=e.le.loc i (by omega)
    rw [loc i o (h1 qz).2]at h3
    exact h3
  ·cases hp:posOf oK t with
   | none=>
    obtain⟨_,_,h3⟩:=ut t (by rw [st,IQ];omega) hp
    rw [h3]at oe
    exact⟨n',oe,Nat.le_refl _,fun _=>IT t hp⟩
   | some i=>
    have hi:=iG hp
    obtain⟨_,g1,_,h1,h2⟩:=ft i t hi
    have qz:i<ts.length:=by
     rcases Nat.lt_or_ge i ts.length with h | h
     ·exact h
     ·have:=h2 h;omega
    rw [g1]at oe
    obtain⟨n,h3,h4,h5⟩:=e.le.tk i n' (by omega) oe
    refine⟨n,by rw [← tj i t (h1 qz).2];exact h3,h4,fun eq=> ?_⟩
    rw [mt i t hi,h5 eq,be i t (h1 qz).2]
 have aa2 : ∀ {d:D} {v:Value},RD xP s' d v→RD M2 s2 (d.cm lB oK) v:=fun hd=>RD.cm mG
  (fun i hi=>by
   obtain⟨o,ho⟩ : ∃ o,lB[i]? = some o:=by
    rw [M5];split
    ·rename_i h1;exact⟨_,List.getElem?_eq_getElem h1⟩
    ·exact⟨_,rfl⟩
   exact⟨o,ho,(fo i o ho).1,lo i o ho⟩)
  (fun i hi=>by
   obtain⟨t,ht⟩ : ∃ t,oK[i]? = some t:=by
    rw [M6];split
    ·rename_i h1;exact⟨_,List.getElem?_eq_getElem h1⟩
    ·exact⟨_,rfl⟩
   exact⟨t,ht,(ft i t ht).1,(ft i t ht).2.1,mt i t ht⟩) hd
 -- blocks that the callee did not know
 have HW : ∀ i,s0.live i→∃ t,ts[i]? = some t∧s.live t:=fun i ⟨n,hn⟩=>by
  have hF:=(List.getElem?_eq_some_iff.1 hn).1
  have e1:ts[i]? = some ts[i]:=List.getElem?_eq_getElem (by omega)
  exact⟨_,e1,n,by rw [← tj i _ e1];exact hn⟩
 have M7 : ∀ b,b<w.heap.size→(∀ (i o:Nat),os[i]? = some o→M.mu o≠b)→(∀ (i t:Nat) c z,ts[i]? = some t→s.live t→M.be t≠some (b,c,z))→
  w'.heap[b]? = w.heap[b]? ∧∀ off,xP.G b off=M.G b off:=by
  intro b hb h1 h2
  refine⟨e.kept b hb (fun i hi=> ?_) (fun i c z hl=> ?_),fun off=> ?_⟩
  ·have e1:os[i]? = some os[i]:=List.getElem?_eq_getElem (by omega)
   rw [mu i _ e1];exact h1 i _ e1
  ·obtain⟨t,e1,hF⟩:=HW i hl
   rw [be i t e1];exact h2 i t c z e1 hF
  ·apply Classical.byContradiction
   intro eH
   rcases e.qf b off eH with h3 | ⟨i,c,z,hl,h3⟩
   ·omega
   ·obtain⟨t,e1,hF⟩:=HW i hl
    rw [be i t e1]at h3
    exact h2 i t c z e1 hF h3
 have Wt : ∀ o,o<s.aw.length→o∉os→w'.heap[M.mu o]? = w.heap[M.mu o]? ∧∀ off,xP.G (M.mu o) off=M.G (M.mu o) off:=fun o hF oL=>
  M7 _ (r.pW hF) (fun i o' h1 h2=>oL (by rw [← r.inj o' o (kO o' (List.mem_of_getElem? h1)) hF h2];exact List.mem_of_getElem? h1))
   (fun i t c z _ hl h2=>r.eY t _ c z o hl h2 hF rfl)
 have afb : ∀ t b c z,s.live t→t∉ts→M.be t=some (b,c,z)→w'.heap[b]? = w.heap[b]? ∧∀ off,xP.G b off=M.G b off:=fun t b c z hl oL hb=>
  M7 b (r.sq hl hb) (fun i o h1=>r.eY t b c z o hl hb (kO o (List.mem_of_getElem? h1)))
   (fun i t' c' z' h1 mH h2=>oL (by rw [r.fZ t t' b c z c' z' hl mH hb h2];exact List.mem_of_getElem? h1))
 have lv : ∀ t,s2.live t→(∃ i,oK[i]? = some t∧s'.live i)∨(posOf oK t=none∧s.live t∧t∉ts):=by
  rintro t ⟨n,hn⟩
  cases hp:posOf oK t with
  | none=>
   obtain⟨h1,h2,h3⟩:=ut t (List.getElem?_eq_some_iff.1 hn).1 hp
   exact .inr ⟨rfl,⟨n,by rw [← h3];exact hn⟩,h2⟩
  | some i=>
   have hi:=iG hp
   exact .inl ⟨i,hi,n,by rw [← (ft i t hi).2.1];exact hn⟩
 -- where a framed object lies
 have Wu : ∀ (i o:Nat),lB[i]? = some o→(o<s.aw.length∧o∈os∧xP.mu i=M.mu o)∨w.heap.size≤xP.mu i:=by
  intro i o hi
  obtain⟨_,_,h1,h2,h3⟩:=fo i o hi
  rcases e.mo h1 with ⟨h4,h5⟩ | h4
  ·have h:i<os.length:=by omega
   exact .inl ⟨(h2 h).1,List.mem_of_getElem? (h2 h).2,by rw [h5,mu i o (h2 h).2]⟩
  ·exact .inr h4
 have Wv : ∀ (i t b c z:Nat),oK[i]? = some t→s'.live i→xP.be i=some (b,c,z)→(s.live t∧t∈ts∧∃ c' z',M.be t=some (b,c',z'))∨w.heap.size≤b:=by
  intro i t b c z hi hl hb
  rcases e.pA i b c z hl hb with ⟨h1,c',z',h2⟩ | h1
  ·obtain⟨t',e1,hF⟩:=HW i h1
   have qz:=(List.getElem?_eq_some_iff.1 e1).1
   obtain⟨_,_,_,h3,_⟩:=ft i t hi
   have:=(h3 qz).2
   rw [e1]at this;cases this
   rw [be i _ e1]at h2
   exact .inl ⟨hF,List.mem_of_getElem? e1,c',z',h2⟩
  ·exact .inr h1
 refine⟨M2,d.cm lB oK,v,s2,rfl,lA, ?_, ?_,aa2 hv⟩
 ·-- Ext
  refine⟨le,fun b hb h1 h2=> ?_,fun o h1 h2=> ?_,fun t b c z hl hb=> ?_,fun b off eH=> ?_,e.size,e.os,e.tape,e.output⟩
  ·exact(M7 b hb (fun i o h3=>h1 o (kO o (List.mem_of_getElem? h3))) (fun i t c z _ hl=>h2 t c z hl)).1
  ·cases hp:posOf lB o with
   | none=>
    have:=(uo o h2 hp).1
    rcases h1 with h1 | h1
    ·omega
    ·exact(h1 (IS o hp)).elim
   | some i=>
    have hi:=iG hp
    rw [mo i o hi]at h1 ⊢
    rcases Wu i o hi with ⟨h3,_,h5⟩ | h3
    ·rcases h1 with h1 | h1
     ·omega
     ·exact(h1 h5).elim
    ·exact h3
  ·rcases lv t hl with ⟨i,hi,mH⟩ | ⟨hp,mH,_⟩
   ·rw [mt i t hi]at hb
    rcases Wv i t b c z hi mH hb with ⟨h1,_,h2⟩ | h1
    ·exact .inl ⟨h1,h2⟩
    ·exact .inr h1
   ·rw [IT t hp]at hb
    exact .inl ⟨mH,c,z,hb⟩
  ·rw [← mG]at eH
   rcases e.qf b off eH with h1 | ⟨i,c,z,hl,hb⟩
   ·exact .inl h1
   ·obtain⟨t,e1,hF⟩:=HW i hl
    rw [be i t e1]at hb
    exact .inr ⟨t,c,z,hF,hb⟩
 ·-- Rel
  refine⟨fun b o v hg=>r'.comm b o v (by rw [mG];exact hg),fun o ds DF=> ?_,fun o hF off=> ?_,fun o o' hF zJ heq=> ?_,fun t n hn=> ?_,fun t b c z o hl hb hF=> ?_,fun t t' b c z c' z' hl mH hb tQ=> ?_⟩
  ·cases hp:posOf lB o with
   | some i=>
    have hi:=iG hp
    obtain⟨_,g1,_⟩:=fo i o hi
    rw [g1]at DF
    obtain⟨nq,h1,rfl⟩:=Option.map_eq_some_iff.1 DF
    obtain⟨vs,T,h2,h3,h4,h5⟩:=r'.obj i nq h1
    refine⟨vs,T,by rw [lo i o hi];exact h2,by rw [fR];simpa using h3,⟨h4.1,by rw [show M2.ty o=xP.ty i from congrArg (fun x=>x.2.ty?) (lo i o hi)];exact h4.2⟩,fun j d v e1 e2=> ?_⟩
    rw [fR]at e1
    simp only [List.getElem?_map,Option.map_eq_some_iff]at e1
    obtain⟨d',e1,rfl⟩:=e1
    exact aa2 (h5 j d' v e1 e2)
   | none=>
    obtain⟨h1,h2,h3⟩:=uo o (List.getElem?_eq_some_iff.1 DF).1 hp
    rw [h3]at DF
    obtain⟨vs,T,g1,g2,g3,g4⟩:=r.obj o ds DF
    exact⟨vs,T,by rw [Ws o hp];exact g1.keep (Wt o h1 h2).1,g2,⟨g3.1,by rw [show M2.ty o=M.ty o from congrArg (fun x=>x.2.ty?) (Ws o hp)];exact g3.2⟩,fun j d v e1 e2=>(g4 j d v e1 e2).mono le⟩
  ·cases hp:posOf lB o with
   | some i=>
    have hi:=iG hp
    rw [mo i o hi, ← mG];exact r'.jr i (fo i o hi).2.2.1 off
   | none=>
    obtain⟨h1,h2,h3⟩:=uo o hF hp
    rw [IS o hp, ← mG,(Wt o h1 h2).2 off];exact r.jr o h1 off
  ·cases hp:posOf lB o with
   | some i=>
    have hi:=iG hp
    rw [mo i o hi]at heq
    cases mB:posOf lB o' with
    | some i'=>
     have ik:=iG mB
     rw [mo i' o' ik]at heq
     have:=r'.inj i i' (fo i o hi).2.2.1 (fo i' o' ik).2.2.1 heq
     subst this
     rw [hi]at ik;cases ik;rfl
    | none=>
     obtain⟨h1,h2,_⟩:=uo o' zJ mB
     rw [IS o' mB]at heq
     rcases Wu i o hi with ⟨h3,h4,h5⟩ | h3
     ·rw [h5]at heq
      have:=r.inj o o' h3 h1 heq
      subst this;exact(h2 h4).elim
     ·have:=r.pW h1;omega
   | none=>
    obtain⟨h1,h2,_⟩:=uo o hF hp
    rw [IS o hp]at heq
    cases mB:posOf lB o' with
    | some i'=>
     have ik:=iG mB
     rw [mo i' o' ik]at heq
     rcases Wu i' o' ik with ⟨h3,h4,h5⟩ | h3
     ·rw [h5]at heq
      have:=r.inj o o' h1 h3 heq
      subst this;exact(h2 h4).elim
     ·have:=r.pW h1;omega
    | none=>
     obtain⟨rL,_,_⟩:=uo o' zJ mB
     rw [IS o' mB]at heq
     exact r.inj o o' h1 rL heq
  ·rcases lv t ⟨n,hn⟩with ⟨i,hi,hl⟩ | ⟨hp,hl,oL⟩
   ·rw [mt i t hi, ← mG]
    exact r'.tok i n (by rw [← (ft i t hi).2.1];exact hn)
   ·obtain⟨_,_,h3⟩:=ut t (List.getElem?_eq_some_iff.1 hn).1 hp
    rw [h3]at hn
    rw [IT t hp]
    rcases r.tok t n hn with h4 | ⟨b,cap,size,vs,T,g1,g2,g3,g4,g5⟩
    ·exact .inl h4
    ·obtain⟨k1,k2⟩:=afb t b cap size hl oL g1
     exact .inr ⟨b,cap,size,vs,T,g1,by rw [k1];exact g2,g3,g4,fun off ho=>by rw [← mG,k2 off];exact g5.1 off ho,g5.2⟩
  ·rcases lv t hl with ⟨i,hi,mH⟩ | ⟨hp,mH,oL⟩
   ·rw [mt i t hi]at hb
    cases IU:posOf lB o with
    | some j=>
     have hj:=iG IU
     rw [mo j o hj]
     exact r'.eY i b c z j mH hb (fo j o hj).2.2.1
    | none=>
     obtain⟨h1,h2,_⟩:=uo o hF IU
     rw [IS o IU]
     rcases Wv i t b c z hi mH hb with ⟨h3,_,c',z',h4⟩ | h3
     ·exact r.eY t b c' z' o h3 h4 h1
     ·have:=r.pW h1;omega
   ·rw [IT t hp]at hb
    cases IU:posOf lB o with
    | some j=>
     have hj:=iG IU
     rw [mo j o hj]
     rcases Wu j o hj with ⟨h3,_,h5⟩ | h3
     ·rw [h5];exact r.eY t b c z o mH hb h3
     ·have:=r.sq mH hb;omega
    | none=>
     obtain⟨h1,_,_⟩:=uo o hF IU
     rw [IS o IU];exact r.eY t b c z o mH hb h1
  ·rcases lv t hl with ⟨i,hi,zL⟩ | ⟨hp,hF,oL⟩
   ·rw [mt i t hi]at hb
    rcases lv t' mH with ⟨i',ik,Tn⟩ | ⟨mB,zJ,Ww⟩
    ·rw [mt i' t' ik]at tQ
     have:=r'.fZ i i' b c z c' z' zL Tn hb tQ
     subst this
     rw [hi]at ik;cases ik;rfl
    ·rw [IT t' mB]at tQ
     rcases Wv i t b c z hi zL hb with ⟨h3,h4,c2,z2,h5⟩ | h3
     ·have:=r.fZ t t' b c2 z2 c' z' h3 zJ h5 tQ
      subst this;exact(Ww h4).elim
     ·have:=r.sq zJ tQ;omega
   ·rw [IT t hp]at hb
    rcases lv t' mH with ⟨i',ik,Tn⟩ | ⟨mB,zJ,Ww⟩
    ·rw [mt i' t' ik]at tQ
     rcases Wv i' t' b c' z' ik Tn tQ with ⟨h3,h4,c2,z2,h5⟩ | h3
     ·have:=r.fZ t t' b c z c2 z2 hF h3 hb h5
      subst this;exact(oL h4).elim
     ·have:=r.sq hF hb;omega
    ·rw [IT t' mB]at tQ
     exact r.fZ t t' b c z c' z' hF zJ hb tQ
end Go.Abs

/-! Walk -/

namespace Go.Abs
def Wk (d d':D):Prop:=∀ (M:Map) (s:St) (v:Value),RD M s d v→RD M s d' v
inductive jP:List D→List D→Prop where
 | nil:jP [] []
 | cons {d d':D} {l l':List D} (h:Wk d d') (t:jP l l'):jP (d::l) (d'::l')
inductive hO:List (List D)→List (List D)→Prop where
 | nil:hO [] []
 | cons {r r':List D} {l l':List (List D)} (h:jP r r') (t:hO l l'):hO (r::l) (r'::l')
theorem Wk.refl (d:D):Wk d d:=fun _ _ _ h=>h
theorem Wk.trans {a b c:D} (h:Wk a b) (k:Wk b c):Wk a c:=fun M s v r=>k M s v (h M s v r)
theorem Wk.junk (d:D):Wk d .junk:=fun _ _ v _=> .junk v
theorem jP.refl : ∀ l,jP l l
 | []=> .nil
 | d::l=> .cons (Wk.refl d) (jP.refl l)
theorem hO.refl : ∀ l,hO l l
 | []=> .nil
 | d::l=> .cons (jP.refl d) (hO.refl l)
theorem jP.len {l l':List D} (h:jP l l'):l.length=l'.length:=by
 induction h with
 | nil=>rfl
 | cons _ _ ih=>simp [ih]
theorem hO.len {l l':List (List D)} (h:hO l l'):l.length=l'.length:=by
 induction h with
 | nil=>rfl
 | cons _ _ ih=>simp [ih]
theorem jP.get {l l':List D} (h:jP l l') : ∀ {i:Nat} {d':D},l'[i]? = some d'→∃ d,l[i]? = some d∧Wk d d':=by
 induction h with
 | nil=>intro i d' e;simp at e
 | cons hd _ ih=>
  intro i d' e
  cases i with
  | zero=>simp at e;subst e;exact⟨_,rfl,hd⟩
  | succ i=>simp at e;simpa using ih e
theorem hO.get {l l':List (List D)} (h:hO l l') : ∀ {i:Nat} {d':List D},l'[i]? = some d'→∃ d,l[i]? = some d∧jP d d':=by
 induction h with
 | nil=>intro i d' e;simp at e
 | cons hd _ ih=>
  intro i d' e
  cases i with
  | zero=>simp at e;subst e;exact⟨_,rfl,hd⟩
  | succ i=>simp at e;simpa using ih e
theorem jP.append {a a' b b':List D} (h:jP a a') (k:jP b b'):jP (a++b) (a'++b'):=by
 induction h with
 | nil=>exact k
 | cons hd _ ih=>exact .cons hd ih
theorem hO.append {a a' b b':List (List D)} (h:hO a a') (k:hO b b'):hO (a++b) (a'++b'):=by
 induction h with
 | nil=>exact k
 | cons hd _ ih=>exact .cons hd ih
theorem Wk.agg {l l':List D} (h:jP l l'):Wk (.agg l) (.agg l'):=by
 intro M s v r
 cases r with
 | agg _ vs hl h1 hr=>
  refine .agg _ vs (by rw [← hl,h.len]) h1 fun i d' u e e2=> ?_
  obtain⟨d,e1,hw⟩:=h.get e
  exact hw M s u (hr i d u e1 e2)
theorem Wk.tuple {l l':List D} (h:jP l l'):Wk (.tuple l) (.tuple l'):=by
 intro M s v r
 cases r with
 | tuple _ vs hl hr=>
  refine .tuple _ vs (by rw [← hl,h.len]) fun i d' u e e2=> ?_
  obtain⟨d,e1,hw⟩:=h.get e
  exact hw M s u (hr i d u e1 e2)
theorem Wk.rows {g:Tag} {z:Nat} {l l':List (List D)} (h:hO l l'):Wk (.slice g z l) (.slice g z l'):=by
 intro M s v r
 cases r with
 | iZ _ _ cap hc ht=>cases h;exact .iZ _ _ _ hc ht
 | lV _ a cap=>cases h;exact .lV _ a cap
 | slice _ _ _ b k cap hl hs h1 h2 ht=>
  rw [h.len]
  refine .slice g z l' b k cap (by rw [← h.len];exact hl) (fun row hm=> ?_) (fun i row j d e e2=> ?_) (fun i row j d u e e2 eu=> ?_) (by rw [← h.len];exact ht)
  ·obtain⟨i,hi,he⟩:=List.mem_iff_getElem.1 hm
   obtain⟨r0,g1,g2⟩:=h.get (i:=i) (by rw [List.getElem?_eq_getElem hi,he])
   rw [← g2.len];exact hs r0 (List.mem_of_getElem? g1)
  ·obtain⟨r0,g1,g2⟩:=h.get e
   obtain⟨d0,g3,_⟩:=g2.get e2
   exact h1 i r0 j d0 g1 g3
  ·obtain⟨r0,g1,g2⟩:=h.get e
   obtain⟨d0,g3,g4⟩:=g2.get e2
   exact g4 M s u (h2 i r0 j d0 u g1 g3 eu)
theorem Wk.shared (g:Tag) (z:Nat) (l:List (List D)):Wk (.slice g z l) (.slice .shared z l):=by
 intro M s v r
 cases r with
 | iZ _ _ cap hc ht=>exact .iZ _ _ _ hc trivial
 | lV _ a cap=>exact .lV _ a cap
 | slice _ _ _ b k cap hl hs h1 h2 ht=>exact .slice _ _ _ b k cap hl hs h1 h2 trivial
theorem Wk.slice {g:Tag} {z:Nat} {l l':List (List D)} (h:hO l l'):Wk (.slice g z l) (.slice .shared z l'):=(Wk.shared g z l).trans (Wk.rows h)
theorem Wk.nil (g:Tag) (z z':Nat):Wk (.slice g z []) (.slice .shared z' []):=by
 intro M s v r
 cases r with
 | iZ _ _ cap hc ht=>exact .iZ _ _ _ hc trivial
 | lV _ a cap=>exact .lV _ a cap
 | slice _ _ _ b k cap hl hs h1 h2 ht=>exact .slice _ _ [] b k cap hl (by simp) (by simp) (by simp) trivial
theorem Wk.aiI (z z':Nat):Wk (.slice .full z []) (.slice .full z' []):=by
 intro M s v r
 cases r with
 | iZ _ _ cap hc ht=>exact .iZ _ _ _ hc ht
 | slice _ _ _ b k cap hl hs h1 h2 ht=>exact .slice _ _ [] b k cap hl (by simp) (by simp) (by simp) ht
theorem Rel.AS {M:Map} {s:St} {w:World} {aw:List (List D)} (r:Rel M s w) (h:hO s.aw aw):Rel M ⟨aw,s.aA⟩ w∧Le M s M ⟨aw,s.aA⟩:=by
 have le:Le M s M ⟨aw,s.aA⟩:=⟨fun _ _ _ h=>h,Nat.le_of_eq h.len,fun _ _=> .refl _,Nat.le_refl _,fun t n' _ e=>⟨n',e,Nat.le_refl _,fun _=>rfl⟩⟩
 have hl:=h.len
 refine⟨⟨r.comm,fun o ds e=> ?_,fun o ho=>r.jr o (by rw [hl];exact ho),fun o o' ho nr=>r.inj o o' (by rw [hl];exact ho) (by rw [hl];exact nr),r.tok,
  fun t b c z o hv e ho=>r.eY t b c z o hv e (by rw [hl];exact ho),r.fZ⟩,le⟩
 obtain⟨IV,g1,g2⟩:=h.get e
 obtain⟨vs,T,h1,h2,h3,h4⟩:=r.obj o IV g1
 refine⟨vs,T,h1,by rw [h2,g2.len],h3,fun i d v e1 e2=> ?_⟩
 obtain⟨d0,k1,k2⟩:=g2.get e1
 exact(k2 _ _ _ (h4 i d0 v k1 e2)).mono le
theorem Rel.blank {M:Map} {s:St} {w:World} (r:Rel M s w) :
 Rel (M.eW s.aA.length none) {s with aA:=s.aA++ [some 0]} w∧Le M s (M.eW s.aA.length none) {s with aA:=s.aA++ [some 0]}:=by
 have iy : ∀ t,St.live {s with aA:=s.aA++ [some 0]} t→s.live t∨t=s.aA.length:=by
  rintro t ⟨k,hk⟩
  rcases Nat.lt_or_ge t s.aA.length with h | h
  ·rw [List.getElem?_append_left h]at hk;exact .inl ⟨k,hk⟩
  ·have:=(List.getElem?_eq_some_iff.1 hk).1
   simp at this;exact .inr (by omega)
 have hF : ∀ t,s.live t→t<s.aA.length:=fun t ⟨k,hk⟩=>(List.getElem?_eq_some_iff.1 hk).1
 have hold : ∀ t,t<s.aA.length→(M.eW s.aA.length none).be t=M.be t:=fun t h=>by simp [Map.eW];omega
 have dI:(M.eW s.aA.length none).be s.aA.length=none:=by simp [Map.eW]
 have le:Le M s (M.eW s.aA.length none) {s with aA:=s.aA++ [some 0]}:=
  ⟨fun _ _ _ h=>h,Nat.le_refl _,fun _ _=> .refl _,by simp,fun t k h e=>by
   rw [List.getElem?_append_left h]at e
   exact⟨k,e,Nat.le_refl _,fun _=>hold t h⟩⟩
 refine⟨⟨r.comm,fun o ds e=> ?_,r.jr,r.inj,fun t k e=> ?_,fun t b' c z o hl e nr=> ?_,fun t t' b' c z c' z' h h' e e'=> ?_⟩,le⟩
 ·obtain⟨fD,T',h3,h4,h5,h6⟩:=r.obj o ds e
  exact⟨fD,T',h3,h4,h5,fun i d v e1 e2=>(h6 i d v e1 e2).mono le⟩
 ·rcases Nat.lt_or_ge t s.aA.length with h | h
  ·rw [List.getElem?_append_left h]at e
   rw [hold t h];exact r.tok t k e
  ·have:=(List.getElem?_eq_some_iff.1 e).1
   simp at this
   have:t=s.aA.length:=by omega
   subst this
   simp at e;subst e
   exact .inl ⟨dI,rfl⟩
 ·rcases iy t hl with h | h
  ·rw [hold t (hF t h)]at e;exact r.eY t b' c z o h e nr
  ·subst h;rw [dI]at e;cases e
 ·rcases iy t h with h | h <;> rcases iy t' h' with h' | h'
  ·rw [hold t (hF t h)]at e;rw [hold t' (hF t' h')]at e';exact r.fZ t t' b' c z c' z' h h' e e'
  ·subst h';rw [dI]at e';cases e'
  ·subst h;rw [dI]at e;cases e
  ·omega
theorem RD.own {M:Map} {s:St} {z z':Nat} {v:Value} (h:RD M s (.slice .full z []) v):RD (M.eW s.aA.length none) {s with aA:=s.aA++ [some 0]} (.slice (.tok s.aA.length) z' []) v:=by
 have key : ∀ base:Option (Nat×Nat),iE (M.eW s.aA.length none) {s with aA:=s.aA++ [some 0]} (.tok s.aA.length) z' 0 base 0:=by
  intro base
  refine⟨by simp,fun n e=> ?_⟩
  simp at e
  subst e
  exact⟨Nat.le_refl _,fun _=> .inl ⟨by simp [Map.eW],rfl,fun h=>by cases h⟩⟩
 cases h with
 | iZ _ _ cap hc ht=>subst hc;exact .iZ _ _ _ rfl (key none)
 | slice _ _ _ b k cap hl hs h1 h2 ht=>
  have:cap=0:=ht
  subst this
  exact .slice _ _ [] b k 0 (Nat.le_refl _) (by simp) (by simp) (by simp) (key _)
section
variable {P:Program} {B:fz} {nt:Nat} {Q:Exit→Tm→St→Prop} {tm:Tm} {s:St}
theorem AT {M0 M:Map} {s0 s:St} {w0 w:World} (e:Ext M0 s0 w0 M s w) (le:Le M s (M.eW s.aA.length none) {s with aA:=s.aA++ [some 0]}) :
 Ext M0 s0 w0 (M.eW s.aA.length none) {s with aA:=s.aA++ [some 0]} w:=by
 refine e.trans ⟨le,fun _ _ _ _=>rfl,fun o h1 h2=>h1.elim (fun h1=>absurd h2 (Nat.not_lt.2 h1)) (fun h1=>(h1 rfl).elim),fun t b c z hl eq=> ?_,fun _ _ h=>(h rfl).elim,Nat.le_refl _,rfl,rfl,rfl⟩
 obtain⟨k,hk⟩:=hl
 rcases Nat.lt_or_ge t s.aA.length with h | h
 ·refine .inl ⟨⟨k,by rw [List.getElem?_append_left h]at hk;exact hk⟩,c,z, ?_⟩
  have:(M.eW s.aA.length none).be t=M.be t:=by simp [Map.eW];omega
  rw [← this];exact eq
 ·have:=(List.getElem?_eq_some_iff.1 hk).1
  simp at this
  have:t=s.aA.length:=by omega
  subst this
  simp [Map.eW]at eq
theorem Sem.l6 {ac:AC} (t z':Nat) {z:Nat} (hw:tm.get t = .slice .full z []) (h:Sem P B nt ac Q (tm.set t (.slice (.tok s.aA.length) z' [])) {s with aA:=s.aA++ [some 0]}):Sem P B nt ac Q tm s:=by
 intro c hc act w ⟨M,e,r,ht,h1,h2⟩
 obtain⟨r',le⟩:=r.blank
 refine h c hc act w ⟨_,AT e le,r',fun k=> ?_,h1,h2⟩
 rw [Tm.BD]
 split
 ·rename_i hk;subst hk;have:=ht k;rw [hw]at this;exact this.own
 ·exact(ht k).mono le
end
def aB (P:Program) (f:Nat) (args:List D) (s:St) (d:D) (s':St):Prop:=ew P f args s fun x y=>x=d∧y=s'
def iP (n m:Nat) (res:List (Nat×Option (Bool×Nat))) (d:D) (s':St):Exit→Tm→St→Prop
 | .normal,tm,s | .ret,tm,s=>∃ l,ay res tm s=some l∧Wk ((az l).fg n m) d∧hO (s.cut n m).aw s'.aw∧(s.cut n m).aA=s'.aA
 | _,_,_=>False
theorem ew.AS {P:Program} {f:FuncId} {args DI:List D} {s:St} {Q:D→St→Prop} (ha:jP args DI) (h:ew P f DI s Q):ew P f args s Q:=
 fun M w gi r j9 hl hr=>h M w gi r j9 (by rw [hl,ha.len]) fun i d v e1 e2=>by
  obtain⟨d0,g1,g2⟩:=ha.get e1
  exact g2 _ _ _ (hr i d0 v g1 e2)
theorem ew.Wx {P:Program} {f:FuncId} {args:List D} {s:St} {Q Q':D→St→Prop} (h:ew P f args s Q) (hq : ∀ d s1,Q d s1→∃ d' s',Wk d d'∧hO s1.aw s'.aw∧s1.aA=s'.aA∧Q' d' s'):ew P f args s Q':=
 fun M w gi r j9 hl ha=>(h M w gi r j9 hl ha).mono fun _ _ ⟨M',d,v,s1,h1,h2,h3,h4,h5⟩=>by
  obtain⟨d',s',g1,g2,g3,g4⟩:=hq d s1 h2
  obtain⟨r',le⟩:=h4.AS g2
  have hs:(⟨s'.aw,s1.aA⟩:St)=s':=by rw [g3]
  rw [hs]at r' le
  refine⟨M',d',v,s',h1,g4,h3.trans ⟨le,fun _ _ _ _=>rfl,fun o h1 h2=> ?_,fun t b c z hl e=> .inl ⟨by obtain⟨n,hn⟩:=hl;exact⟨n,by rw [g3];exact hn⟩,c,z,e⟩,fun _ _ h=>(h rfl).elim,Nat.le_refl _,rfl,rfl,rfl⟩,r',(g1 _ _ _ h5).mono le⟩
  rw [← g2.len]at h2
  exact h1.elim (fun h1=>absurd h2 (Nat.not_lt.2 h1)) fun h1=>(h1 rfl).elim
theorem aB.intro {P:Program} {f:FuncId} {af:AF} {args:List D} {s:St} {d:D} {s':St} (h0 : ∃ fn,P.funcs[f]? = some fn∧cF P fn=some af) (hl:args.length≤af.ntmps)
 (h : ∀ B:fz,B.s=s→Sem P B af.ntmps af.body (iP s.aw.length s.aA.length af.results d s') (oh 0 args) s):aB P f args s d s':=by
 obtain⟨fn,hf,hc⟩:=h0
 refine ew.Wx (ew.intro (Q:=fun d1 s1=>Wk d1 d∧hO s1.aw s'.aw∧s1.aA=s'.aA) hf hc hl fun B hB=>(h B hB).mono fun e tm s1 hr=> ?_) fun d1 s1 ⟨h1,h2,h3⟩=>⟨d,s',h1,h2,h3,rfl,rfl⟩
 subst hB
 cases e with
 | normal=>obtain⟨l,h1,h2,h3,h4⟩:=hr;exact⟨l,h1,_,_,Nat.le_refl _,Nat.le_refl _,h2,h3,h4⟩
 | ret=>obtain⟨l,h1,h2,h3,h4⟩:=hr;exact⟨l,h1,_,_,Nat.le_refl _,Nat.le_refl _,h2,h3,h4⟩
 | exit id=>exact hr.elim
 | goto l=>exact hr.elim
 | panic ch=>exact hr.elim
 | outgrown=>exact hr.elim
theorem aB.use {P:Program} {f:FuncId} {args:List D} {s:St} {d:D} {s':St} {Q:D→St→Prop} (h:aB P f args s d s') (hq:Q d s'):ew P f args s Q:=
 ew.mono h fun x y ⟨h1,h2⟩=>by subst h1;subst h2;exact hq
mutual
theorem rX (os ts:List Nat) : ∀ d,D.ok 0 0 d=true→D.cm os ts d=d
 | .junk,_=>by simp [D.cm]
 | .int k n,_=>by simp [D.cm]
 | .bool b,_=>by simp [D.cm]
 | .str l,_=>by simp [D.cm]
 | .eR,_=>by simp [D.cm]
 | .val v,_=>by simp [D.cm]
 | .fm T o,h=>by simp [D.ok]at h
 | .fY o,h=>by simp [D.ok]at h
 | .er z o g len,h=>by simp [D.ok]at h
 | .fu o g off,h=>by simp [D.ok]at h
 | .fy z,_=>by simp [D.cm]
 | .gj f cs,h=>by
  simp only [D.ok]at h
  simp only [D.cm,eZ os ts cs h]
 | .ptr o f,h=>by simp [D.ok]at h
 | .dG r f,h=>by
  simp only [D.ok]at h
  simp only [D.cm,eZ os ts r h]
 | .slice g z rows,h=>by
  simp only [D.ok,Bool.and_eq_true]at h
  simp only [D.cm,iV os ts rows h.2]
  cases g with
  | tok t y=>simp [Tag.ok]at h
  | full=>rfl
  | shared=>rfl
 | .agg cs,h=>by
  simp only [D.ok]at h
  simp only [D.cm,eZ os ts cs h]
 | .tuple cs,h=>by
  simp only [D.ok]at h
  simp only [D.cm,eZ os ts cs h]
theorem eZ (os ts:List Nat) : ∀ l,D.bp 0 0 l=true→D.dY os ts l=l
 | [],_=>by simp [D.dY]
 | d::r,h=>by
  simp only [D.bp,Bool.and_eq_true]at h
  simp only [D.dY,rX os ts d h.1,eZ os ts r h.2]
theorem iV (os ts:List Nat) : ∀ l,D.gZ 0 0 l=true→D.oI os ts l=l
 | [],_=>by simp [D.oI]
 | d::r,h=>by
  simp only [D.gZ,Bool.and_eq_true]at h
  simp only [D.oI,eZ os ts d h.1,iV os ts r h.2]
end
mutual
theorem Fl {n m n' m':Nat} (hn:n≤n') (hm:m≤m') : ∀ d,D.ok n m d=true→D.ok n' m' d=true
 | .junk,_=>rfl
 | .int k n,_=>rfl
 | .bool b,_=>rfl
 | .str l,_=>rfl
 | .eR,_=>rfl
 | .val v,_=>rfl
 | .fm T o,h=>by simp [D.ok]at h ⊢;omega
 | .fY o,h=>by simp [D.ok]at h ⊢;omega
 | .er z o g len,h=>by simp [D.ok]at h ⊢;omega
 | .fu o g off,h=>by simp [D.ok]at h ⊢;omega
 | .fy z,_=>rfl
 | .gj f cs,h=>by
  simp only [D.ok]at h ⊢
  exact ib hn hm cs h
 | .ptr o f,h=>by simp only [D.ok,decide_eq_true_eq]at h ⊢;omega
 | .dG r f,h=>by
  simp only [D.ok]at h ⊢
  exact ib hn hm r h
 | .slice g z rows,h=>by
  simp only [D.ok,Bool.and_eq_true]at h ⊢
  refine⟨?_,l7 hn hm rows h.2⟩
  cases g with
  | tok t y=>simp only [Tag.ok,decide_eq_true_eq]at h ⊢;omega
  | full=>rfl
  | shared=>rfl
 | .agg cs,h=>by
  simp only [D.ok]at h ⊢
  exact ib hn hm cs h
 | .tuple cs,h=>by
  simp only [D.ok]at h ⊢
  exact ib hn hm cs h
theorem ib {n m n' m':Nat} (hn:n≤n') (hm:m≤m') : ∀ l,D.bp n m l=true→D.bp n' m' l=true
 | [],_=>rfl
 | d::r,h=>by
  simp only [D.bp,Bool.and_eq_true]at h ⊢
  exact⟨Fl hn hm d h.1,ib hn hm r h.2⟩
theorem l7 {n m n' m':Nat} (hn:n≤n') (hm:m≤m') : ∀ l,D.gZ n m l=true→D.gZ n' m' l=true
 | [],_=>rfl
 | d::r,h=>by
  simp only [D.gZ,Bool.and_eq_true]at h ⊢
  exact⟨ib hn hm d h.1,l7 hn hm r h.2⟩
end
def S0:St:=⟨[],[]⟩
section
variable {P:Program} {f:Nat}
theorem aB.pure {args:List D} {d:D} (h:aB P f args S0 d S0) (ha:D.bp 0 0 args=true) (hd:D.ok 0 0 d=true) (s:St):aB P f args s d s:=by
 refine ew.frame [] [] h List.nodup_nil List.nodup_nil (by simp) (by simp) rfl (by simp) rfl (by simp) (by rw [eZ _ _ _ ha]) ha ?_
 rintro _ _ ⟨rfl,rfl⟩
 refine⟨rX _ _ _ hd, ?_⟩
 simp [St.back,jO,S0]
theorem aB.kl {args row ja:List D} {d:D} (h:aB P f (.ptr 0 0::args) ⟨[row],[]⟩ d ⟨[ja],[]⟩) (ha:D.bp 0 0 args=true) (hr:D.bp 0 0 row=true) (Iv:D.bp 0 0 ja=true) (hd:D.ok 0 0 d=true)
 {s:St} {o:Nat} (ho:s.aw[o]? = some row):aB P f (.ptr o 0::args) s d ⟨s.aw.set o ja,s.aA⟩:=by
 refine ew.frame [o] [] h (by simp) List.nodup_nil (by simpa using (List.getElem?_eq_some_iff.1 ho).1) (by simp) rfl (fun i o' ds e1 e2=> ?_) rfl (by simp) (by simp [D.dY,D.cm,eZ _ _ _ ha])
  (by simp [D.bp,D.ok,ib (Nat.zero_le 1) (Nat.le_refl 0) _ ha]) ?_
 ·cases i with
  | zero=>simp at e1 e2;subst e1;subst e2;exact⟨by rw [eZ _ _ _ hr];exact ho,ib (Nat.zero_le 1) (Nat.le_refl 0) _ hr⟩
  | succ i=>simp at e1
 ·rintro _ _ ⟨rfl,rfl⟩
  refine⟨rX _ _ _ hd, ?_⟩
  simp [St.back,jO,eZ _ _ _ Iv]
end
end Go.Abs

/-! Par -/

namespace Go.Abs
theorem X.b9 {x:X} {tm bB:Tm} (h : ∀ t∈x.reads,tm.get t=bB.get t):x.ev tm=x.ev bB:=by
 cases x with
 | s t=>exact h t (by simp [X.reads])
 | k d=>rfl
theorem qT {t:Nat} {x:X} : ∀ {l:List X},x∈l→t∈x.reads→t∈nN l
 | [],h,_=>by cases h
 | y::r,h,ht=>by
  simp only [nN,List.mem_append]
  rcases List.mem_cons.1 h with rfl | h
  ·exact .inl ht
  ·exact .inr (qT h ht)
theorem vS {x:Option X} {tm bB:Tm} (h : ∀ t∈Am x,tm.get t=bB.get t):x.map (·.ev tm)=x.map (·.ev bB):=by
 cases x with
 | none=>rfl
 | some y=>simp only [Option.map_some];rw [X.b9 h]
theorem Cm {o:AO} {tm bB:Tm} {s:St} (h : ∀ t∈o.reads,tm.get t=bB.get t):aZ o tm s=aZ o bB s:=by
 cases o with
 | mv x=>
  have hx:x.ev tm=x.ev bB:=X.b9 fun t ht=>h t (by simp [AO.reads,ht])
  simp only [aZ,hx]
 | pick c a b=>
  have hc:c.ev tm=c.ev bB:=X.b9 fun t ht=>h t (by simp [AO.reads,ht])
  have ha:a.ev tm=a.ev bB:=X.b9 fun t ht=>h t (by simp [AO.reads,ht])
  have hb:b.ev tm=b.ev bB:=X.b9 fun t ht=>h t (by simp [AO.reads,ht])
  simp only [aZ,hc,ha,hb]
 | alloc z=>
  rfl
 | sO z T=>rfl
 | Ak x T=>
  have hx:x.ev tm=x.ev bB:=X.b9 fun t ht=>h t (by simp [AO.reads,ht])
  simp only [aZ,hx]
 | Al x y=>
  have hx:x.ev tm=x.ev bB:=X.b9 fun t ht=>h t (by simp [AO.reads,ht])
  have hy:y.ev tm=y.ev bB:=X.b9 fun t ht=>h t (by simp [AO.reads,ht])
  simp only [aZ,hx,hy]
 | apps x y=>
  have hx:x.ev tm=x.ev bB:=X.b9 fun t ht=>h t (by simp [AO.reads,ht])
  have hy:y.ev tm=y.ev bB:=X.b9 fun t ht=>h t (by simp [AO.reads,ht])
  simp only [aZ,hx,hy]
 | box x=>
  have hx:x.ev tm=x.ev bB:=X.b9 fun t ht=>h t (by simp [AO.reads,ht])
  simp only [aZ,hx]
 | Aj x=>
  have hx:x.ev tm=x.ev bB:=X.b9 fun t ht=>h t (by simp [AO.reads,ht])
  simp only [aZ,hx]
 | load x g n=>
  have hx:x.ev tm=x.ev bB:=X.b9 fun t ht=>h t (by simp [AO.reads,ht])
  simp only [aZ,hx]
 | store p x n=>
  have hp:p.ev tm=p.ev bB:=X.b9 fun t ht=>h t (by simp [AO.reads,ht])
  have hx:x.ev tm=x.ev bB:=X.b9 fun t ht=>h t (by simp [AO.reads,ht])
  simp only [aZ,hp,hx]
 | dB x=>
  have hx:x.ev tm=x.ev bB:=X.b9 fun t ht=>h t (by simp [AO.reads,ht])
  simp only [aZ,hx]
 | bin op x y=>
  have hx:x.ev tm=x.ev bB:=X.b9 fun t ht=>h t (by simp [AO.reads,ht])
  have hy:y.ev tm=y.ev bB:=X.b9 fun t ht=>h t (by simp [AO.reads,ht])
  simp only [aZ,hx,hy]
 | Cc n x y=>
  have hx:x.ev tm=x.ev bB:=X.b9 fun t ht=>h t (by simp [AO.reads,ht])
  have hy:y.ev tm=y.ev bB:=X.b9 fun t ht=>h t (by simp [AO.reads,ht])
  simp only [aZ,hx,hy]
 | eqs n ks x y=>
  have hx:x.ev tm=x.ev bB:=X.b9 fun t ht=>h t (by simp [AO.reads,ht])
  have hy:y.ev tm=y.ev bB:=X.b9 fun t ht=>h t (by simp [AO.reads,ht])
  simp only [aZ,hx,hy]
 | F9 n x y=>
  have hx:x.ev tm=x.ev bB:=X.b9 fun t ht=>h t (by simp [AO.reads,ht])
  have hy:y.ev tm=y.ev bB:=X.b9 fun t ht=>h t (by simp [AO.reads,ht])
  simp only [aZ,hx,hy]
 | un op x=>
  have hx:x.ev tm=x.ev bB:=X.b9 fun t ht=>h t (by simp [AO.reads,ht])
  simp only [aZ,hx]
 | conv k x=>
  have hx:x.ev tm=x.ev bB:=X.b9 fun t ht=>h t (by simp [AO.reads,ht])
  simp only [aZ,hx]
 | Dl x=>
  have hx:x.ev tm=x.ev bB:=X.b9 fun t ht=>h t (by simp [AO.reads,ht])
  simp only [aZ,hx]
 | xy x=>
  have hx:x.ev tm=x.ev bB:=X.b9 fun t ht=>h t (by simp [AO.reads,ht])
  simp only [aZ,hx]
 | av x n=>
  have hx:x.ev tm=x.ev bB:=X.b9 fun t ht=>h t (by simp [AO.reads,ht])
  simp only [aZ,hx]
 | sN x n g m=>
  have hx:x.ev tm=x.ev bB:=X.b9 fun t ht=>h t (by simp [AO.reads,ht])
  simp only [aZ,hx]
 | b6 x i n=>
  have hx:x.ev tm=x.ev bB:=X.b9 fun t ht=>h t (by simp [AO.reads,ht])
  have hi:i.ev tm=i.ev bB:=X.b9 fun t ht=>h t (by simp [AO.reads,ht])
  simp only [aZ,hx,hi]
 | oC x i=>
  have hx:x.ev tm=x.ev bB:=X.b9 fun t ht=>h t (by simp [AO.reads,ht])
  have hi:i.ev tm=i.ev bB:=X.b9 fun t ht=>h t (by simp [AO.reads,ht])
  simp only [aZ,hx,hi]
 | ext x i=>
  have hx:x.ev tm=x.ev bB:=X.b9 fun t ht=>h t (by simp [AO.reads,ht])
  simp only [aZ,hx]
 | len x=>
  have hx:x.ev tm=x.ev bB:=X.b9 fun t ht=>h t (by simp [AO.reads,ht])
  simp only [aZ,hx]
 | lW x=>
  have hx:x.ev tm=x.ev bB:=X.b9 fun t ht=>h t (by simp [AO.reads,ht])
  simp only [aZ,hx]
 | app a b x y=>
  have hx:x.ev tm=x.ev bB:=X.b9 fun t ht=>h t (by simp [AO.reads,ht])
  have hy:y.ev tm=y.ev bB:=X.b9 fun t ht=>h t (by simp [AO.reads,ht])
  simp only [aZ,hx,hy]
 | mm b x y=>
  have hx:x.ev tm=x.ev bB:=X.b9 fun t ht=>h t (by simp [AO.reads,ht])
  have hy:y.ev tm=y.ev bB:=X.b9 fun t ht=>h t (by simp [AO.reads,ht])
  simp only [aZ,hx,hy]
 | build z ps=>
  have hp:(ps.map fun p=>(p.1,p.2.1,p.2.2.ev tm))=ps.map fun p=>(p.1,p.2.1,p.2.2.ev bB):=List.map_congr_left fun p hp=>by
   have:p.2.2.ev tm=p.2.2.ev bB:=X.b9 fun t ht=>h t (by simp only [AO.reads];exact qT (List.mem_map_of_mem hp) ht)
   rw [this]
  simp only [aZ,hp]
 | cQ z m n ps=>
  have hp:(ps.map fun p=>(p.1,p.2.ev tm))=ps.map fun p=>(p.1,p.2.ev bB):=List.map_congr_left fun p hp=>by
   have:p.2.ev tm=p.2.ev bB:=X.b9 fun t ht=>h t (by simp only [AO.reads];exact qT (List.mem_map_of_mem hp) ht)
   rw [this]
  simp only [aZ,hp]
 | uK z m n ps=>
  have hp:(ps.map fun p=>(p.1,p.2.ev tm))=ps.map fun p=>(p.1,p.2.ev bB):=List.map_congr_left fun p hp=>by
   have:p.2.ev tm=p.2.ev bB:=X.b9 fun t ht=>h t (by simp only [AO.reads];exact qT (List.mem_map_of_mem hp) ht)
   rw [this]
  simp only [aZ,hp]
 | Ih n x lo hi=>
  have hx:x.ev tm=x.ev bB:=X.b9 fun t ht=>h t (by simp [AO.reads,ht])
  have hl:lo.map (·.ev tm)=lo.map (·.ev bB):=vS fun t ht=>h t (by simp [AO.reads,ht])
  have hh:hi.map (·.ev tm)=hi.map (·.ev bB):=vS fun t ht=>h t (by simp [AO.reads,ht])
  simp only [aZ,hx,hl,hh]
 | yv x lo hi=>
  have hx:x.ev tm=x.ev bB:=X.b9 fun t ht=>h t (by simp [AO.reads,ht])
  have hl:lo.map (·.ev tm)=lo.map (·.ev bB):=vS fun t ht=>h t (by simp [AO.reads,ht])
  have hh:hi.map (·.ev tm)=hi.map (·.ev bB):=vS fun t ht=>h t (by simp [AO.reads,ht])
  simp only [aZ,hx,hl,hh]
 | uf f xs=>
  have hp:(xs.map fun x=>x.ev tm)=xs.map fun x=>x.ev bB:=List.map_congr_left fun x hx=>X.b9 fun t ht=>h t (by simp only [AO.reads];exact qT hx ht)
  simp only [aZ,hp]
 | ug=>rfl
 | yw m k v=>
  have hm:m.ev tm=m.ev bB:=X.b9 fun t ht=>h t (by simp [AO.reads,ht])
  have hk:k.ev tm=k.ev bB:=X.b9 fun t ht=>h t (by simp [AO.reads,ht])
  have hv:v.ev tm=v.ev bB:=X.b9 fun t ht=>h t (by simp [AO.reads,ht])
  simp only [aZ,hm,hk,hv]
 | E9 a b z l c=>
  have hl:l.ev tm=l.ev bB:=X.b9 fun t ht=>h t (by simp [AO.reads,ht])
  have hk:c.ev tm=c.ev bB:=X.b9 fun t ht=>h t (by simp [AO.reads,ht])
  simp only [aZ,hl,hk]
 | vI m k z=>
  have hm:m.ev tm=m.ev bB:=X.b9 fun t ht=>h t (by simp [AO.reads,ht])
  have hk:k.ev tm=k.ev bB:=X.b9 fun t ht=>h t (by simp [AO.reads,ht])
  simp only [aZ,hm,hk]
theorem KK {x d:D} {agg:Bool} {size:Nat} {s s':St} (h:yy x agg size s=some (d,s')):s'=s:=by
 unfold yy at h
 (repeat' (split at h)) <;> first | (cases h;rfl) | cases h
theorem KM {o:AO} (ho:gP o.kind=false) {tm:Tm} {s s':St} {d:D} (h:aZ o tm s=some (d,s')):s'=s:=by
 cases o <;> simp only [AO.kind,gP]at ho <;> first | cases ho | skip
 all_goals
  simp only [aZ]at h
  first
   | (cases h;rfl)
   | (repeat' (split at h)) <;> first | exact KK h | (cases h;rfl) | cases h
theorem M8 {o:AO} (ho:o.kind = .pure) {tm:Tm} {s s':St} : (aZ o tm s).map (·.1)=(aZ o tm s').map (·.1):=by
 cases o <;> simp only [AO.kind]at ho <;> first | cases ho | skip
 all_goals
  simp only [aZ]
  first
   | rfl
   | (repeat' split) <;> rfl
def jx (ai:AI) (tm:Tm) (s:St):Option D:=
 match ai with
 | .op _ none o=>(aZ o tm s).map (·.1)
 | .op _ (some (t,want)) o=>
  match tm.get t with
  | .bool b=>if b=want then(aZ o tm s).map (·.1)else some (.tuple [])
  | .tuple _=>some (.tuple [])
  | _=>none
 | _=>none
def sy (P:Program) (ai:AI) (tm:Tm) (s:St) (d:D) (s':St):Prop:=
 match ai with
 | .op _ g o=>guarded g tm (aZ o tm s=some (d,s')) (d = .tuple []∧s'=s)
 | .call _ g f xs=>guarded g tm (ew P f (xs.map (·.ev tm)) s fun x y=>x=d∧y=s') (d = .tuple []∧s'=s)
 | .nil .. =>False
 | .jb .. =>False
def kD (P:Program) (is:List AI) (K:Tm→St→Prop):List (Nat×Nat)→List St→Tm→St→Prop
 | [],_,tm,s=>K tm s
 | (q,b)::r,bK,tm,s=>
  match is[q]? with
  | none=>False
  | some ai=>
   match gP ai.kind with
   | true=>∃ d s',sy P ai tm s d s'∧kD P is K r (s::bK) (tm.put ai.dst d) s'
   | false=>∃ d,jx ai tm s=some d∧(ai.kind = .load→∀ s'∈bK.take b,jx ai tm s'=some d)∧kD P is K r bK (tm.put ai.dst d) s
def Tm.eqv (a b:Tm):Prop:=∀ t,a.get t=b.get t
theorem Tm.k7 (tm:Tm) (dst:Option Nat) (d:D) (t:Nat):(tm.put dst d).get t=if dst=some t then d else tm.get t:=by
 cases dst with
 | none=>simp [Tm.put]
 | some u=>
  simp only [Tm.put,Tm.BD,Option.some.injEq]
  by_cases h:t=u
  ·subst h;simp
  ·rw [if_neg h,if_neg (fun e=>h e.symm)]
theorem Tm.eqv.put {a b:Tm} (h:a.eqv b) (dst:Option Nat) (d:D):(a.put dst d).eqv (b.put dst d):=fun t=>by
 rw [Tm.k7,Tm.k7,h t]
theorem Tm.IW (tm:Tm) {x y:Option Nat} (h : ∀ t,x=some t→y≠some t) (d e:D):((tm.put x d).put y e).eqv ((tm.put y e).put x d):=fun t=>by
 simp only [Tm.k7]
 by_cases h1:x=some t
 ·simp only [h1,h t h1,if_true,if_false]
 ·simp only [h1,if_false]
theorem zM {g:Option (Nat×Bool)} {tm bB:Tm} {A A' C:Prop} (h : ∀ t∈uL g,tm.get t=bB.get t) (ha:A→A') (hh:guarded g tm A C):guarded g bB A' C:=by
 cases g with
 | none=>exact ha hh
 | some p=>
  obtain⟨t,want⟩:=p
  unfold guarded at *
  simp only at *
  rw [← h t (by simp [uL])]
  split
  ·rename_i b hb
   rw [hb]at hh
   exact⟨fun e=>ha (hh.1 e),hh.2⟩
  ·rename_i hb
   rw [hb]at hh
   exact hh
  ·rename_i x h1 h2
   split at hh
   ·exact h1 _ ‹_›
   ·exact h2 _ ‹_›
   ·exact hh
theorem Gk {tm bB:Tm} : ∀ {l:List X},(∀ t∈nN l,tm.get t=bB.get t)→l.map (·.ev tm)=l.map (·.ev bB)
 | [],_=>rfl
 | x::r,h=>by
  simp only [List.map_cons]
  rw [X.b9 fun t ht=>h t (by simp [nN,ht]),Gk (l:=r) fun t ht=>h t (by simp [nN,ht])]
theorem wO {P:Program} {ai:AI} {tm bB:Tm} {s s':St} {d:D} (h : ∀ t∈ai.reads,tm.get t=bB.get t) (hh:sy P ai tm s d s'):sy P ai bB s d s':=by
 cases ai with
 | op dst g o=>
  simp only [AI.reads,List.mem_append]at h
  exact zM (fun t ht=>h t (.inl ht)) (fun e=>by rw [← Cm fun t ht=>h t (.inr ht)];exact e) hh
 | call dst g f xs=>
  simp only [AI.reads,List.mem_append]at h
  exact zM (fun t ht=>h t (.inl ht)) (fun e=>by rw [← Gk fun t ht=>h t (.inr ht)];exact e) hh
 | nil dst g n x=>exact hh
 | jb dst g t xs=>exact hh
theorem qA {ai:AI} {tm bB:Tm} {s:St} (h : ∀ t∈ai.reads,tm.get t=bB.get t):jx ai tm s=jx ai bB s:=by
 cases ai with
 | op dst g o=>
  simp only [AI.reads,List.mem_append]at h
  have he:=Cm (s:=s) fun t ht=>h t (.inr ht)
  cases g with
  | none=>simp only [jx,he]
  | some p=>
   obtain⟨t,want⟩:=p
   simp only [jx,he,h t (.inl (by simp [uL]))]
 | call dst g f xs=>rfl
 | nil dst g n x=>rfl
 | jb dst g t xs=>rfl
theorem LG {dst:Option Nat} {g:Option (Nat×Bool)} {o:AO} (h:gP (AI.op dst g o).kind=false):(AI.op dst g o).kind=o.kind:=by
 unfold AI.kind at *
 split at h
 ·cases h
 ·rename_i heq;cases heq;rfl
 ·cases h
theorem Tp {ai:AI} (hk:ai.kind = .pure) {tm:Tm} {s s':St} : jx ai tm s=jx ai tm s':=by
 cases ai with
 | op dst g o=>
  have ho:o.kind = .pure:=by rw [← hk];exact(LG (by rw [hk];rfl)).symm
  have he:=M8 ho (tm:=tm) (s:=s) (s':=s')
  cases g with
  | none=>simp only [jx,he]
  | some p=>simp only [jx,he]
 | call dst g f xs=>rfl
 | nil dst g n x=>rfl
 | jb dst g t xs=>rfl
theorem apart_spec {a q:AI} (h:a.apart q=true):(∀ t,a.dst=some t→t∉q.reads)∧(∀ t,q.dst=some t→t∉a.reads)∧(∀ t,a.dst=some t→q.dst≠some t):=by
 unfold AI.apart at h
 simp only [Bool.and_eq_true]at h
 obtain⟨⟨h1,h2⟩,h3⟩:=h
 refine⟨fun t e=> ?_,fun t e=> ?_,fun t e e'=> ?_⟩
 ·rw [e]at h1;simpa [Dn]using h1
 ·rw [e]at h2;simpa [Dn]using h2
 ·rw [e,e']at h3;simp at h3
theorem sA {tm:Tm} {dst:Option Nat} {d:D} {l:List Nat} (h : ∀ t,dst=some t→t∉l) : ∀ t∈l,tm.get t=(tm.put dst d).get t:=fun t ht=>by
 rw [Tm.k7,if_neg fun e=>h t e ht]
section
variable {P:Program} {is:List AI} {K:Tm→St→Prop}
theorem sB (hK : ∀ tm bB s,Tm.eqv tm bB→K tm s→K bB s) : ∀ (R:List (Nat×Nat)) (bK:List St) (tm bB:Tm) (s:St),tm.eqv bB→kD P is K R bK tm s→kD P is K R bK bB s
 | [],_,tm,bB,s,e,h=>hK tm bB s e h
 | (q,b)::R,bK,tm,bB,s,e,h=>by
  unfold kD at *
  split at h
  ·exact h.elim
  ·rename_i ai vR
   split at h
   ·rename_i hc
    obtain⟨d,s',h1,h2⟩:=h
    exact⟨d,s',wO (fun t _=>e t) h1,sB hK R _ _ _ _ (e.put _ d) h2⟩
   ·rename_i hc
    obtain⟨d,h1,h2,h3⟩:=h
    refine⟨d, ?_,fun hl s' la=> ?_,sB hK R _ _ _ _ (e.put _ d) h3⟩
    ·rw [← qA fun t _=>e t];exact h1
    ·rw [← qA fun t _=>e t];exact h2 hl s' la
theorem IX (i:Nat) (l:List Nat):jm is (i::l)=(if gP (jc is i)then 1 else 0)+jm is l:=by
 unfold jm
 rw [List.filter_cons]
 split <;> simp <;> omega
theorem wP (hK : ∀ tm bB s,Tm.eqv tm bB→K tm s→K bB s) {q b:Nat} {ai:AI} (hq:is[q]? = some ai) (hm:gP ai.kind=false) (Y:List (Nat×Nat)) :
 ∀ (X:List (Nat×Nat)) (bK:List St) (tm:Tm) (s:St),(∀ a∈X,kW is a.1 q=true)→(ai.kind = .load→jm is (X.map (·.1))≤b)→
  kD P is K (X++(q,b)::Y) bK tm s→
  ∃ d,jx ai tm s=some d∧(ai.kind = .load→∀ s'∈bK.take (b - jm is (X.map (·.1))),jx ai tm s'=some d)∧kD P is K (X++Y) bK (tm.put ai.dst d) s
 | [],bK,tm,s,_,_,h=>by
  simp only [List.nil_append,kD,hq,hm]at h
  obtain⟨d,h1,h2,h3⟩:=h
  exact⟨d,h1,fun hl s' la=>h2 hl s' (by simpa [jm]using la),h3⟩
 | (a,c)::X,bK,tm,s,fV,hb,h=>by
  have M9:=fV (a,c) (by simp)
  unfold kW at M9
  split at M9
  ·rename_i ia iq hia tU
   rw [hq]at tU
   cases tU
   obtain⟨p1,p2,p3⟩:=apart_spec M9
   have AH:jc is a=ia.kind:=by simp [jc,hia]
   have HU : ∀ x∈X,kW is x.1 q=true:=fun x hx=>fV x (List.mem_cons_of_mem _ hx)
   rw [List.map_cons,IX,AH]at hb ⊢
   simp only [List.cons_append,kD,hia]at h ⊢
   cases hc:gP ia.kind
   ·simp only [hc,Bool.false_eq_true,if_false,Nat.zero_add]at h hb ⊢
    obtain⟨d,h1,h2,h3⟩:=h
    obtain⟨e,g1,g2,g3⟩:=wP hK hq hm Y X bK _ s HU hb h3
    have cg : ∀ s,jx ai tm s=jx ai (tm.put ia.dst d) s:=fun s=>qA (sA p1)
    have cg' : ∀ s,jx ia tm s=jx ia (tm.put ai.dst e) s:=fun s=>qA (sA p2)
    refine⟨e,by rw [cg];exact g1,fun hl s' la=>by rw [cg];exact g2 hl s' la,d,by rw [← cg'];exact h1,fun hl s' la=>by rw [← cg'];exact h2 hl s' la, ?_⟩
    exact sB hK _ _ _ _ _ (Tm.IW tm p3 d e) g3
   ·simp only [hc,if_true]at h hb ⊢
    obtain⟨d,s1,h1,h3⟩:=h
    obtain⟨e,g1,g2,g3⟩:=wP hK hq hm Y X (s::bK) _ s1 HU (fun hl=>by have:=hb hl;omega) h3
    have cg : ∀ s,jx ai tm s=jx ai (tm.put ia.dst d) s:=fun s=>qA (sA p1)
    have pZ:jx ai tm s=some e:=by
     cases hk:ai.kind with
     | pure=>rw [cg,Tp hk (s':=s1)];exact g1
     | load=>
      have:=hb hk
      rw [cg]
      refine g2 hk s ?_
      rw [show b - jm is (X.map (·.1))=(b - (1+jm is (X.map (·.1))))+1 by omega,List.take_succ_cons]
      exact List.mem_cons_self
     | alloc=>rw [hk]at hm;cases hm
     | core=>rw [hk]at hm;cases hm
    refine⟨e,pZ,fun hl s' la=> ?_,d,s1,wO (sA p2) h1,sB hK _ _ _ _ _ (Tm.IW tm p3 d e) g3⟩
    have:=hb hl
    rw [cg]
    refine g2 hl s' ?_
    rw [show b - jm is (X.map (·.1))=(b - (1+jm is (X.map (·.1))))+1 by omega,List.take_succ_cons]
    exact List.mem_cons_of_mem _ la
  ·cases M9
end
end Go.Abs

/-! Par1 -/

namespace Go.Abs
section
variable {P:Program}
theorem Qk {o:Oper} {z:List D} (h:Dq P o=some (.alloc z)) : ∃ t,o.op = .alloc t∧zeroOf P t=some z:=by
 obtain⟨dst,op,type,pos,after,guard⟩:=o
 unfold Dq at h
 simp only at h
 split at h
 case h_4 t=>
  split at h
  ·obtain⟨z',h1,h2⟩:=map_some h;cases h2
  ·obtain⟨z',h1,h2⟩:=map_some h;cases h2;exact⟨t,rfl,h1⟩
 all_goals
  first
   | (rw [Option.map_eq_some_iff]at h;obtain⟨_,_,h⟩:=h;cases h)
   | skip
 all_goals
  (repeat' (split at h)) <;> first | (cases h;done) | (rw [Option.map_eq_some_iff]at h;obtain⟨_,_,h⟩:=h;cases h)
theorem AU {nt:Nat} {ops:Array Oper} {o:Oper} {ai:AI} (h:cI P nt ops o=some ai) :
 ∃ g,uM ops o.guard=some g∧(∀ t,o.dst=some t→t<nt)∧sn P ops o g=some ai:=by
 have h2:=xL h
 unfold cI at h
 split at h
 ·cases h
 ·rename_i g hg
  split at h
  ·exact⟨g,hg,h2,h⟩
  ·cases h
theorem sY {ops:Array Oper} {o:Oper} {g:Option (Nat×Bool)} {ai:AI} (h:sn P ops o g=some ai):ai.dst=o.dst:=by
 unfold sn at h
 split at h
 ·split at h
  ·obtain⟨xs,_,rfl⟩:=map_some h;rfl
  ·cases h
 ·obtain⟨xs,_,rfl⟩:=map_some h;rfl
 ·split at h
  ·cases h;rfl
  ·split at h
   ·cases h;rfl
   ·cases h;rfl
   ·cases h
theorem sZ {nt:Nat} {ops:Array Oper} {o:Oper} {ai:AI} (h:cI P nt ops o=some ai):ai.dst=o.dst:=by
 obtain⟨g,_,_,h⟩:=AU h
 exact sY h
theorem wQ {nt:Nat} {ops:Array Oper} {i:Nat} {o:Oper} {ai:AI} (hi:ops[i]? = some o) (hc:cI P nt ops o=some ai)
 {M:Map} {s:St} {w:World} {tm:Tm} {act:Act} (r:Rel M s w) (j9:Laid M s w) (ht:lL M s tm act.tmps) {K':Tm→St→Prop} (h:iM P [ai] K' tm s)
 {K:Act→World→Prop} {Q:Exit→Act→World→Prop}
 (hK : ∀ d v s1 w1 M1,K' (tm.put ai.dst d) s1→Ext M s w M1 s1 w1→Rel M1 s1 w1→RD M1 s1 d v→K (act.put o.dst v) w1):wpOp P ops Q i K act w:=by
 obtain⟨g,hg,_,hb⟩:=AU hc
 rw [sY hb]at hK
 simp only [wpOp,hi]
 have skip:K' (tm.put o.dst (.tuple [])) s→K (act.put o.dst Go.undef) w:=fun hk=>hK _ _ _ _ _ hk (Ext.refl M s w) r .undef
 unfold sn at hb
 split at hb
 ·rename_i f args nR mn
  split at hb
  ·rename_i yG
   obtain⟨xs,og,rfl⟩:=map_some hb
   simp only [iM]at h
   rcases jL hg ht h with ⟨hw,hA⟩ | ⟨hw,hB⟩
   ·simp only [hw,if_true]
    left
    have hex:(execOp act.eval o).run P w = .ok (.enter f (args.map act.eval)) w:=by
     obtain⟨dst,op,type,pos,after,guard⟩:=o
     simp only at mn
     subst mn
     exact wM act.eval dst f args nR type pos after guard rfl yG w
    obtain⟨c1,c2⟩:=vQ ht og
    unfold Oper.wp
    rw [hex,Oper.upon_enter]
    refine(hA M w (args.map act.eval) r j9 (by simp [c1]) (fun i d v e1 e2=>c2 i d v e1 (by simpa using e2))).mono ?_
    rintro en w' ⟨M',d,v,s',rfl,hk,e',r',hv⟩
    exact hK _ _ _ _ _ hk e' r' hv
   ·simp only [hw]
    exact skip hB
  ·cases hb
 ·rename_i t args nR mn
  obtain⟨xs,og,rfl⟩:=map_some hb
  simp only [iM]at h
  rcases jL hg ht h with ⟨hw,hA⟩ | ⟨hw,hB⟩
  ·simp only [hw,if_true]
   left
   split at hA
   ·rename_i f ny qw
    obtain⟨yG,hA⟩:=hA
    have Qb:=ht t
    rw [qw]at Qb
    obtain⟨vs,oG,hlen,DG⟩:=Qb.Lu
    have hex:(execOp act.eval o).run P w = .ok (.enter f (args.map act.eval++vs)) w:=by
     obtain⟨dst,op,type,pos,after,guard⟩:=o
     simp only at mn
     subst mn
     exact AN act.eval dst (.tmp t) f vs args nR type pos after guard oG yG w
    have cc:=Gh og ht hlen DG
    unfold Oper.wp
    rw [hex,Oper.upon_enter]
    refine(hA M w (args.map act.eval++vs) r j9 cc.1 cc.2).mono ?_
    rintro en w' ⟨M',d,v,s',rfl,hk,e',r',hv⟩
    exact hK _ _ _ _ _ hk e' r' hv
   ·exact hA.elim
  ·simp only [hw]
   exact skip hB
 ·split at hb
  ·rename_i neg x IL
   cases hb
   simp only [iM]at h
   rcases jL hg ht h with ⟨hw,hA⟩ | ⟨hw,hB⟩
   ·simp only [hw,if_true]
    left
    split at hA
    ·rename_i g' z rows hx
     obtain⟨b,hb,hex⟩:=zI (w:=w) IL ht hx
     unfold Oper.wp
     rw [hex,Oper.upon_value]
     exact hK _ _ _ _ _ (hA b hb) (Ext.refl M s w) r (.bool _)
    ·exact hA.elim
   ·simp only [hw]
    exact skip hB
  ·have fin : ∀ ao,ai = .op o.dst g ao→(∀ d s',aZ ao tm s=some (d,s')→dj P M s w (execOp act.eval o) d s')→
    (if Region.wanted o (yielded ops act.tmps)=true then o.wp P act w K Q∨(o.asks P act w∧LetsOut Q)else K (act.put o.dst Go.undef) w):=by
    intro ao vR hdo
    subst vR
    simp only [iM]at h
    rcases jL hg ht h with ⟨hw,hA⟩ | ⟨hw,hB⟩
    ·simp only [hw,if_true]
     left
     split at hA
     ·rename_i d s' qy
      obtain⟨v,w',M',du,r',hv,e'⟩:=hdo d s' qy
      unfold Oper.wp
      rcases du with du | ⟨du,rfl⟩
      ·rw [du,Oper.upon_value]
       exact hK _ _ _ _ _ hA e' r' hv
      ·rw [du,Oper.upon_skip]
       exact hK _ _ _ _ _ hA e' r' hv
     ·exact hA.elim
    ·simp only [hw]
     exact skip hB
   split at hb
   ·rename_i z k n ps nS
    cases hb
    refine fin _ rfl (fun d s' qy=> ?_)
    split at qy
    ·exact yF nS r ht qy
    ·exact sw nS r ht qy
   ·rename_i ao nS
    cases hb
    exact fin _ rfl (fun d s' qy=>sw nS r ht qy)
   ·cases hb
structure LH (M:Map) (s:St) (b:Nat):Prop where
 o : ∀ o,o<s.aw.length→M.mu o≠b
 t : ∀ t c z,s.live t→M.be t≠some (b,c,z)
 g : ∀ off,M.G b off=none
theorem LH.mono {M M':Map} {s s':St} {w w':World} {b:Nat} (h:LH M s b) (e:Ext M s w M' s' w') (hb:b<w.heap.size):LH M' s' b:=by
 refine⟨fun o ho=> ?_,fun t c z hl he=> ?_,fun off=> ?_⟩
 ·rcases e.mo ho with ⟨h1,h2⟩ | h1
  ·rw [h2];exact h.o o h1
  ·omega
 ·rcases e.pA t b c z hl he with ⟨h1,c',z',h2⟩ | h1
  ·exact h.t t c' z' h1 h2
  ·omega
 ·by_cases hg:M'.G b off=M.G b off
  ·rw [hg];exact h.g off
  ·rcases e.qf b off hg with h1 | ⟨t,c,z,h1,h2⟩
   ·omega
   ·exact(h.t t c z h1 h2).elim
theorem Rel.idle {M:Map} {s:St} {w:World} (r:Rel M s w) (x:Obj):Rel M s (w.alloc x)∧Ext M s w M s (w.alloc x)∧LH M s w.heap.size:=by
 refine⟨⟨fun b o v e=> ?_,fun o ds e=> ?_,r.jr,r.inj,fun t n e=> ?_,r.eY,r.fZ⟩, ?_,⟨fun o ho=> ?_,fun t c z hl e=> ?_,fun off=>r.Ms (Nat.le_refl _) off⟩⟩
 ·obtain⟨h3,h4⟩:=r.comm b o v e
  refine⟨?_,h4⟩
  rw [World.cell?_alloc_lt]
  ·exact h3
  ·exact r.CF e
 ·obtain⟨vs,T,h3,h4,h5,h6⟩:=r.obj o ds e
  exact⟨vs,T,h3.keep (heap_alloc_old w _ _ h3.lt),h4,h5,h6⟩
 ·rcases r.tok t n e with h3 | ⟨b,cap,size,fD,T',h3,h4,h5⟩
  ·exact .inl h3
  ·exact .inr ⟨b,cap,size,fD,T',h3,by rw [heap_alloc_old w _ _ (kC h4)];exact h4,h5⟩
 ·exact⟨Le.refl M s,fun b hb _ _=>heap_alloc_old w _ b hb,fun o h3 h4=>by rcases h3 with h3 | h3;omega;exact(h3 rfl).elim,fun t b c z h e=> .inl ⟨h,c,z,e⟩,fun _ _ h=>(h rfl).elim,by simp,rfl,rfl,rfl⟩
 ·have:=r.pW ho;omega
 ·have:=r.sq hl e;omega
theorem Rel.afc {M:Map} {s:St} {w:World} (r:Rel M s w) {B:fz} (e:Ext B.M B.s B.w M s w) {b:Nat} (u:LH M s b) (hb:B.w.heap.size≤b)
 (ds:List D) (vs:Array Value) (T:TypeId) (hh:w.heap[b]? = some (.cells vs T (0,0))) (hl:vs.size=ds.length) (h1 : ∀ v∈vs,v.oneCell'=true)
 (h2 : ∀ (i:Nat) (d:D) (v:Value),ds[i]? = some d→vs[i]? = some v→RD M s d v) :
 Rel (M.dQ s.aw.length b) {s with aw:=s.aw++ [ds]} w∧Ext B.M B.s B.w (M.dQ s.aw.length b) {s with aw:=s.aw++ [ds]} w∧
 Le M s (M.dQ s.aw.length b) {s with aw:=s.aw++ [ds]}:=by
 have le:=rP (M:=M) s b ds
 have mE : ∀ o,o<s.aw.length→(M.dQ s.aw.length b).mu o=M.mu o:=fun o ho=>congrArg Prod.fst (sP M b .any ho)
 have dI:(M.dQ s.aw.length b).mu s.aw.length=b:=by simp [Map.dQ,Map.mu]
 refine⟨⟨r.comm,fun o nq e'=> ?_,fun o ho off=> ?_,fun o o' ho nr e'=> ?_,r.tok,fun t b' c z o hl e' ho=> ?_,r.fZ⟩, ?_,le⟩
 ·rcases Nat.lt_or_ge o s.aw.length with ho | ho
  ·rw [List.getElem?_append_left ho]at e'
   obtain⟨fD,T',h3,h4,h5,h6⟩:=r.obj o nq e'
   refine⟨fD,T', ?_,h4,⟨h5.1,by rw [le.ty o ho];exact h5.2⟩,fun i d v e1 e2=>(h6 i d v e1 e2).mono le⟩
   rw [sP M b .any ho];exact h3
  ·rw [List.getElem?_append_right ho]at e'
   have:o=s.aw.length:=by
    have:=(List.getElem?_eq_some_iff.1 e').1
    simp at this;omega
   subst this
   simp at e';subst e'
   refine⟨vs,T, ?_,hl,⟨h1,fun T' h=>by simp [Map.dQ,Map.ty,Ob.ty?]at h⟩,fun i d v e1 e2=>(h2 i d v e1 e2).mono le⟩
   have hl:(M.dQ s.aw.length b).loc s.aw.length=(b, .any):=by simp [Map.dQ]
   rw [hl];exact ix.of hh trivial
 ·simp at ho
  rcases Nat.lt_or_ge o s.aw.length with h3 | h3
  ·rw [mE o h3];exact r.jr o h3 off
  ·have:o=s.aw.length:=by omega
   subst this
   rw [dI];exact u.g off
 ·simp at ho nr
  rcases Nat.lt_or_ge o s.aw.length with h3 | h3 <;> rcases Nat.lt_or_ge o' s.aw.length with h4 | h4
  ·rw [mE o h3,mE o' h4]at e';exact r.inj o o' h3 h4 e'
  ·have:o'=s.aw.length:=by omega
   subst this
   rw [mE o h3,dI]at e'
   exact(u.o o h3 e').elim
  ·have:o=s.aw.length:=by omega
   subst this
   rw [mE o' h4,dI]at e'
   exact(u.o o' h4 e'.symm).elim
  ·omega
 ·simp at ho
  rcases Nat.lt_or_ge o s.aw.length with h3 | h3
  ·rw [mE o h3];exact r.eY t b' c z o hl e' h3
  ·have:o=s.aw.length:=by omega
   subst this
   rw [dI]
   intro he
   subst he
   exact u.t t c z hl e'
 ·refine⟨e.le.trans le,e.kept,fun o h3 h4=> ?_,e.pA,e.qf,e.size,e.os,e.tape,e.output⟩
  simp at h4
  rcases Nat.lt_or_ge o s.aw.length with h5 | h5
  ·rw [mE o h5]at h3 ⊢;exact e.qe o h3 h5
  ·have:o=s.aw.length:=by omega
   subst this
   rw [dI];exact hb
theorem KN {nt:Nat} {ops:Array Oper} {i:Nat} {o:Oper} {t:Nat} {z:List D} (hi:ops[i]? = some o) (hc:cI P nt ops o=some (.op (some t) none (.alloc z)))
 {w:World} {act:Act} {K:Act→World→Prop} {Q:Exit→Act→World→Prop}
 (hK : ∀ vs T,vs.size=z.length→(∀ v∈vs,v.oneCell'=true)→(∀ (M:Map) (s:St) (i:Nat) (d:D) (v:Value),z[i]? = some d→vs[i]? = some v→RD M s d v)→
  K (act.put (some t) (.pointer (some ⟨w.heap.size,0,none⟩))) (w.alloc (.cells vs T))):wpOp P ops Q i K act w:=by
 obtain⟨g,hg,_,hb⟩:=AU hc
 have qk:=sY hb
 simp only [AI.dst]at qk
 simp only [wpOp,hi]
 have mn:g=none∧Dq P o=some (.alloc z):=by
  unfold sn at hb
  split at hb
  ·split at hb
   ·obtain⟨xs,_,h⟩:=map_some hb;cases h
   ·cases hb
  ·obtain⟨xs,_,h⟩:=map_some hb;cases h
  ·split at hb
   ·cases hb
   ·split at hb
    ·rename_i nS
     simp only [Option.some.injEq,AI.op.injEq]at hb
     obtain⟨_,_,h⟩:=hb
     split at h <;> cases h
    ·rename_i ao nS
     simp only [Option.some.injEq,AI.op.injEq]at hb
     obtain⟨_,h1,h2⟩:=hb
     subst h2
     exact⟨h1,nS⟩
    ·cases hb
 obtain⟨rfl,nS⟩:=mn
 obtain⟨T,hT,hz⟩:=Qk nS
 have hw:Region.wanted o (yielded ops act.tmps)=true:=by
  have:o.guard=none:=by
   cases Gc:o.guard with
   | none=>rfl
   | some p=>
    obtain⟨j,b⟩:=p
    rw [Gc]at hg
    unfold uM at hg
    simp only at hg
    split at hg <;> cases hg
  simp [Region.wanted,this]
 simp only [hw,if_true]
 left
 unfold zeroOf at hz
 split at hz
 ·rename_i inf MW
  split at hz
  ·rename_i v hv
   split at hz
   ·have du:(execOp act.eval o).run P w = .ok (.value (.pointer (some ⟨w.heap.size,0,none⟩))) (w.alloc (.cells v.cells T)):=by
     obtain⟨dst,op,type,pos,after,guard⟩:=o
     simp only at hT
     subst hT
     simp [execOp,Instr.alloc,zeroValue,ga P MW,hv,newVar,newRow]
    have h3:=fun M s=>kZ (M:=M) (s:=s) hz
    obtain⟨h1,h2,_⟩:=h3 ⟨fun _ _=>none,fun _=>(0, .any),fun _=>none⟩ ⟨[],[]⟩
    unfold Oper.wp
    rw [du,Oper.upon_value, ← qk]
    exact hK _ _ (by rw [h1];simp) (fun u hu=>h2 u (by simpa using hu)) (fun M s i d u e1 e2=>(h3 M s).2.2 i d u e1 (by simpa using e2))
   ·cases hz
  ·cases hz
 ·cases hz
end
end Go.Abs

/-! Par2 -/

namespace Go.Abs
section
variable {is:List AI} {af pt:List (List Nat)}
theorem zN {pq:List Nat} {l l':List Nat} (h:l'.Sublist l) (hb:kN is pq l=true):kN is pq l'=true:=by
 induction h with
 | slnil=>rfl
 | cons a h ih=>
  simp only [kN,Bool.and_eq_true]at hb
  exact ih hb.2
 | cons_cons a h ih=>
  simp only [kN,Bool.and_eq_true,Bool.or_eq_true]at hb ⊢
  refine⟨hb.1.imp id fun h1=> ?_,ih hb.2⟩
  rw [List.all_eq_true]at h1 ⊢
  exact fun x hx=>h1 x (h.subset hx)
theorem BI {f:Nat→Bool} {l l':List Nat} (h:l'.Sublist l) (ha:l.all f=true):l'.all f=true:=by
 rw [List.all_eq_true]at ha ⊢
 exact fun x hx=>ha x (h.subset hx)
theorem KO {l l':List Nat} (h:l'.Sublist l):jm is l'≤jm is l:=(h.filter _).length_le
theorem Na {pre Fm:List Nat} {q b:Nat} (h:Fm.Sublist pre) (hs:oD is pt pre q b=true):oD is pt Fm q b=true:=by
 unfold oD at *
 split at hs
 ·exact BI h hs
 ·exact BI h hs
 ·simp only [Bool.and_eq_true]at hs ⊢
  exact⟨BI h hs.1,zN h hs.2⟩
 ·simp only [Bool.and_eq_true,decide_eq_true_eq]at hs ⊢
  exact⟨⟨BI h hs.1.1,zN h hs.1.2⟩,Nat.le_trans (KO (h.filter _)) hs.2⟩
theorem IY : ∀ {R:List (Nat×Nat)} {pre Fm:List Nat},Fm.Sublist pre→tM is af pt pre R=true→tM is af pt Fm R=true
 | [],_,_,_,_=>rfl
 | (q,b)::R,pre,Fm,h,ho=>by
  simp only [tM,Bool.and_eq_true,Bool.not_eq_true']at ho ⊢
  obtain⟨⟨⟨h1,h2⟩,h3⟩,h4⟩:=ho
  refine⟨⟨⟨Na h h1, ?_⟩,h3⟩,IY (h.cons_cons q) h4⟩
  rw [← Bool.not_eq_true,List.contains_iff_mem]at h2 ⊢
  exact fun hm=>h2 (h.subset hm)
theorem Fo : ∀ {X:List (Nat×Nat)} {e:Nat×Nat} {Y:List (Nat×Nat)} {pre:List Nat},tM is af pt pre (X++e::Y)=true→tM is af pt pre (X++Y)=true
 | [],(q,b),Y,pre,h=>by
  simp only [List.nil_append,tM,Bool.and_eq_true]at h
  exact IY (List.sublist_cons_self q pre) h.2
 | (a,c)::X,e,Y,pre,h=>by
  simp only [List.cons_append,tM,Bool.and_eq_true]at h ⊢
  obtain⟨⟨⟨h1,h2⟩,h3⟩,h4⟩:=h
  refine⟨⟨⟨h1,h2⟩, ?_⟩,Fo h4⟩
  rw [List.all_eq_true]at h3 ⊢
  intro j hj
  have:=h3 j hj
  simp only [Bool.and_eq_true,Bool.not_eq_true']at this ⊢
  refine⟨this.1, ?_⟩
  have h5:=this.2
  rw [← Bool.not_eq_true,List.contains_iff_mem]at h5 ⊢
  refine fun hm=>h5 ?_
  simp only [List.map_append,List.map_cons,List.mem_append,List.mem_cons]at hm ⊢
  exact hm.imp id .inr
theorem s4 : ∀ {X:List (Nat×Nat)} {q b:Nat} {Y:List (Nat×Nat)} {pre:List Nat},tM is af pt pre (X++(q,b)::Y)=true→
 oD is pt ((X.map (·.1)).reverse++pre) q b=true∧q∉X.map (·.1)∧q∉pre∧(∀ j∈gY af q,j≠q∧j∉Y.map (·.1))∧tM is af pt (q::((X.map (·.1)).reverse++pre)) Y=true
 | [],q,b,Y,pre,h=>by
  simp only [List.nil_append,tM,Bool.and_eq_true,Bool.not_eq_true']at h
  obtain⟨⟨⟨h1,h2⟩,h3⟩,h4⟩:=h
  rw [← Bool.not_eq_true,List.contains_iff_mem]at h2
  refine⟨h1,by simp,h2,fun j hj=> ?_,h4⟩
  rw [List.all_eq_true]at h3
  have:=h3 j hj
  simp only [Bool.and_eq_true,bne_iff_ne,Bool.not_eq_true', ← Bool.not_eq_true,List.contains_iff_mem]at this
  exact this
 | (a,c)::X,q,b,Y,pre,h=>by
  simp only [List.cons_append,tM,Bool.and_eq_true]at h
  obtain⟨_,h4⟩:=h
  obtain⟨g1,g2,g3,g4,g5⟩:=s4 h4
  simp only [List.map_cons,List.reverse_cons,List.append_assoc,List.singleton_append]
  refine⟨g1, ?_,fun h=>g3 (List.mem_cons_of_mem _ h),g4,g5⟩
  intro hm
  rcases List.mem_cons.1 hm with rfl | hm
  ·exact g3 (by simp)
  ·exact g2 hm
theorem BJ : ∀ {Y:List (Nat×Nat)} {pre:List Nat},tM is af pt pre Y=true→∀ x∈Y,x.1∉pre∧(jc is x.1 = .alloc→∀ a∈pre,kW is a x.1=true)
 | [],_,_,x,hx=>by cases hx
 | (q,b)::Y,pre,h,x,hx=>by
  simp only [tM,Bool.and_eq_true,Bool.not_eq_true']at h
  obtain⟨⟨⟨h1,h2⟩,_⟩,h4⟩:=h
  rw [← Bool.not_eq_true,List.contains_iff_mem]at h2
  rcases List.mem_cons.1 hx with rfl | hx
  ·refine⟨h2,fun hk a ha=> ?_⟩
   unfold oD at h1
   simp only [hk]at h1
   rw [List.all_eq_true]at h1
   exact h1 a ha
  ·obtain⟨g1,g2⟩:=BJ h4 x hx
   exact⟨fun h=>g1 (List.mem_cons_of_mem _ h),fun hk a ha=>g2 hk a (List.mem_cons_of_mem _ ha)⟩
theorem Cn : ∀ {n:Nat},xA af pt n=true→∀ i,i<n→∀ j∈gY pt i,j∈gY af i∨∃ k∈gY af i,j∈gY pt k
 | 0,_,i,hi=>by omega
 | n+1,h,i,hi=>by
  simp only [xA,Bool.and_eq_true]at h
  rcases Nat.lt_or_ge i n with h1 | h1
  ·exact Cn h.2 i h1
  ·have:i=n:=by omega
   subst this
   intro j hj
   have:=h.1
   rw [List.all_eq_true]at this
   have:=this j hj
   simp only [Bool.or_eq_true,List.contains_iff_mem,List.any_eq_true]at this
   exact this
theorem xQ {pq:List Nat} : ∀ {l:List Nat},kN is pq l=true→∀ (x:Nat) (l1 l2:List Nat),l=l1++x::l2→jc is x = .alloc→x∈pq→∀ y∈l2,y∈pq
 | [],_,x,l1,l2,h=>by simp at h
 | a::l,hb,x,l1,l2,h=>by
  simp only [kN,Bool.and_eq_true,Bool.or_eq_true,Bool.not_eq_true',Bool.and_eq_false_iff]at hb
  intro hk hx y hy
  cases l1 with
  | nil=>
   simp only [List.nil_append,List.cons.injEq]at h
   obtain⟨rfl,rfl⟩:=h
   rcases hb.1 with h1 | h1
   ·rcases h1 with h1 | h1
    ·simp [hk]at h1
    ·rw [← Bool.not_eq_true,List.contains_iff_mem]at h1
     exact(h1 hx).elim
   ·rw [List.all_eq_true]at h1
    have:=h1 y hy
    rwa [List.contains_iff_mem]at this
  | cons b l1=>
   simp only [List.cons_append,List.cons.injEq]at h
   exact xQ hb.2 x l1 l2 h.2 hk hx y hy
end
structure Pd where
 q:Nat
 t:Nat
 z:List D
 b:Nat
structure aa3 (is:List AI) (R:List (Nat×Nat)) (B:fz) (M:Map) (s:St) (act:Act) (w:World) (p:Pd):Prop where
 mem:p.q∈R.map (·.1)
 ai:is[p.q]? = some (.op (some p.t) none (.alloc p.z))
 cells : ∃ (vs:Array Value) (T:TypeId),w.heap[p.b]? = some (.cells vs T (0,0))∧vs.size=p.z.length∧(∀ v∈vs,v.oneCell'=true)∧
  ∀ (M:Map) (s:St) (i:Nat) (d:D) (v:Value),p.z[i]? = some d→vs[i]? = some v→RD M s d v
 unk:LH M s p.b
 base:B.w.heap.size≤p.b
 slot:act.tmps.getD p.t Go.undef = .pointer (some ⟨p.b,0,none⟩)
def yI (P:Program) (is:List AI) (K:Tm→St→Prop) (B:fz) (nt:Nat) (R:List (Nat×Nat)) (ei:List Pd) (act:Act) (w:World):Prop:=
 ∃ (M:Map) (s:St) (tm s5:Tm) (bK:List St),Ext B.M B.s B.w M s w∧Rel M s w∧lL M s s5 act.tmps∧(∀ t,(∀ p∈ei,p.t≠t)→s5.get t=tm.get t)∧
  act.tmps.size=nt∧act.defers = []∧kD P is K R bK tm s∧(∀ p∈ei,aa3 is R B M s act w p)∧
  (∀ p∈ei,∀ p'∈ei,p.q=p'.q∨p.t=p'.t∨p.b=p'.b→p=p')
structure qU (is:List AI) (af pt:List (List Nat)) (dv:Array Bool) (R:List (Nat×Nat)) (ei:List Pd):Prop where
 ok:tM is af pt [] R=true
 Gl : ∀ i,i<is.length→(dv.getD i false=true↔(i∉R.map (·.1)∨∃ p∈ei,p.q=i))
 cl : ∀ i,i<is.length→dv.getD i false=true→∀ j∈gY pt i,dv.getD j false=true
 size:dv.size=is.length
 lt : ∀ x∈R,x.1<is.length
section
variable {P:Program} {is:List AI} {af pt:List (List Nat)} {K:Tm→St→Prop} {B:fz} {nt:Nat}
theorem aa4 {dv:Array Bool} {q b:Nat} {R:List (Nat×Nat)} {ei:List Pd} {act:Act} {w:World} (hs:qU is af pt dv ((q,b)::R) ei) (h:yI P is K B nt ((q,b)::R) ei act w)
 {p:Pd} (hp:p∈ei) (tV:p.q=q) :
 qU is af pt dv R (ei.filter fun p'=>decide (p'.q≠q))∧yI P is K B nt R (ei.filter fun p'=>decide (p'.q≠q)) act w:=by
 have n8 : ∀ p',p'∈(ei.filter fun p'=>decide (p'.q≠q))↔p'∈ei∧p'.q≠q:=fun p'=>by simp
 constructor
 ·have Ck:=hs.ok
  have yJ:=s4 (X:= []) Ck
  refine⟨Fo (X:= []) Ck,fun i hi=> ?_,hs.cl,hs.size,fun x hx=>hs.lt x (List.mem_cons_of_mem _ hx)⟩
  rw [hs.Gl i hi]
  simp only [List.map_cons,List.mem_cons,not_or]
  have hqR:q∉R.map (·.1):=fun hm=>by
   obtain⟨x,hx,rfl⟩:=List.mem_map.1 hm
   exact(BJ yJ.2.2.2.2 x hx).1 (by simp)
  constructor
  ·rintro(⟨h1,h2⟩ | ⟨p',h1,h2⟩)
   ·exact .inl h2
   ·by_cases hq:i=q
    ·subst hq;exact .inl hqR
    ·exact .inr ⟨p',(n8 p').2 ⟨h1,by rw [h2];exact hq⟩,h2⟩
  ·rintro(h1 | ⟨p',h1,h2⟩)
   ·by_cases hq:i=q
    ·subst hq;exact .inr ⟨p,hp,tV⟩
    ·exact .inl ⟨hq,h1⟩
   ·exact .inr ⟨p',((n8 p').1 h1).1,h2⟩
 ·obtain⟨M,s,tm,s5,bK,e,r,ht,pZ,hn,hd,hg,vT,sC⟩:=h
  have hk:=vT p hp
  obtain⟨vs,T,hh,hl,h1,h2⟩:=hk.cells
  have vR:=hk.ai
  rw [tV]at vR
  simp only [kD,vR,AI.kind,gP]at hg
  obtain⟨d,s',sQ,hg⟩:=hg
  have qy:aZ (.alloc p.z) tm s=some (d,s'):=sQ
  simp only [aZ,Option.some.injEq,Prod.mk.injEq]at qy
  obtain⟨rfl,rfl⟩:=qy
  obtain⟨r',e',le⟩:=r.afc e hk.unk hk.base p.z vs T hh hl h1 (h2 M s)
  refine⟨_,_,_,s5.put (some p.t) (.ptr s.aw.length 0),_,e',r',fun u=> ?_,fun t htn=> ?_,hn,hd,hg,fun p' mB=> ?_,fun p1 h1 p2 h2=>sC p1 ((n8 p1).1 h1).1 p2 ((n8 p2).1 h2).1⟩
  ·rw [Tm.k7]
   split
   ·rename_i heq
    cases heq
    rw [hk.slot]
    have:(M.dQ s.aw.length p.b).mu s.aw.length=p.b:=by simp [Map.dQ,Map.mu]
    have h5:=RD.ptr (M:=M.dQ s.aw.length p.b) (s:= {s with aw:=s.aw++ [p.z]}) s.aw.length 0 (by simp) (by simp [Map.dQ,Map.ob,Ob.plain])
    rw [this]at h5
    exact h5
   ·exact(ht u).mono le
  ·simp only [AI.dst]
   rw [Tm.k7,Tm.k7]
   split
   ·rfl
   ·rename_i eH
    refine pZ t fun p' mB=> ?_
    by_cases hq:p'.q=q
    ·have:=sC p' mB p hp (.inl (hq.trans tV.symm))
     subst this
     exact fun h=>eH (by rw [h])
    ·exact htn p' ((n8 p').2 ⟨mB,hq⟩)
  ·obtain⟨hp1,hp2⟩:=(n8 p').1 mB
   have tL:=vT p' hp1
   refine⟨?_,tL.ai,tL.cells,⟨fun o ho=> ?_,tL.unk.t,tL.unk.g⟩,tL.base,tL.slot⟩
   ·have:=tL.mem
    simp only [List.map_cons,List.mem_cons]at this
    exact this.resolve_left hp2
   ·simp at ho
    rcases Nat.lt_or_ge o s.aw.length with h5 | h5
    ·rw [show(M.dQ s.aw.length p.b).mu o=M.mu o from congrArg Prod.fst (sP M p.b .any h5)];exact tL.unk.o o h5
    ·have:o=s.aw.length:=by omega
     subst this
     have:(M.dQ s.aw.length p.b).mu s.aw.length=p.b:=by simp [Map.dQ,Map.mu]
     rw [this]
     intro hb
     have:=sC p hp p' hp1 (.inr (.inr hb))
     subst this
     exact hp2 tV
theorem norm {dv:Array Bool} {act:Act} {w:World} : ∀ (R:List (Nat×Nat)) (ei:List Pd),qU is af pt dv R ei→yI P is K B nt R ei act w→
 ∃ R' vU,qU is af pt dv R' vU∧yI P is K B nt R' vU act w∧∀ x l,R'=x::l→∀ p∈vU,p.q≠x.1
 | [],ei,hs,h=>⟨[],ei,hs,h,fun _ _ he=>by cases he⟩
 | (q,b)::R,ei,hs,h=>by
  by_cases hp : ∃ p∈ei,p.q=q
  ·obtain⟨p,hp,tV⟩:=hp
   obtain⟨h1,h2⟩:=aa4 hs h hp tV
   exact norm R _ h1 h2
  ·refine⟨(q,b)::R,ei,hs,h,fun x l he p hpm tV=>hp ⟨p,hpm, ?_⟩⟩
   cases he
   exact tV
theorem Wy {ops:Array Oper} {q:Nat} {o:Oper} {ai:AI} (hi:ops[q]? = some o) (hc:cI P nt ops o=some ai) {R R':List (Nat×Nat)} {ei:List Pd} {act:Act} {w:World} {M:Map} {s s1:St} {tm s5:Tm} {d:D} {Wz:List St}
 (e:Ext B.M B.s B.w M s w) (r:Rel M s w) (ht:lL M s s5 act.tmps) (pZ : ∀ t,(∀ p∈ei,p.t≠t)→s5.get t=tm.get t) (hn:act.tmps.size=nt) (hd:act.defers = [])
 (vT : ∀ p∈ei,aa3 is R B M s act w p) (sC : ∀ p∈ei,∀ p'∈ei,p.q=p'.q∨p.t=p'.t∨p.b=p'.b→p=p')
 (hv:iM P [ai] (fun a b=>a=s5.put ai.dst d∧b=s1) s5 s) (hg:kD P is K R' Wz (tm.put ai.dst d) s1)
 (n8 : ∀ p∈ei,p.q∈R'.map (·.1)) (qk : ∀ p∈ei,ai.dst≠some p.t) {Q:Exit→Act→World→Prop} :
 wpOp P ops Q q (yI P is K B nt R' ei) act w:=by
 refine wQ hi hc r (B.laid.ext e) ht hv fun d' v s2 w1 M1 hk e1 r1 jd=> ?_
 obtain⟨uN,rfl⟩:=hk
 have hde:=sZ hc
 have hF : ∀ t,o.dst=some t→t<act.tmps.size:=fun t h=>by rw [hn];exact xL hc t h
 refine⟨M1,s2,tm.put ai.dst d,s5.put ai.dst d,Wz,e.trans e1,r1, ?_,fun t htn=> ?_, ?_, ?_,hg,fun p hp=> ?_,sC⟩
 ·rw [← uN,hde]
  exact(ht.mono e1.le).put hF jd
 ·rw [Tm.k7,Tm.k7,pZ t htn]
 ·cases ho:o.dst <;> simp [Act.put,hn]
 ·cases ho:o.dst <;> simp [Act.put,hd]
 ·have hk:=vT p hp
  obtain⟨vs,T,hh,hl,h1,h2⟩:=hk.cells
  have hb:=kC hh
  refine⟨n8 p hp,hk.ai,⟨vs,T,by rw [e1.kept p.b hb hk.unk.o hk.unk.t];exact hh,hl,h1,h2⟩,hk.unk.mono e1 hb,hk.base, ?_⟩
  rw [← hk.slot]
  have:=qk p hp
  rw [hde]at this
  cases ho:o.dst with
  | none=>rfl
  | some t=>
   rw [ho]at this
   have eH:t≠p.t:=fun h=>this (by rw [h])
   simp [Act.put,Array.getElem?_setIfInBounds_ne eH]
theorem Nb {ai:AI} (hm:gP ai.kind=false) {tm:Tm} {s:St} {d:D} (h:jx ai tm s=some d):iM P [ai] (fun a b=>a=tm.put ai.dst d∧b=s) tm s:=by
 cases ai with
 | op dst g o=>
  have hko:=LG hm
  have key : ∀ {d},(aZ o tm s).map (·.1)=some d→aZ o tm s=some (d,s):=by
   intro d h
   cases he:aZ o tm s with
   | none=>rw [he]at h;cases h
   | some p=>
    obtain⟨d',s'⟩:=p
    rw [he]at h
    simp only [Option.map_some,Option.some.injEq]at h
    subst h
    rw [KM (by rw [← hko];exact hm) he]
  simp only [iM,AI.dst]
  cases g with
  | none=>
   simp only [jx]at h
   simp only [guarded,key h,and_self]
  | some p=>
   obtain⟨t,want⟩:=p
   simp only [jx]at h
   simp only [guarded]
   split at h
   ·rename_i b hb
    simp only [hb]
    split at h
    ·rename_i heq
     refine⟨fun _=>by simp only [key h,and_self],fun eH=> ?_⟩
     subst heq
     cases b <;> cases eH
    ·rename_i eH
     cases h
     exact⟨fun heq=>(eH heq).elim,fun _=>by simp⟩
   ·rename_i ds hb
    cases h
    simp only [hb,and_self]
   ·cases h
 | call dst g f xs=>cases hm
 | nil dst g n x=>cases hm
 | jb dst g t xs=>cases hm
theorem AV {g:Option (Nat×Bool)} {tm:Tm} {A A' C C':Prop} (ha:A→A') (hc:C→C') (hh:guarded g tm A C):guarded g tm A' C':=by
 cases g with
 | none=>exact ha hh
 | some p=>
  obtain⟨t,want⟩:=p
  unfold guarded at *
  simp only at *
  split
  ·rename_i b hb;rw [hb]at hh;exact⟨fun e=>ha (hh.1 e),fun e=>hc (hh.2 e)⟩
  ·rename_i hb;rw [hb]at hh;exact hc hh
  ·rename_i x h1 h2
   split at hh
   ·exact h1 _ ‹_›
   ·exact h2 _ ‹_›
   ·exact hh
theorem IZ {ai:AI} {tm:Tm} {s s1:St} {d:D} (h:sy P ai tm s d s1):iM P [ai] (fun a b=>a=tm.put ai.dst d∧b=s1) tm s:=by
 cases ai with
 | op dst g o=>
  refine AV (fun e=> ?_) (fun e=> ?_) h
  ·rw [e];exact⟨rfl,rfl⟩
  ·obtain⟨rfl,rfl⟩:=e;exact⟨rfl,rfl⟩
 | call dst g f xs=>
  refine AV (fun e=> ?_) (fun e=> ?_) h
  ·exact e.mono fun x y hxy=>by obtain⟨rfl,rfl⟩:=hxy;exact⟨rfl,rfl⟩
  ·obtain⟨rfl,rfl⟩:=e;exact⟨rfl,rfl⟩
 | nil dst g n x=>exact h.elim
 | jb dst g t xs=>exact h.elim
end
end Go.Abs

/-! Par3 -/

namespace Go.Abs
section
variable {P:Program} {is:List AI} {af pt:List (List Nat)} {K:Tm→St→Prop} {B:fz} {nt:Nat}
theorem BK {ops:Array Oper} : ∀ {ol:List Oper} {is:List AI},qL P nt ops ol=some is→is.length=ol.length∧∀ (i:Nat) (o:Oper),ol[i]? = some o→∃ ai,is[i]? = some ai∧cI P nt ops o=some ai
 | [],is,h=>by cases h;exact⟨rfl,by simp⟩
 | o::ol,is,h=>by
  unfold qL at h
  split at h
  ·rename_i ai Qa h1 h2
   cases h
   obtain⟨g1,g2⟩:=BK h2
   refine⟨by simp [g1],fun i o' ho=> ?_⟩
   cases i with
   | zero=>simp at ho;subst ho;exact⟨ai,rfl,h1⟩
   | succ i=>exact g2 i o' (by simpa using ho)
  ·cases h
theorem sD {dv:Array Bool} {i:Nat} (h:i<dv.size):dv.getD i true=dv.getD i false:=by
 simp [h]
theorem qU.done {dv:Array Bool} {X Y:List (Nat×Nat)} {q b:Nat} {ei:List Pd} (hs:qU is af pt dv (X++(q,b)::Y) ei) (hq:q<is.length)
 (iN : ∀ j∈gY pt q,dv.getD j false=true):qU is af pt (dv.setIfInBounds q true) (X++Y) ei:=by
 obtain⟨g1,g2,g3,g4,g5⟩:=s4 hs.ok
 have hqY:q∉Y.map (·.1):=fun hm=>by
  obtain⟨x,hx,rfl⟩:=List.mem_map.1 hm
  exact(BJ g5 x hx).1 (by simp)
 refine⟨Fo hs.ok,fun i hi=> ?_,fun i hi hl j hj=> ?_,by simp [hs.size],fun x hx=>hs.lt x (by simp at hx ⊢;exact hx.imp id .inr)⟩
 ·by_cases tU:i=q
  ·subst tU
   have:i<dv.size:=by rw [hs.size];exact hq
   simp only [List.map_append,List.mem_append,g2,hqY,or_self,not_false_eq_true,true_or,iff_true]
   simp [this]
  ·rw [getD_set_ne false (Ne.symm tU),hs.Gl i hi]
   simp [tU]
 ·by_cases tU:i=q
  ·subst tU;exact getD_set_true (iN j hj)
  ·rw [getD_set_ne false (Ne.symm tU)]at hl
   exact getD_set_true (hs.cl i hi hl j hj)
theorem qU.flag {dv:Array Bool} {R:List (Nat×Nat)} {ei:List Pd} (hs:qU is af pt dv R ei) {p:Pd} (hq:p.q<is.length)
 (iN : ∀ j∈gY pt p.q,dv.getD j false=true):qU is af pt (dv.setIfInBounds p.q true) R (p::ei):=by
 refine⟨hs.ok,fun i hi=> ?_,fun i hi hl j hj=> ?_,by simp [hs.size],hs.lt⟩
 ·by_cases tU:i=p.q
  ·subst tU
   have:p.q<dv.size:=by rw [hs.size];exact hq
   simp [this]
  ·rw [getD_set_ne false (Ne.symm tU),hs.Gl i hi]
   have eH:p.q≠i:=fun h=>tU h.symm
   simp [eH]
 ·by_cases tU:i=p.q
  ·subst tU;exact getD_set_true (iN j hj)
  ·rw [getD_set_ne false (Ne.symm tU)]at hl
   exact getD_set_true (hs.cl i hi hl j hj)
theorem Nc {ai:AI} (h:ai.kind = .alloc) : ∃ t z,ai = .op (some t) none (.alloc z):=by
 cases ai with
 | op dst g o=>
  unfold AI.kind at h
  split at h
  ·rename_i heq;cases heq;exact⟨_,_,rfl⟩
  ·rename_i heq
   cases heq
   exfalso
   revert h
   cases o <;> simp [AO.kind]
  ·cases h
 | call dst g f xs=>cases h
 | nil dst g n x=>cases h
 | jb dst g t xs=>cases h
theorem Nd {ops:Array Oper} (wR:qL P nt ops ops.toList=some is) (Nf:xA af pt is.length=true)
 (hK : ∀ tm bB s,Tm.eqv tm bB→K tm s→K bB s) {dv:Array Bool} {R:List (Nat×Nat)} {ei:List Pd} {act:Act} {w:World} (hs:qU is af pt dv R ei) (h:yI P is K B nt R ei act w)
 (afd : ∀ x l,R=x::l→∀ p∈ei,p.q≠x.1) {q:Nat} (hq:q<is.length) (DK:dv.getD q false=false) (jd : ∀ j∈gY af q,j<is.length∧dv.getD j false=true)
 {Q:Exit→Act→World→Prop} {K2:Act→World→Prop} (hK2 : ∀ R' vU a' w',qU is af pt (dv.setIfInBounds q true) R' vU→yI P is K B nt R' vU a' w'→K2 a' w'):wpOp P ops Q q K2 act w:=by
 obtain⟨hlen,hP⟩:=BK wR
 have sV:q<ops.size:=by rw [hlen]at hq;simpa using hq
 obtain⟨ai,vR,Qm⟩:=hP q ops[q] (by simp [sV])
 have hi:ops[q]? = some ops[q]:=by simp [sV]
 have iN : ∀ j∈gY pt q,dv.getD j false=true:=fun j hj=>by
  rcases Cn Nf q hq j hj with h1 | ⟨k,h1,h2⟩
  ·exact(jd j h1).2
  ·exact hs.cl k (jd k h1).1 (jd k h1).2 j h2
 have Qn : ∀ p∈ei,p.q≠q:=fun p hp tV=>by
  have:=(hs.Gl q hq).2 (.inr ⟨p,hp,tV⟩)
  rw [DK]at this;cases this
 have hqR:q∈R.map (·.1):=by
  by_cases hm:q∈R.map (·.1)
  ·exact hm
  ·have:=(hs.Gl q hq).2 (.inl hm)
   rw [DK]at this;cases this
 obtain⟨⟨q',b⟩,hx,hqq⟩:=List.mem_map.1 hqR
 simp only at hqq
 subst hqq
 obtain⟨X,Y,rfl⟩:=List.append_of_mem hx
 obtain⟨g1,g2,g3,g4,g5⟩:=s4 hs.ok
 rw [List.append_nil]at g1 g5
 obtain⟨M,s,tm,s5,bK,e,r,ht,pZ,hn,hd,hg,vT,sC⟩:=h
 have Qo:jc is q'=ai.kind:=by simp [jc,vR]
 -- what must have come up ahead of it, is not here any more, but for what was allocated early
 have WA : ∀ a∈X.map (·.1),a∈gY pt q'→∃ p∈ei,p.q=a:=fun a ha fV=>by
  have h1:=iN a fV
  obtain⟨x,hxX,rfl⟩:=List.mem_map.1 ha
  rcases(hs.Gl x.1 (hs.lt x (by simp [hxX]))).1 h1 with h2 | h2
  ·exact(h2 (by simp;exact .inl ⟨x.2,hxX⟩)).elim
  ·exact h2
 have WB : ∀ x l,X=x::l→x.1∉gY pt q':=fun x l hX hxp=>by
  obtain⟨p,hp,tV⟩:=WA x.1 (by simp [hX]) hxp
  exact afd x (l++(q',b)::Y) (by simp [hX]) p hp tV
 have hpk : ∀ p∈ei,jc is p.q = .alloc:=fun p hp=>by simp [jc,(vT p hp).ai,AI.kind]
 have yJ : ∀ p∈ei,(p.q∈X.map (·.1)→kW is p.q q'=true)→(∀ t,ai.dst=some t→t≠p.t)∧p.t∉ai.reads:=fun p hp hX=>by
  have hk:=vT p hp
  have hm:=hk.mem
  simp only [List.map_append,List.map_cons,List.mem_append,List.mem_cons]at hm
  rcases hm with hm | hm | hm
  ·have:=hX hm
   simp only [kW,hk.ai,vR]at this
   obtain⟨p1,p2,p3⟩:=apart_spec this
   exact⟨fun t ht he=>p3 p.t rfl (by rw [ht,he]),p1 p.t rfl⟩
  ·exact(Qn p hp hm).elim
  ·obtain⟨x,hxY,WC⟩:=List.mem_map.1 hm
   have:=(BJ g5 x hxY).2 (by rw [WC];exact hpk p hp) q' (by simp)
   rw [WC]at this
   simp only [kW,hk.ai,vR]at this
   obtain⟨p1,p2,p3⟩:=apart_spec this
   exact⟨fun t ht he=>p3 t ht (by rw [he];rfl),p2 p.t rfl⟩
 have Qp:(∀ p∈ei,p.t∉ai.reads)→∀ t∈ai.reads,tm.get t=s5.get t:=fun hp t ht=>(pZ t fun p hpm he=>hp p hpm (by rw [he];exact ht)).symm
 have WD : ∀ p∈ei,p.q∈(X++Y).map (·.1):=fun p hp=>by
  have hm:=(vT p hp).mem
  have:=Qn p hp
  simp only [List.map_append,List.map_cons,List.mem_append,List.mem_cons]at hm ⊢
  rcases hm with hm | hm | hm
  ·exact .inl hm
  ·exact(this hm).elim
  ·exact .inr hm
 by_cases qB:ai.kind = .alloc
 ·-- an allocation
  obtain⟨t,z,rfl⟩:=Nc qB
  have fV : ∀ a∈X.map (·.1),kW is a q'=true:=fun a ha=>by
   unfold oD at g1
   rw [Qo,qB]at g1
   simp only [List.all_reverse,List.all_eq_true]at g1
   exact g1 a ha
  have Gm:=fun p hp=>yJ p hp (fV p.q)
  refine KN hi Qm fun vs T hl h1 h2=> ?_
  obtain⟨r1,e1,u1⟩:=r.idle (.cells vs T)
  have abb:t<act.tmps.size:=by
   rw [hn]
   exact xL Qm t (by rw [← sZ Qm];rfl)
  have:=hs.flag (p:=⟨q',t,z,w.heap.size⟩) hq iN
  refine hK2 _ _ _ _ this ⟨M,s,tm,s5.put (some t) .junk,bK,e.trans e1,r1,lL.put ht (dst:=some t) (fun u hu=>by cases hu;exact abb) (.junk _),fun u hu=> ?_,by simp [Act.put,hn],by simp [Act.put,hd],hg,fun p hp=> ?_,fun p hp p' mB he=> ?_⟩
  ·have h3:=hu ⟨q',t,z,w.heap.size⟩ (by simp)
   rw [Tm.k7,if_neg (by simpa using h3)]
   exact pZ u fun p hp=>hu p (List.mem_cons_of_mem _ hp)
  ·rcases List.mem_cons.1 hp with rfl | hp
   ·refine⟨by simp,vR,⟨vs,T,heap_alloc_new w _,hl,h1,h2⟩,u1,e.size, ?_⟩
    simp [Act.put,abb]
   ·have hk:=vT p hp
    obtain⟨fD,T',jJ,mH,rL,xO⟩:=hk.cells
    refine⟨hk.mem,hk.ai,⟨fD,T',by rw [heap_alloc_old w _ _ (kC jJ)];exact jJ,mH,rL,xO⟩,hk.unk,hk.base, ?_⟩
    rw [← hk.slot]
    have eH:t≠p.t:=(Gm p hp).1 t rfl
    simp [Act.put,Array.getElem?_setIfInBounds_ne eH]
  ·have dI : ∀ p∈ei,¬ (q'=p.q∨t=p.t∨w.heap.size=p.b):=fun p hp h=>by
    rcases h with h | h | h
    ·exact Qn p hp h.symm
    ·exact(Gm p hp).1 t rfl h
    ·obtain⟨fD,T',jJ,_⟩:=(vT p hp).cells
     have:=kC jJ
     omega
   rcases List.mem_cons.1 hp with rfl | hp <;> rcases List.mem_cons.1 mB with rfl | mB
   ·rfl
   ·exact(dI p' mB he).elim
   ·exact(dI p hp (he.imp Eq.symm (Or.imp Eq.symm Eq.symm))).elim
   ·exact sC p hp p' mB he
 ·by_cases nS:gP ai.kind=true
  ·-- a step that changes something: it stands first
   have hkc:ai.kind = .core:=by
    cases hk:ai.kind <;> simp_all [gP]
   have hX:X = []:=by
    cases X with
    | nil=>rfl
    | cons x l=>
     refine(WB x l rfl ?_).elim
     unfold oD at g1
     rw [Qo,hkc]at g1
     simp only [List.all_reverse,List.all_eq_true]at g1
     have:=g1 x.1 (by simp)
     rwa [List.contains_iff_mem]at this
   subst hX
   have Gm:=fun p hp=>yJ p hp (fun h=>by simp at h)
   simp only [List.nil_append,kD,vR,nS]at hg
   obtain⟨d,s1,sQ,hg⟩:=hg
   have aiJ:=wO (Qp fun p hp=>(Gm p hp).2) sQ
   refine wpOp_mono (fun a' w' hr=>hK2 _ _ _ _ (hs.done hq iN) hr) ?_
   exact Wy hi Qm e r ht pZ hn hd vT sC (IZ aiJ) hg WD (fun p hp he=>(Gm p hp).1 _ he rfl)
  ·-- a step that changes nothing
   have hm:gP ai.kind=false:=by simpa using nS
   have oL : ∀ a∈X.map (·.1),a∉gY pt q':=fun a ha fV=>by
    obtain⟨p,hp,tV⟩:=WA a ha fV
    have AH:jc is a = .alloc:=by rw [← tV];exact hpk p hp
    have kv:kN is (gY pt q') (X.map (·.1)).reverse=true:=by
     unfold oD at g1
     rw [Qo]at g1
     cases hk:ai.kind with
     | pure=>simp only [hk,Bool.and_eq_true]at g1;exact g1.2
     | load=>simp only [hk,Bool.and_eq_true]at g1;exact g1.1.2
     | alloc=>exact(qB hk).elim
     | core=>rw [hk]at hm;cases hm
    cases X with
    | nil=>simp at ha
    | cons x l=>
     have ha2:a∈((x::l).map (·.1)).reverse:=List.mem_reverse.2 ha
     obtain⟨l1,l2,tW⟩:=List.append_of_mem ha2
     have qV:=xQ kv a l1 l2 tW AH fV
     refine WB x l rfl ?_
     cases ml:l2.reverse with
     | nil=>
      have h3:l2 = []:=by simpa using ml
      subst h3
      have:=congrArg List.reverse tW
      simp at this
      rw [this.1];exact fV
     | cons y l3=>
      have:=congrArg List.reverse tW
      simp only [List.reverse_reverse,List.map_cons,List.reverse_append,List.reverse_cons,List.reverse_nil,List.append_assoc,ml,List.cons_append,List.nil_append,List.cons.injEq]at this
      rw [this.1]
      exact qV y (by rw [← List.mem_reverse,ml];simp)
   have fV : ∀ a∈X,kW is a.1 q'=true:=fun a ha=>by
    have h3 : ∀ x∈(X.map (·.1)).reverse,((gY pt q').contains x || kW is x q')=true:=by
     unfold oD at g1
     rw [Qo]at g1
     cases hk:ai.kind with
     | pure=>simp only [hk,Bool.and_eq_true]at g1;exact List.all_eq_true.1 g1.1
     | load=>simp only [hk,Bool.and_eq_true]at g1;exact List.all_eq_true.1 g1.1.1
     | alloc=>exact(qB hk).elim
     | core=>rw [hk]at hm;cases hm
    have:=h3 a.1 (List.mem_reverse.2 (List.mem_map_of_mem ha))
    simp only [Bool.or_eq_true,List.contains_iff_mem]at this
    exact this.resolve_left (oL a.1 (List.mem_map_of_mem ha))
   have abd:ai.kind = .load→jm is (X.map (·.1))≤b:=fun hk=>by
    unfold oD at g1
    rw [Qo,hk]at g1
    simp only [Bool.and_eq_true,decide_eq_true_eq]at g1
    have h3:=g1.2
    have h4:(X.map (·.1)).reverse.filter (fun a=> !(gY pt q').contains a)=(X.map (·.1)).reverse:=by
     rw [List.filter_eq_self]
     intro a ha
     have:=oL a (List.mem_reverse.1 ha)
     simpa using this
    rw [h4]at h3
    unfold jm at h3 ⊢
    rw [List.filter_reverse,List.length_reverse]at h3
    exact h3
   have Gm:=fun p hp=>yJ p hp (fun h=>by
    obtain⟨x,hx,WC⟩:=List.mem_map.1 h
    rw [← WC];exact fV x hx)
   obtain⟨d,h1,_,pI⟩:=wP hK vR hm Y X bK tm s fV abd hg
   have rL:jx ai s5 s=some d:=by rw [← qA (Qp fun p hp=>(Gm p hp).2)];exact h1
   refine wpOp_mono (fun a' w' hr=>hK2 _ _ _ _ (hs.done hq iN) hr) ?_
   exact Wy hi Qm e r ht pZ hn hd vT sC (Nb hm rL) pI WD (fun p hp he=>(Gm p hp).1 _ he rfl)
theorem Co {o:Oper} {j:Nat} : j∈mC o↔∃ e∈o.after,Region.binds .any e=true∧e.on=j:=by
 simp only [mC,List.mem_map,List.mem_filter,Array.mem_toList_iff]
 constructor
 ·rintro⟨e,⟨h1,h2⟩,h3⟩;exact⟨e,h1,h2,h3⟩
 ·rintro⟨e,h1,h2,h3⟩;exact⟨e,⟨h1,h2⟩,h3⟩
theorem Ng {ops:Array Oper} (wR:qL P nt ops ops.toList=some is) (Nf:xA (ops.toList.map mC) pt is.length=true)
 (abe : ∀ i,i<is.length→∀ j∈gY (ops.toList.map mC) i,j<is.length) {Q:Exit→Tm→St→Prop} (hK : ∀ tm bB s,Tm.eqv tm bB→K tm s→K bB s)
 (hKQ : ∀ tm s act w,K tm s→Holds B nt tm s act w→pC B nt Q .normal act w) :
 ∀ (fuel:Nat) (dv:Array Bool) (R:List (Nat×Nat)) (ei:List Pd) (act:Act) (w:World) (U:List Nat),U.length≤fuel→(∀ j,j<is.length→dv.getD j false=false→j∈U)→
  qU is (ops.toList.map mC) pt dv R ei→yI P is K B nt R ei act w→wpAny P .any ops (pC B nt Q) fuel dv act w:=by
 obtain⟨hlen,_⟩:=BK wR
 have sv:is.length=ops.size:=by rw [hlen];simp
 have abf : ∀ (j:Nat) (o:Oper),ops[j]? = some o→gY (ops.toList.map mC) j=mC o:=fun j o h=>by
  simp [gY,List.getD,h]
 have fin : ∀ {dv:Array Bool} {ei:List Pd} {act:Act} {w:World},yI P is K B nt [] ei act w→pC B nt Q .normal act w:=by
  intro dv ei act w h
  obtain⟨M,s,tm,s5,bK,e,r,ht,pZ,hn,hd,hg,vT,sC⟩:=h
  have IL : ∀ p∈ei,False:=fun p hp=>by have:=(vT p hp).mem;simp at this
  exact hKQ s5 s act w (hK tm s5 s (fun t=>(pZ t fun p hp=>(IL p hp).elim).symm) hg) ⟨M,e,r,ht,hn,hd⟩
 have Qq : ∀ {dv:Array Bool} {R:List (Nat×Nat)} {ei:List Pd} {x:Nat×Nat} {l:List (Nat×Nat)},qU is (ops.toList.map mC) pt dv R ei→R=x::l→(∀ p∈ei,p.q≠x.1)→
  x.1∈Region.ready .any ops dv:=by
  intro dv R ei x l hs hR Qn
  subst hR
  have hx:=hs.lt x (by simp)
  rw [mem_ready]
  have DK:dv.getD x.1 false=false:=by
   cases hl:dv.getD x.1 false with
   | false=>rfl
   | true=>
    rcases(hs.Gl x.1 hx).1 hl with h1 | ⟨p,hp,tV⟩
    ·exact(h1 (by simp)).elim
    ·exact(Qn p hp tV).elim
  have hxo:x.1<ops.size:=by rw [← sv];exact hx
  refine⟨by rw [sD (by rw [hs.size];exact hx)];exact DK,ops[x.1],by simp [hxo],fun e he hb=> ?_⟩
  have hm:e.on∈gY (ops.toList.map mC) x.1:=by rw [abf x.1 ops[x.1] (by simp [hxo])];exact Co.2 ⟨e,he,hb,rfl⟩
  obtain⟨_,_,_,g4,_⟩:=s4 (X:= []) (q:=x.1) (b:=x.2) hs.ok
  obtain⟨h1,h2⟩:=g4 _ hm
  refine(hs.Gl e.on (abe x.1 hx _ hm)).2 (.inl ?_)
  simp only [List.map_cons,List.mem_cons,not_or]
  exact⟨h1,h2⟩
 intro fuel
 induction fuel with
 | zero=>
  intro dv R ei act w U hU DK hs h
  obtain⟨R',vU,la,h',hn⟩:=norm R ei hs h
  have hUn:U = []:=List.length_eq_zero_iff.1 (by omega)
  have qV : ∀ j,j<is.length→dv.getD j false=true:=fun j hj=>by
   cases hl:dv.getD j false with
   | true=>rfl
   | false=>have:=DK j hj hl;rw [hUn]at this;cases this
  have hR:R' = []:=by
   cases hR:R' with
   | nil=>rfl
   | cons x l=>
    have hx:=la.lt x (by simp [hR])
    have:=Qq la hR (hn x l hR)
    rw [mem_ready,sD (by rw [la.size];exact hx),qV x.1 hx]at this
    cases this.1
  subst hR
  refine⟨?_,fin (dv:=dv) h'⟩
  cases hr:Region.ready .any ops dv with
  | nil=>rfl
  | cons j js=>
   have hj:j∈Region.ready .any ops dv:=by rw [hr];simp
   rw [mem_ready]at hj
   obtain⟨h1,o,ho,_⟩:=hj
   have LI:j<is.length:=by rw [sv];exact(Array.getElem?_eq_some_iff.1 ho).1
   rw [sD (by rw [hs.size];exact LI),qV j LI]at h1
   cases h1
 | succ fuel ih=>
  intro dv R ei act w U hU DK hs h
  obtain⟨R',vU,la,h',hn⟩:=norm R ei hs h
  refine⟨fun hr=> ?_,fun i hi=> ?_⟩
  ·cases hR:R' with
   | nil=>subst hR;exact fin (dv:=dv) h'
   | cons x l=>
    have:=Qq la hR (hn x l hR)
    rw [hr]at this
    cases this
  ·rw [mem_ready]at hi
   obtain⟨h1,o,ho,Nh⟩:=hi
   have qz:i<is.length:=by rw [sv];exact(Array.getElem?_eq_some_iff.1 ho).1
   rw [sD (by rw [hs.size];exact qz)]at h1
   refine Nd wR Nf hK la h' hn qz h1 (fun j hj=>⟨abe i qz j hj, ?_⟩) fun R2 aff a2 w2 Ly h2=> ?_
   ·rw [abf i o ho]at hj
    obtain⟨e,he,hb,rfl⟩:=Co.1 hj
    exact Nh e he hb
   ·refine ih _ R2 aff a2 w2 (U.erase i) ?_ (fun j hj hl=> ?_) Ly h2
    ·have:=List.length_erase_of_mem (DK i qz h1)
     omega
    ·have hji:j≠i:=fun e=>by
      subst e
      have:j<dv.size:=by rw [hs.size];exact qz
      simp [this]at hl
     rw [getD_set_ne false (Ne.symm hji)]at hl
     exact(List.mem_erase_of_ne hji).2 (DK j hj hl)
theorem Sem.par {is:List AI} {lC:List (Nat×Nat)} {Q:Exit→Tm→St→Prop} {tm:Tm} {s:St} (h:kD P is (Q .normal) lC [] tm s):Sem P B nt (.par is lC) Q tm s:=by
 intro c hc act w hh
 obtain⟨id,ops,rfl,hi,hm,pt,hp⟩:=ld hc
 simp only [Ii,Bool.and_eq_true,List.all_eq_true,List.mem_range,List.contains_iff_mem,decide_eq_true_eq]at hp
 obtain⟨⟨⟨⟨h1,h2⟩,h3⟩,h4⟩,h5⟩:=hp
 obtain⟨hlen,_⟩:=BK hi
 have sv:is.length=ops.size:=by rw [hlen];simp
 refine wp_region_any hm ?_
 obtain⟨M,e,r,ht,hn,hd⟩:=hh
 have key : ∀ (R:List (Nat×Nat)) (bK:List St) (tm:Tm) (s:St),kD P is (Q .normal) R bK tm s→kD P is (fun tm s=>∃ bB,tm.eqv bB∧Q .normal bB s) R bK tm s:=by
  intro R
  induction R with
  | nil=>intro bK tm s h;exact⟨tm,fun _=>rfl,h⟩
  | cons x R ih=>
   obtain⟨q,b⟩:=x
   intro bK tm s h
   unfold kD at h ⊢
   split at h
   ·exact h.elim
   ·split at h
    ·obtain⟨d,s',h1,h2⟩:=h;exact⟨d,s',h1,ih _ _ _ h2⟩
    ·obtain⟨d,h1,h2,h3⟩:=h;exact⟨d,h1,h2,ih _ _ _ h3⟩
 have hg:=key _ _ _ _ h
 refine Ng (K:=fun tm s=>∃ bB,tm.eqv bB∧Q .normal bB s) hi h1 h5 (fun tm bB s he ⟨t2,h3,h4⟩=>⟨t2,fun t=>(he t).symm.trans (h3 t),h4⟩)
  (fun tm s act w ⟨t2,h3,h4⟩ ⟨M,e,r,ht,hn,hd⟩=>⟨t2,s,h4,M,e,r,fun t=>by rw [← h3 t];exact ht t,hn,hd⟩) ops.size _ lC [] act _ (List.range is.length) (by simp [sv]) (fun j hj _=>by simpa using hj)
  ⟨h2,fun i hi=> ?_,fun i hi hl=> ?_,by simp [sv],h4⟩ ⟨M,s,tm,tm,[],⟨e.le,e.kept,e.qe,e.pA,e.qf,e.size,e.os,e.tape,e.output⟩,r.of_heap rfl,ht,fun _ _=>rfl,hn,hd,hg,by simp,by simp⟩
 ·have:i<ops.size:=by rw [← sv];exact hi
  have h6:=h3 i hi
  simp only [List.not_mem_nil,false_and,exists_false,or_false]
  rw [show(Array.replicate ops.size false).getD i false=false by simp [this]]
  simp [h6]
 ·have:i<ops.size:=by rw [← sv];exact hi
  rw [show(Array.replicate ops.size false).getD i false=false by simp [this]]at hl
  cases hl
end
end Go.Abs

/-! Step -/

namespace Go.Abs
theorem Yn (k:IntKind) (n:Int):D.row (.int k n)=some [.int k n]:=rfl
theorem Tq (b:Bool):D.row (.bool b)=some [.bool b]:=rfl
theorem Yo (l:List UInt8):D.row (.str l)=some [.str l]:=rfl
theorem Tr:D.row .eR=some [.eR]:=rfl
theorem Yp (o f:Nat):D.row (.ptr o f)=some [.ptr o f]:=rfl
theorem Ts (r:List D) (f:Nat):D.row (.dG r f)=some [.dG r f]:=rfl
theorem Qr (g:Tag) (z:Nat) (r:List (List D)):D.row (.slice g z r)=some [.slice g z r]:=rfl
theorem Yq (cs:List D):D.row (.agg cs)=some cs:=rfl
theorem Yr (v:Value):D.row (.val v)=some [.val v]:=rfl
theorem Qs (T:TypeId) (o:Nat):D.row (.fm T o)=some [.fm T o]:=rfl
theorem Ys (f:Nat) (cs:List D):D.row (.gj f cs)=some [.gj f cs]:=rfl
theorem Tv (o:Nat):D.row (.fY o)=some [.fY o]:=rfl
theorem Tw (w:Bool):Tag.cut .full w=if w then .full else .shared:=rfl
theorem Ni (w:Bool):Tag.cut .shared w = .shared:=rfl
theorem Tx (t:Nat) (y:Bool) (w:Bool):Tag.cut (.tok t y) w = .tok t y:=rfl
section
variable {P:Program}
def KC (P:Program) (r:List AI) (K:Tm→St→Prop) (tm:Tm) (dst:Option Nat) (d:D) (s:St):Prop:=iM P r K (tm.put dst d) s
def GI (P:Program) (g:D) (want:Bool) (i:AI) (r:List AI) (K:Tm→St→Prop) (tm:Tm) (s:St):Prop:=
 match g with
 | .bool b=>(b=want→iM P (i::r) K tm s)∧(b=(!want)→iM P r K (tm.put i.dst (.tuple [])) s)
 | .tuple _=>iM P r K (tm.put i.dst (.tuple [])) s
 | _=>False
def NI (P:Program) (dst:Option Nat) (neg:Bool) (x:D) (r:List AI) (K:Tm→St→Prop) (tm:Tm) (s:St):Prop:=
 match x with
 | .slice _ _ rows=>∀ b:Bool,(rows≠ []→b=false)→iM P r K (tm.put dst (.bool (if neg then !b else b))) s
 | _=>False
def um (d:D) (A C:Prop):Prop:=
 match d with
 | .bool b=>(b=true→A)∧(b=false→C)
 | _=>False
theorem Sem.afg {B:fz} {nt:Nat} {Q:Exit→Tm→St→Prop} {tm:Tm} {s:St} {x:X} {a b:AC} (h:um (x.ev tm) (Sem P B nt a Q tm s) (Sem P B nt b Q tm s)):Sem P B nt (.cond x a b) Q tm s:=by
 unfold um at h
 split at h
 ·rename_i t ht
  exact Sem.cond ht h.1 h.2
 ·exact h.elim
def gQ (P:Program) (K:Tm→St→Prop):List (AI×Nat)→List St→Tm→St→Prop
 | [],_,tm,s=>K tm s
 | (ai,b)::r,bK,tm,s=>
  match gP ai.kind with
  | true=>∃ d s',sy P ai tm s d s'∧gQ P K r (s::bK) (tm.put ai.dst d) s'
  | false=>∃ d,jx ai tm s=some d∧(ai.kind = .load→∀ s'∈bK.take b,jx ai tm s'=some d)∧gQ P K r bK (tm.put ai.dst d) s
def mJ (is:List AI):List (Nat×Nat)→Option (List (AI×Nat))
 | []=>some []
 | (q,b)::r=>match is[q]?,mJ is r with
  | some ai,some l=>some ((ai,b)::l)
  | _,_=>none
theorem Fp {is:List AI} {K:Tm→St→Prop} : ∀ {lC:List (Nat×Nat)} {items:List (AI×Nat)} {bK:List St} {tm:Tm} {s:St},mJ is lC=some items→gQ P K items bK tm s→kD P is K lC bK tm s
 | [],items,bK,tm,s,h,g=>by cases h;exact g
 | (q,b)::r,items,bK,tm,s,h,g=>by
  simp only [mJ]at h
  split at h
  ·rename_i ai l h1 h2
   cases h
   simp only [gQ]at g
   simp only [kD,h1]
   split at g
   ·rename_i hk
    obtain⟨d,s',g1,g2⟩:=g
    try simp only [hk]
    exact⟨d,s',g1,Fp h2 g2⟩
   ·rename_i hk
    obtain⟨d,g1,g2,g3⟩:=g
    try simp only [hk]
    exact⟨d,g1,g2,Fp h2 g3⟩
  ·cases h
theorem Sem.aiL {B:fz} {nt:Nat} {Q:Exit→Tm→St→Prop} {tm:Tm} {s:St} {is:List AI} {lC:List (Nat×Nat)} {items:List (AI×Nat)} (hi:mJ is lC=some items) (h:gQ P (Q .normal) items [] tm s):Sem P B nt (.par is lC) Q tm s:=
 Sem.par (Fp hi h)
def AI.free:AI→AI
 | .op d _ o=> .op d none o
 | .call d _ f xs=> .call d none f xs
 | .nil d _ n x=> .nil d none n x
 | .jb d _ t xs=> .jb d none t xs
def GL (P:Program) (g:D) (want:Bool) (i:AI) (b:Nat) (r:List (AI×Nat)) (K:Tm→St→Prop) (bK:List St) (tm:Tm) (s:St):Prop:=
 match g with
 | .bool v=>(v=want→gQ P K ((i,b)::r) bK tm s)∧(v=(!want)→gQ P K r (if gP i.kind then s::bK else bK) (tm.put i.dst (.tuple [])) s)
 | .tuple _=>gQ P K r (if gP i.kind then s::bK else bK) (tm.put i.dst (.tuple [])) s
 | _=>False
def CL (P:Program) (f:Nat) (args:List D) (s:St) (K:D→St→Prop):Prop:=∃ d s',aB P f args s d s'∧K d s'
def KL (P:Program) (K:Tm→St→Prop) (r:List (AI×Nat)) (bK:List St) (tm:Tm) (dst:Option Nat) (d:D) (s:St):Prop:=gQ P K r bK (tm.put dst d) s
def nU (i:AI) (tm:Tm) (d:D):List St→Prop
 | []=>True
 | s::r=>jx i tm s=some d∧nU i tm d r
theorem DL {i:AI} {tm:Tm} {d:D} : ∀ {l:List St},nU i tm d l→∀ s∈l,jx i tm s=some d
 | [],_,s,h=>by cases h
 | a::l,h,s,hs=>by
  rcases List.mem_cons.1 hs with rfl | hs
  ·exact h.1
  ·exact DL h.2 s hs
def PL (P:Program) (o:AO) (dst:Option Nat) (b:Nat) (r:List (AI×Nat)) (K:Tm→St→Prop) (bK:List St) (tm:Tm) (s:St):Prop:=
 match aZ o tm s with
 | some (d,_)=>nU (.op dst none o) tm d (bK.take b)∧gQ P K r bK (tm.put dst d) s
 | none=>False
def ML (P:Program) (o:AO) (dst:Option Nat) (r:List (AI×Nat)) (K:Tm→St→Prop) (bK:List St) (tm:Tm) (s:St):Prop:=
 match aZ o tm s with
 | some (d,s')=>gQ P K r (s::bK) (tm.put dst d) s'
 | none=>False
def AO.core:AO→Bool
 | .alloc _=>true
 | .box _=>true
 | .uK .. =>true
 | .Aj _=>true
 | .store .. =>true
 | .app .. =>true
 | .sO .. =>true
 | .Ak .. =>true
 | .Al .. =>true
 | .apps .. =>true
 | .ug=>true
 | .yw .. =>true
 | .E9 .. =>true
 | _=>false
theorem s6 (dst:Option Nat) (g:Option (Nat×Bool)) (o:AO):gP (AI.op dst g o).kind=o.core:=by
 cases dst <;> cases g <;> cases o <;> rfl
def OL (P:Program) (o:AO) (dst:Option Nat) (b:Nat) (r:List (AI×Nat)) (K:Tm→St→Prop) (bK:List St) (tm:Tm) (s:St):Prop:=
 match o.core with
 | true=>ML P o dst r K bK tm s
 | false=>PL P o dst b r K bK tm s
theorem I0 {K:Tm→St→Prop} {dst:Option Nat} {o:AO} {b:Nat} {r:List (AI×Nat)} {bK:List St} {tm:Tm} {s:St} (h:OL P o dst b r K bK tm s) :
 gQ P K ((.op dst none o,b)::r) bK tm s:=by
 unfold OL at h
 simp only [gQ,s6]
 cases hc:o.core with
 | true=>
  simp only [hc,ML]at h
  simp only []
  split at h
  ·rename_i d s' he
   exact⟨d,s',by simpa [sy,guarded]using he,h⟩
  ·exact h.elim
 | false=>
  simp only [hc,PL]at h
  simp only []
  split at h
  ·rename_i d s' he
   exact⟨d,by simp [jx,he],fun _=>DL h.1,h.2⟩
  ·exact h.elim
theorem Nk {K:Tm→St→Prop} {dst:Option Nat} {f:Nat} {xs:List X} {b:Nat} {r:List (AI×Nat)} {bK:List St} {tm:Tm} {s:St} (h:CL P f (xs.map (·.ev tm)) s (KL P K r (s::bK) tm dst)) :
 gQ P K ((.call dst none f xs,b)::r) bK tm s:=by
 obtain⟨d,s',h1,h2⟩:=h
 exact⟨d,s',h1,h2⟩
theorem abg {K:Tm→St→Prop} {i:AI} {t:Nat} {w:Bool} {b:Nat} {r:List (AI×Nat)} {bK:List St} {tm:Tm} {s:St} {j:AI} (hf:(∃ d o,i = .op d none o∧j = .op d (some (t,w)) o)∨(∃ d f xs,i = .call d none f xs∧j = .call d (some (t,w)) f xs))
 (hg:tm.get t = .bool w) (h:gQ P K ((i,b)::r) bK tm s):gQ P K ((j,b)::r) bK tm s:=by
 rcases hf with ⟨d,o,rfl,rfl⟩ | ⟨d,f,xs,rfl,rfl⟩
 ·simp only [gQ,s6]at h ⊢
  cases hc:o.core <;> simp only [hc]at h ⊢
  ·obtain⟨x,h1,h2,h3⟩:=h
   refine⟨x,by simpa [jx,hg]using h1,fun hk s' la=> ?_,h3⟩
   have tL:(AI.op d none o).kind = .load:=by
    cases d <;> cases o <;> first | exact hk | (cases hc;done) | (cases hk;done)
   simpa [jx,hg]using h2 tL s' la
  ·obtain⟨x,s',h1,h2⟩:=h
   exact⟨x,s',by simpa [sy,guarded,hg]using h1,h2⟩
 ·obtain⟨x,s',h1,h2⟩:=h
  exact⟨x,s',by simpa [sy,guarded,hg]using h1,h2⟩
theorem Qt {K:Tm→St→Prop} {i:AI} {t:Nat} {w:Bool} {b:Nat} {r:List (AI×Nat)} {bK:List St} {tm:Tm} {s:St} {j:AI} (hf:(∃ d o,i = .op d none o∧j = .op d (some (t,w)) o)∨(∃ d f xs,i = .call d none f xs∧j = .call d (some (t,w)) f xs))
 (hg:tm.get t = .bool (!w)∨∃ l,tm.get t = .tuple l) (h:gQ P K r (if gP i.kind then s::bK else bK) (tm.put i.dst (.tuple [])) s):gQ P K ((j,b)::r) bK tm s:=by
 rcases hf with ⟨d,o,rfl,rfl⟩ | ⟨d,f,xs,rfl,rfl⟩
 ·simp only [gQ,s6]at h ⊢
  cases hc:o.core <;> simp only [hc]at h ⊢
  ·refine⟨.tuple [], ?_,fun hk s' la=> ?_,h⟩
   ·rcases hg with hg | ⟨l,hg⟩ <;> simp [jx,hg]
   ·rcases hg with hg | ⟨l,hg⟩ <;> simp [jx,hg]
  ·refine⟨.tuple [],s, ?_,h⟩
   rcases hg with hg | ⟨l,hg⟩ <;> simp [sy,guarded,hg]
 ·refine⟨.tuple [],s, ?_,h⟩
  rcases hg with hg | ⟨l,hg⟩ <;> simp [sy,guarded,hg]
theorem LJ {K:Tm→St→Prop} {i j:AI} {t:Nat} {w:Bool} {b:Nat} {r:List (AI×Nat)} {bK:List St} {tm:Tm} {s:St} (hf:(∃ d o,i = .op d none o∧j = .op d (some (t,w)) o)∨(∃ d f xs,i = .call d none f xs∧j = .call d (some (t,w)) f xs))
 (h:GL P (tm.get t) w i b r K bK tm s):gQ P K ((j,b)::r) bK tm s:=by
 unfold GL at h
 split at h
 ·rename_i v hv
  by_cases e:v=w
  ·exact abg hf (by rw [hv,e]) (h.1 e)
  ·exact Qt hf (.inl (by rw [hv];cases v <;> cases w <;> simp_all)) (h.2 (by cases v <;> cases w <;> simp_all))
 ·rename_i l hl
  exact Qt hf (.inr ⟨l,hl⟩) h
 ·exact h.elim
theorem Gn {K:Tm→St→Prop} {dst:Option Nat} {o:AO} {t:Nat} {w:Bool} {b:Nat} {r:List (AI×Nat)} {bK:List St} {tm:Tm} {s:St} (h:GL P (tm.get t) w (.op dst none o) b r K bK tm s) :
 gQ P K ((.op dst (some (t,w)) o,b)::r) bK tm s:=LJ (.inl ⟨dst,o,rfl,rfl⟩) h
theorem KP {K:Tm→St→Prop} {dst:Option Nat} {f:Nat} {xs:List X} {t:Nat} {w:Bool} {b:Nat} {r:List (AI×Nat)} {bK:List St} {tm:Tm} {s:St} (h:GL P (tm.get t) w (.call dst none f xs) b r K bK tm s) :
 gQ P K ((.call dst (some (t,w)) f xs,b)::r) bK tm s:=LJ (.inr ⟨dst,f,xs,rfl,rfl⟩) h
theorem CU {f:Nat} {args:List D} {s:St} {d:D} {s':St} {K:D→St→Prop} (h:aB P f args s d s') (hk:K d s'):CL P f args s K:=⟨d,s',h,hk⟩
end
end Go.Abs

/-! Wp -/

namespace Go.Abs
theorem nd {α:Type} {a b:α} (h:a=b):a=b:=h
def GJ (g:D) (w:Bool) (A C:Prop):Prop:=
 match g with
 | .bool b=>(b=w→A)∧(b=(!w)→C)
 | .tuple _=>C
 | _=>False
class Two where
 a:Prop
 c:Prop
def CB (d:D) [b:Two] : Prop:=um d b.a b.c
def GB (d:D) (w:Bool) [b:Two] : Prop:=GJ d w b.a b.c
def mK (g:Option (Nat×Bool)) (tm:Tm) (A C:Prop):Prop:=
 match g with
 | none=>A
 | some (t,w)=>GJ (tm.get t) w A C
def jQ (P:Program):List AI→(Tm→St→Prop)→Tm→St→Prop
 | [],K,tm,s=>K tm s
 | .op dst g o::r,K,tm,s=>mK g tm (match aZ o tm s with | some (d,s')=>jQ P r K (tm.put dst d) s' | none=>False) (jQ P r K (tm.put dst (.tuple [])) s)
 | .call dst g f xs::r,K,tm,s=>mK g tm (CL P f (xs.map (·.ev tm)) s fun d s'=>jQ P r K (tm.put dst d) s') (jQ P r K (tm.put dst (.tuple [])) s)
 | .nil dst g neg x::r,K,tm,s=>
  mK g tm (match x.ev tm with
   | .slice _ _ rows=>∀ b:Bool,(rows≠ []→b=false)→jQ P r K (tm.put dst (.bool (if neg then !b else b))) s
   | _=>False) (jQ P r K (tm.put dst (.tuple [])) s)
 | .jb dst g t xs::r,K,tm,s=>
  mK g tm (match tm.get t with
   | .gj f ny=>enters P f=true∧CL P f (xs.map (·.ev tm)++ny) s fun d s'=>jQ P r K (tm.put dst d) s'
   | _=>False) (jQ P r K (tm.put dst (.tuple [])) s)
theorem sE {g:Option (Nat×Bool)} {tm:Tm} {A C A' C':Prop} (h:mK g tm A C) (ha:A→A') (hc:C→C'):guarded g tm A' C':=by
 unfold mK at h
 unfold guarded
 cases g with
 | none=>exact ha h
 | some p=>
  obtain⟨t,w⟩:=p
  simp only [GJ]at h ⊢
  split at h
  ·rename_i hb;try simp only [hb]
   exact⟨fun e=>ha (h.1 e),fun e=>hc (h.2 e)⟩
  ·rename_i hb;try simp only [hb]
   exact hc h
  ·exact h.elim
theorem n3 {P:Program} {K:Tm→St→Prop} : ∀ {is:List AI} {tm:Tm} {s:St},jQ P is K tm s→iM P is K tm s
 | [],tm,s,h=>h
 | .op dst g o::r,tm,s,h=>by
  refine sE h (fun h=> ?_) n3
  split at h
  ·rename_i he;try simp only [he]
   exact n3 h
  ·exact h.elim
 | .call dst g f xs::r,tm,s,h=>sE h (fun⟨d,s',h1,h2⟩=>h1.use (n3 h2)) n3
 | .nil dst g neg x::r,tm,s,h=>by
  refine sE h (fun h=> ?_) n3
  split at h
  ·rename_i he;try simp only [he]
   exact fun b hb=>n3 (h b hb)
  ·exact h.elim
 | .jb dst g t xs::r,tm,s,h=>by
  refine sE h (fun h=> ?_) n3
  split at h
  ·rename_i he;try simp only [he]
   obtain⟨h0,d,s',h1,h2⟩:=h
   exact⟨h0,h1.use (n3 h2)⟩
  ·exact h.elim
def gp (P:Program) (K:Tm→St→Prop):List (AI×Nat)→List St→Tm→St→Prop
 | [],_,tm,s=>K tm s
 | (.op dst g o,b)::r,bK,tm,s=>
  match o.core with
  | true=>mK g tm (match aZ o tm s with | some (d,s')=>gp P K r (s::bK) (tm.put dst d) s' | none=>False) (gp P K r (s::bK) (tm.put dst (.tuple [])) s)
  | false=>mK g tm (match aZ o tm s with | some (d,_)=>nU (.op dst none o) tm d (bK.take b)∧gp P K r bK (tm.put dst d) s | none=>False) (gp P K r bK (tm.put dst (.tuple [])) s)
 | (.call dst g f xs,_)::r,bK,tm,s=>mK g tm (CL P f (xs.map (·.ev tm)) s fun d s'=>gp P K r (s::bK) (tm.put dst d) s') (gp P K r (s::bK) (tm.put dst (.tuple [])) s)
 | (.nil ..,_)::_,_,_,_=>False
 | (.jb ..,_)::_,_,_,_=>False
theorem AX {P:Program} {t:Nat} {w:Bool} {tm:Tm} {i:AI} {b:Nat} {r:List (AI×Nat)} {K:Tm→St→Prop} {bK:List St} {s:St} {A C:Prop} (h:mK (some (t,w)) tm A C) (ha:A→gQ P K ((i,b)::r) bK tm s)
 (hc:C→gQ P K r (if gP i.kind then s::bK else bK) (tm.put i.dst (.tuple [])) s):GL P (tm.get t) w i b r K bK tm s:=by
 simp only [mK,GJ]at h
 unfold GL
 split at h
 ·rename_i hb;try simp only [hb]
  exact⟨fun e=>ha (h.1 e),fun e=>hc (h.2 e)⟩
 ·rename_i hb;try simp only [hb]
  exact hc h
 ·exact h.elim
theorem l8 {P:Program} {K:Tm→St→Prop} : ∀ {l:List (AI×Nat)} {bK:List St} {tm:Tm} {s:St},gp P K l bK tm s→gQ P K l bK tm s
 | [],bK,tm,s,h=>h
 | (.op dst g o,b)::r,bK,tm,s,h=>by
  simp only [gp]at h
  cases hc:o.core with
  | true=>
   simp only [hc]at h
   have ha:(match aZ o tm s with | some (d,s')=>gp P K r (s::bK) (tm.put dst d) s' | none=>False)→gQ P K ((.op dst none o,b)::r) bK tm s:=by
    intro h
    refine I0 ?_
    simp only [OL,hc,ML]
    split at h
    ·rename_i he;try simp only [he]
     exact l8 h
    ·exact h.elim
   cases g with
   | none=>exact ha h
   | some p=>
    obtain⟨t,w⟩:=p
    refine Gn (AX h ha fun h=> ?_)
    simp only [s6,hc,if_true]
    exact l8 h
  | false=>
   simp only [hc]at h
   have ha:(match aZ o tm s with | some (d,_)=>nU (.op dst none o) tm d (bK.take b)∧gp P K r bK (tm.put dst d) s | none=>False)→gQ P K ((.op dst none o,b)::r) bK tm s:=by
    intro h
    refine I0 ?_
    simp only [OL,hc,PL]
    split at h
    ·rename_i he;try simp only [he]
     exact⟨h.1,l8 h.2⟩
    ·exact h.elim
   cases g with
   | none=>exact ha h
   | some p=>
    obtain⟨t,w⟩:=p
    refine Gn (AX h ha fun h=> ?_)
    simp only [s6,hc]
    exact l8 h
 | (.call dst g f xs,b)::r,bK,tm,s,h=>by
  simp only [gp]at h
  have ha:(CL P f (xs.map (·.ev tm)) s fun d s'=>gp P K r (s::bK) (tm.put dst d) s')→gQ P K ((.call dst none f xs,b)::r) bK tm s:=
   fun⟨d,s',h1,h2⟩=>Nk ⟨d,s',h1,l8 h2⟩
  cases g with
  | none=>exact ha h
  | some p=>
   obtain⟨t,w⟩:=p
   exact KP (AX h ha fun h=>l8 h)
 | (.nil ..,_)::_,bK,tm,s,h=>h.elim
 | (.jb ..,_)::_,bK,tm,s,h=>h.elim
section
variable {P:Program} {B:fz} {nt:Nat}
def gD (P:Program) (B:fz) (nt:Nat):AC→(Exit→Tm→St→Prop)→Tm→St→Prop
 | .skip,Q,tm,s=>Q .normal tm s
 | .run is,Q,tm,s=>jQ P is (Q .normal) tm s
 | .par is lC,Q,tm,s=>match mJ is lC with | some l=>gp P (Q .normal) l [] tm s | none=>False
 | .seq a b,Q,tm,s=>gD P B nt a (jv (gD P B nt b Q) Q) tm s
 | .cond x a b,Q,tm,s=>um (x.ev tm) (gD P B nt a Q tm s) (gD P B nt b Q tm s)
 | .block id a,Q,tm,s=>gD P B nt a (gK id Q) tm s
 | .loop a,Q,tm,s=>bh P B nt a Q tm s
 | .exit id,Q,tm,s=>Q (.exit id) tm s
 | .scope a,Q,tm,s=>n7 P B nt a a Q tm s
 | .label _,Q,tm,s=>Q .normal tm s
 | .goto l,Q,tm,s=>Q (.goto l) tm s
 | .ret,Q,tm,s=>Q .ret tm s
theorem iz : ∀ {ac:AC} {Q:Exit→Tm→St→Prop} {tm:Tm} {s:St},gD P B nt ac Q tm s→Sem P B nt ac Q tm s:=by
 intro ac
 induction ac with
 | skip=>exact fun h=>Sem.skip h
 | run is=>exact fun h=>Sem.run (n3 h)
 | par is lC=>
  intro Q tm s h
  simp only [gD]at h
  split at h
  ·exact Sem.aiL ‹_› (l8 h)
  ·exact h.elim
 | seq a b Qd Qe=>
  intro Q tm s h
  refine Sem.seq ((Qd h).mono fun e tm s hq=> ?_)
  cases e with
  | normal=>exact Qe hq
  | _=>exact hq
 | cond x a b Qd Qe=>
  intro Q tm s h
  refine Sem.afg ?_
  simp only [gD]at h
  unfold um at h ⊢
  split at h
  ·exact⟨fun e=>Qd (h.1 e),fun e=>Qe (h.2 e)⟩
  ·exact h.elim
 | block id a ih=>exact fun h=>Sem.block (ih h)
 | loop a ih=>exact fun h=>Sem.loop h
 | exit id=>exact fun h=>Sem.exit h
 | scope a ih=>exact fun h=>Sem.scope h
 | label l=>exact fun h=>Sem.label h
 | goto l=>exact fun h=>Sem.goto h
 | ret=>exact fun h=>Sem.ret h
section
variable (Q:Exit→Tm→St→Prop) (N:Tm→St→Prop) (tm:Tm) (s:St) (a b:AC) (is:List AI) (x:X)
theorem Ty:gD P B nt .skip Q tm s=Q .normal tm s:=nd rfl
theorem Yu:gD P B nt (.run is) Q tm s=jQ P is (Q .normal) tm s:=nd rfl
theorem Yv (lC:List (Nat×Nat)):gD P B nt (.par is lC) Q tm s=match mJ is lC with | some l=>gp P (Q .normal) l [] tm s | none=>False:=nd rfl
theorem Yw:gD P B nt (.seq a b) Q tm s=gD P B nt a (jv (gD P B nt b Q) Q) tm s:=nd rfl
theorem Tz:gD P B nt (.cond x a b) Q tm s = @CB (x.ev tm) ⟨gD P B nt a Q tm s,gD P B nt b Q tm s⟩:=nd rfl
theorem Qu (id:Nat):gD P B nt (.block id a) Q tm s=gD P B nt a (gK id Q) tm s:=nd rfl
theorem TA:gD P B nt (.loop a) Q tm s=bh P B nt a Q tm s:=nd rfl
theorem Qv:gD P B nt (.scope a) Q tm s=n7 P B nt a a Q tm s:=nd rfl
theorem TB (id:Nat):gD P B nt (.exit id) Q tm s=Q (.exit id) tm s:=nd rfl
theorem Qw (id:Nat):gD P B nt (.label id) Q tm s=Q .normal tm s:=nd rfl
theorem TC (id:Nat):gD P B nt (.goto id) Q tm s=Q (.goto id) tm s:=nd rfl
theorem Yx:gD P B nt .ret Q tm s=Q .ret tm s:=nd rfl
theorem Yy:jv N Q .normal tm s=N tm s:=nd rfl
theorem Yz:jv N Q .ret tm s=Q .ret tm s:=nd rfl
theorem YA (id:Nat):jv N Q (.exit id) tm s=Q (.exit id) tm s:=nd rfl
theorem YB (id:Nat):jv N Q (.goto id) tm s=Q (.goto id) tm s:=nd rfl
theorem TD (id:Nat):gK id Q .normal tm s=Q .normal tm s:=nd rfl
theorem TE (id:Nat):gK id Q .ret tm s=Q .ret tm s:=nd rfl
theorem TF (id l:Nat):gK id Q (.goto l) tm s=Q (.goto l) tm s:=nd rfl
theorem TG (id i:Nat):gK id Q (.exit i) tm s=if i=id then Q .normal tm s else Q (.exit i) tm s:=nd rfl
end
theorem bh.o7 {a:AC} {Q:Exit→Tm→St→Prop} {tm:Tm} {s:St} (h:gD P B nt a (jv (bh P B nt a Q) Q) tm s):bh P B nt a Q tm s:=bh.once (iz h)
theorem n7.o7 {a r:AC} {Q:Exit→Tm→St→Prop} {tm:Tm} {s:St} (h:gD P B nt r (jM P B nt a Q) tm s):n7 P B nt a r Q tm s:=n7.once (iz h)
def tX (tm:Tm) (n m:Nat):Tm→Prop
 | []=>True
 | (k,d)::r=>Wk ((tm.get k).fg n m) d∧tX tm n m r
theorem tX.get {tm:Tm} {n m:Nat} : ∀ {bB:Tm},tX tm n m bB→∀ t,Wk ((tm.get t).fg n m) (bB.get t)
 | [],_,t=>Wk.junk _
 | (k,d)::r,h,t=>by
  simp only [Tm.get]
  split
  ·rename_i hk;subst hk;exact h.1
  ·exact tX.get h.2 t
theorem Holds.re {Q:Exit→Tm→St→Prop} {tm bB:Tm} {s:St} {dW:List (List D)} {act:Act} {w:World} (n m:Nat) (hn:B.s.aw.length≤n) (hm:B.s.aA.length≤m) (ht:tX tm n m bB) (ho:hO (s.cut n m).aw dW)
 (h:Holds B nt tm s act w):Holds B nt bB ⟨dW,(s.cut n m).aA⟩ act w:=by
 obtain⟨M,e,r,hr,h1,h2⟩:=h
 obtain⟨r',le⟩:=(r.cut n m).AS ho
 have e':=e.cut hn hm
 refine⟨M,e'.trans ⟨le,fun _ _ _ _=>rfl,fun o h1 h2=> ?_,fun t b c z hl e=> .inl ⟨hl,c,z,e⟩,fun _ _ h=>(h rfl).elim,Nat.le_refl _,rfl,rfl,rfl⟩,r',fun k=>((ht.get k) _ _ _ ((hr k).fg n m)).mono le,h1,h2⟩
 rw [← ho.len]at h2
 exact h1.elim (fun h1=>absurd h2 (Nat.not_lt.2 h1)) fun h1=>(h1 rfl).elim
theorem bh.re {a:AC} {Q:Exit→Tm→St→Prop} {tm:Tm} {s:St} (bB:Tm) (dW:List (List D)) (n m:Nat) (hn:B.s.aw.length≤n) (hm:B.s.aA.length≤m) (ht:tX tm n m bB) (ho:hO (s.cut n m).aw dW)
 (h:bh P B nt a Q bB ⟨dW,(s.cut n m).aA⟩):bh P B nt a Q tm s:=
 fun c hc act w hh=>h c hc act w (hh.re (Q:=Q) n m hn hm ht ho)
theorem n7.re {a r:AC} {Q:Exit→Tm→St→Prop} {tm:Tm} {s:St} (bB:Tm) (dW:List (List D)) (n m:Nat) (hn:B.s.aw.length≤n) (hm:B.s.aA.length≤m) (ht:tX tm n m bB) (ho:hO (s.cut n m).aw dW)
 (h:n7 P B nt a r Q bB ⟨dW,(s.cut n m).aA⟩):n7 P B nt a r Q tm s:=
 fun c rest hc hr act w hh=>h c rest hc hr act w (hh.re (Q:=Q) n m hn hm ht ho)
theorem bh.ind {ι:Type} {a:AC} {Q:Exit→Tm→St→Prop} (I:ι→Prop) (μ:ι→Nat) (TM:ι→Tm) (ST:ι→St)
 (step : ∀ i,I i→(∀ j,I j→μ j<μ i→bh P B nt a Q (TM j) (ST j))→gD P B nt a (jv (bh P B nt a Q) Q) (TM i) (ST i)) : ∀ i,I i→bh P B nt a Q (TM i) (ST i):=by
 have key : ∀ n i,μ i<n→I i→bh P B nt a Q (TM i) (ST i):=by
  intro n
  induction n with
  | zero=>intro i h;exact absurd h (Nat.not_lt_zero _)
  | succ n ih=>exact fun i h hi=>bh.o7 (step i hi fun j hj hF=>ih j (by omega) hj)
 exact fun i hi=>key (μ i+1) i (Nat.lt_succ_self _) hi
theorem drop_cons {α:Type} {l rest:List α} {k:Nat} {x:α} (h:l.drop k=x::rest):l[k]? = some x∧l.drop (k+1)=rest∧decide ((k:Int)<(l.length:Int))=true∧k<l.length:=by
 have h1:l[k]? = some x:=by
  have:(l.drop k)[0]? = some x:=by rw [h];rfl
  simpa using this
 have h2:=(List.getElem?_eq_some_iff.1 h1).1
 refine⟨h1, ?_,by simpa using h2,h2⟩
 have:l.drop (k+1)=(l.drop k).drop 1:=by rw [List.drop_drop]
 rw [this,h];rfl
theorem drop_nil {α:Type} {l:List α} {k:Nat} (h:l.drop k = []):decide ((k:Int)<(l.length:Int))=false:=by
 have:=List.drop_eq_nil_iff.1 h
 simp;omega
theorem bh.l6 {a:AC} {Q:Exit→Tm→St→Prop} {tm:Tm} {s:St} (t z':Nat) {z:Nat} (hw:tm.get t = .slice .full z [])
 (h:bh P B nt a Q (tm.set t (.slice (.tok s.aA.length) z' [])) {s with aA:=s.aA++ [some 0]}):bh P B nt a Q tm s:=by
 intro c hc act w ⟨M,e,r,ht,h1,h2⟩
 obtain⟨r',le⟩:=r.blank
 refine h c hc act w ⟨_,AT e le,r',fun k=> ?_,h1,h2⟩
 rw [Tm.BD]
 split
 ·rename_i hk;subst hk;have:=ht k;rw [hw]at this;exact this.own
 ·exact(ht k).mono le
theorem bh.rY {a:AC} {Q:Exit→Tm→St→Prop} {tm:Tm} {s:St} (o i z':Nat) {z:Nat} {cs:List D} (hc:s.aw[o]? = some cs) (hi:cs[i]? = some (.slice .full z []))
 (h:bh P B nt a Q tm ⟨s.aw.set o (cs.set i (.slice (.tok s.aA.length) z' [])),s.aA++ [some 0]⟩):bh P B nt a Q tm s:=by
 intro c hcc act w hh
 obtain⟨M,e,r,ht,h1,h2⟩:=hh
 obtain⟨r',le⟩:=r.blank
 have le':Le M s (M.eW s.aA.length none) ⟨s.aw.set o (cs.set i (.slice (.tok s.aA.length) z' [])),s.aA++ [some 0]⟩:=⟨le.G,by simp,le.loc,le.t,le.tk⟩
 have le2:Le (M.eW s.aA.length none) {s with aA:=s.aA++ [some 0]} (M.eW s.aA.length none) ⟨s.aw.set o (cs.set i (.slice (.tok s.aA.length) z' [])),s.aA++ [some 0]⟩:=
  ⟨fun _ _ _ h=>h,by simp,fun _ _=> .refl _,Nat.le_refl _,fun t n' _ e=>⟨n',e,Nat.le_refl _,fun _=>rfl⟩⟩
 have r2:Rel (M.eW s.aA.length none) ⟨s.aw.set o (cs.set i (.slice (.tok s.aA.length) z' [])),s.aA++ [some 0]⟩ w:=by
  refine⟨r'.comm,fun o' ds e=> ?_,fun o ho=>r'.jr o (by simpa using ho),fun o o' ho nr=>r'.inj o o' (by simpa using ho) (by simpa using nr),r'.tok,
   fun t b c z o hv e ho=>r'.eY t b c z o hv e (by simpa using ho),r'.fZ⟩
  simp only [List.getElem?_set]at e
  split at e
  ·rename_i ho
   subst ho
   split at e
   ·cases e
    obtain⟨vs,T,g1,g2,g3,g4⟩:=r.obj o cs hc
    refine⟨vs,T,g1,by simpa using g2,g3,fun j d v e1 e2=> ?_⟩
    rw [List.getElem?_set]at e1
    split at e1
    ·rename_i hj
     subst hj
     split at e1
     ·cases e1
      exact((g4 i _ v hi e2).own (z':=z')).mono le2
     ·cases e1
    ·exact(g4 j d v e1 e2).mono le'
   ·cases e
  ·obtain⟨vs,T,g1,g2,g3,g4⟩:=r'.obj o' ds e
   exact⟨vs,T,g1,g2,g3,fun i d v e1 e2=>(g4 i d v e1 e2).mono le2⟩
 have ee:Ext B.M B.s B.w (M.eW s.aA.length none) ⟨s.aw.set o (cs.set i (.slice (.tok s.aA.length) z' [])),s.aA++ [some 0]⟩ w:=by
  refine(AT e le).trans ⟨le2,fun _ _ _ _=>rfl,fun o h1 h2=> ?_,fun t b c z hl e=> .inl ⟨hl,c,z,e⟩,fun _ _ h=>(h rfl).elim,Nat.le_refl _,rfl,rfl,rfl⟩
  simp at h2
  exact h1.elim (fun h1=>absurd h2 (Nat.not_lt.2 h1)) fun h1=>(h1 rfl).elim
 exact h c hcc act w ⟨_,ee,r2,fun k=>(ht k).mono le',h1,h2⟩
theorem cj {ac r:AC} {l:Nat} {Q:Exit→Tm→St→Prop} {tm:Tm} {s:St} (hf:sx ac l=some r) (h:gD P B nt r (jM P B nt ac Q) tm s):jM P B nt ac Q (.goto l) tm s:=⟨r,hf,n7.o7 h⟩
theorem TH {ac r:AC} {l:Nat} {Q:Exit→Tm→St→Prop} {tm:Tm} {s:St} (hf:sx ac l=some r) (h:n7 P B nt ac r Q tm s):jM P B nt ac Q (.goto l) tm s:=⟨r,hf,h⟩
theorem Sem.kE {a b:AC} {Q:Exit→Tm→St→Prop} {tm:Tm} {s:St} (h:gD P B nt a (jv (Sem P B nt b Q) Q) tm s):Sem P B nt (.seq a b) Q tm s:=Sem.seq (iz h)
theorem Sem.re {a:AC} {Q:Exit→Tm→St→Prop} {tm:Tm} {s:St} (bB:Tm) (dW:List (List D)) (n m:Nat) (hn:B.s.aw.length≤n) (hm:B.s.aA.length≤m) (ht:tX tm n m bB) (ho:hO (s.cut n m).aw dW)
 (h:Sem P B nt a Q bB ⟨dW,(s.cut n m).aA⟩):Sem P B nt a Q tm s:=
 fun c hc act w hh=>h c hc act w (hh.re (Q:=Q) n m hn hm ht ho)
def Has (P:Program) (f nt:Nat) (res:List (Nat×Option (Bool×Nat))) (body:AC):Prop:=∃ fn,P.funcs[f]? = some fn∧cF P fn=some ⟨nt,res,body⟩
theorem aB.go {f:FuncId} {res:List (Nat×Option (Bool×Nat))} {body:AC} {args:List D} {s:St} {d:D} {s':St} (h0:Has P f nt res body) (hl:Nat.ble args.length nt=true)
 (h : ∀ (B:fz) (Q:Exit→Tm→St→Prop),B.s=s→iP s.aw.length s.aA.length res d s'=Q→gD P B nt body Q (oh 0 args) s):aB P f args s d s':=by
 obtain⟨fn,hf,hc⟩:=h0
 exact aB.intro ⟨fn,hf,hc⟩ (Nat.le_of_ble_eq_true hl) fun B hB=>iz (h B _ hB rfl)
theorem aB.afj {f:FuncId} {args row ja:List D} {rows lq:List (List D)} {z z' k k':Nat} (h:aB P f (.ptr 0 0:: .slice (.tok 0) z rows::args) ⟨[row],[some k]⟩ (.slice (.tok 0) z' lq) ⟨[ja],[some k']⟩)
 (ha:D.bp 0 0 args=true) (hr:D.bp 0 0 row=true) (Iv:D.bp 0 0 ja=true) (hw:D.gZ 0 0 rows=true) (Qx:D.gZ 0 0 lq=true)
 {s:St} {o t:Nat} (ho:s.aw[o]? = some row) (ht:s.aA[t]? = some (some k)):aB P f (.ptr o 0:: .slice (.tok t) z rows::args) s (.slice (.tok t) z' lq) ⟨s.aw.set o ja,s.aA.set t (some k')⟩:=by
 refine ew.frame [o] [t] h (by simp) (by simp) (by simpa using (List.getElem?_eq_some_iff.1 ho).1) (by simpa using (List.getElem?_eq_some_iff.1 ht).1) rfl (fun i o' ds e1 e2=> ?_) rfl (fun i t' e1=> ?_)
  (by simp [D.dY,D.cm,Tag.cm,eZ _ _ _ ha,iV _ _ _ hw])
  (by simp [D.bp,D.ok,Tag.ok,ib (Nat.zero_le 1) (Nat.zero_le 1) _ ha,l7 (Nat.zero_le 1) (Nat.zero_le 1) _ hw]) ?_
 ·cases i with
  | zero=>simp at e1 e2;subst e1;subst e2;exact⟨by rw [eZ _ _ _ hr];exact ho,ib (Nat.zero_le 1) (Nat.zero_le 1) _ hr⟩
  | succ i=>simp at e1
 ·cases i with
  | zero=>simp at e1;subst e1;simp [ht]
  | succ i=>simp at e1
 ·rintro _ _ ⟨rfl,rfl⟩
  refine⟨by simp [D.back,D.cm,Tag.cm,jn,iV _ _ _ Qx], ?_⟩
  simp [St.back,jO,eZ _ _ _ Iv]
theorem aB.abj {f:FuncId} {pre post:List D} {rows lq:List (List D)} {z z' k k':Nat} (h:aB P f (pre++ .slice (.tok 0) z rows::post) ⟨[],[some k]⟩ (.slice (.tok 0) z' lq) ⟨[],[some k']⟩)
 (hp:D.bp 0 0 pre=true) (ha:D.bp 0 0 post=true) (hw:D.gZ 0 0 rows=true) (Qx:D.gZ 0 0 lq=true)
 {s:St} {t:Nat} (ht:s.aA[t]? = some (some k)):aB P f (pre++ .slice (.tok t) z rows::post) s (.slice (.tok t) z' lq) ⟨s.aw,s.aA.set t (some k')⟩:=by
 refine ew.frame [] [t] h (by simp) (by simp) (by simp) (by simpa using (List.getElem?_eq_some_iff.1 ht).1) rfl (fun i o' ds e1 e2=>by simp at e1) rfl (fun i t' e1=> ?_)
  ?_ ?_ ?_
 ·cases i with
  | zero=>simp at e1;subst e1;simp [ht]
  | succ i=>simp at e1
 ·have h1:=eZ [] [t] _ hp
  have h2:=eZ [] [t] _ ha
  rw [fR]at h1 h2
  simp [fR,D.cm,Tag.cm,h1,h2,iV _ _ _ hw]
 ·have h1:=ib (n':=0) (m':=1) (Nat.le_refl 0) (Nat.zero_le 1) _ hp
  have h2:=ib (n':=0) (m':=1) (Nat.le_refl 0) (Nat.zero_le 1) _ ha
  rw [xM]at h1 h2 ⊢
  simp only [List.length_nil,List.length_cons,List.all_append,h1,Bool.true_and,List.all_cons,h2,Bool.and_true,D.ok,Tag.ok,l7 (Nat.zero_le 0) (Nat.zero_le 1) _ hw]
  rfl
 ·rintro _ _ ⟨rfl,rfl⟩
  refine⟨by simp [D.back,D.cm,Tag.cm,jn,iV _ _ _ Qx], ?_⟩
  simp [St.back,jO]
theorem aiO (A C:Prop) : @CB (.bool true) ⟨A,C⟩=A:=by simp [CB,um]
theorem aiP (A C:Prop) : @CB (.bool false) ⟨A,C⟩=C:=by simp [CB,um]
theorem abk (b:Bool) (A C:Prop) : @CB (.bool (!b)) ⟨A,C⟩ = @CB (.bool b) ⟨C,A⟩:=by
 cases b <;> simp [CB,um]
theorem I1 {b:Bool} {A C:Prop} (h1:b=true→A) (h2:b=false→C) : @CB (.bool b) ⟨A,C⟩:=⟨h1,h2⟩
theorem abl {b:Bool} {A C:Prop} (h:b=true) (h1:b=true→A) : @CB (.bool b) ⟨A,C⟩:=I1 h1 (fun h'=>by rw [h]at h';cases h')
theorem abm {b:Bool} {A C:Prop} (h:b=false) (h1:b=false→C) : @CB (.bool b) ⟨A,C⟩:=I1 (fun h'=>by rw [h]at h';cases h') h1
theorem afk {n m:Nat} {res:List (Nat×Option (Bool×Nat))} {d:D} {s':St} {tm:Tm} {s:St} {Q:Exit→Tm→St→Prop} (hQ:iP n m res d s'=Q)
 (h : ∃ l,ay res tm s=some l∧Wk ((az l).fg n m) d∧hO (s.cut n m).aw s'.aw∧(s.cut n m).aA=s'.aA):Q .ret tm s:=hQ ▸ h
theorem afl {n m:Nat} {res:List (Nat×Option (Bool×Nat))} {d:D} {s':St} {tm:Tm} {s:St} {Q:Exit→Tm→St→Prop} (hQ:iP n m res d s'=Q)
 (h : ∃ l,ay res tm s=some l∧Wk ((az l).fg n m) d∧hO (s.cut n m).aw s'.aw∧(s.cut n m).aA=s'.aA):Q .normal tm s:=hQ ▸ h
end
attribute [go_sem] Ty Yu Yv Yw Tz Qu TA Qv TB Qw TC Yx Yy Yz YA YB TD TE TF TG
theorem Qy : ∀ (tm:Tm) (s:St) (x:X),aZ (AO.mv x) tm s=some (X.ev tm x,s):=
 fun tm s x=>nd (aZ.eq_1 tm s x)
theorem Qz : ∀ (tm:Tm) (s:St) (c a b:X),
 aZ (AO.pick c a b) tm s =
  match X.ev tm c with
  | D.bool t=>some (if t=true then X.ev tm a else X.ev tm b,s)
  | x=>none:=
 fun tm s c a b=>nd (aZ.eq_2 tm s c a b)
theorem QA : ∀ (tm:Tm) (s:St) (zero:List D),
 aZ (AO.alloc zero) tm s=some (D.ptr s.aw.length 0,{aw:=s.aw++ [zero],aA:=s.aA}):=
 fun tm s zero=>nd (aZ.eq_3 tm s zero)
theorem QB : ∀ (tm:Tm) (s:St) (x:X),
 aZ (AO.box x) tm s =
  match (X.ev tm x).row with
  | some r=>some (D.ptr s.aw.length 0,{aw:=s.aw++ [r],aA:=s.aA})
  | none=>none:=
 fun tm s x=>nd (aZ.eq_4 tm s x)
theorem QC : ∀ (tm:Tm) (s:St) (zero:List D) (parts:List (Nat×Nat×X)),
 aZ (AO.build zero parts) tm s =
  match qJ zero (List.map (fun(p:Nat×Nat×X)=>(p.fst,p.snd.fst,X.ev tm p.snd.snd)) parts)with
  | some cs=>some (D.agg cs,s)
  | none=>none:=
 fun tm s zero parts=>nd (aZ.eq_5 tm s zero parts)
theorem QD : ∀ (tm:Tm) (s:St) (zero:List D) (size n:Nat) (parts:List (Nat×X)),
 aZ (AO.cQ zero size n parts) tm s =
  match jz size (gn zero n) (List.map (fun(p:Nat×X)=>(p.fst,X.ev tm p.snd)) parts)with
  | some rows=>some (D.slice Tag.full size rows,s)
  | none=>none:=
 fun tm s zero size n parts=>nd (aZ.eq_6 tm s zero size n parts)
theorem QE : ∀ (tm:Tm) (s:St) (zero:List D) (size n:Nat) (parts:List (Nat×X)),
 aZ (AO.uK zero size n parts) tm s =
  match jz size (gn zero n) (List.map (fun(p:Nat×X)=>(p.fst,X.ev tm p.snd)) parts)with
  | some rows=>
   some (D.slice (Tag.tok s.aA.length) size rows,{aw:=s.aw,aA:=s.aA++ [some rows.length]})
  | none=>none:=
 fun tm s zero size n parts=>nd (aZ.eq_7 tm s zero size n parts)
theorem QF : ∀ (tm:Tm) (s:St) (x:X),
 aZ (AO.Aj x) tm s =
  match X.ev tm x with
  | D.slice (Tag.tok t _) z rows=>
   if rows≠ []∧s.aA[t]? = some (some rows.length)then
    some (D.slice Tag.shared z rows,{aw:=s.aw,aA:=s.aA.set t none})
   else none
  | x=>none:=
 fun tm s x=>nd (aZ.eq_8 tm s x)
theorem QG : ∀ (tm:Tm) (s:St) (x:X) (agg:Bool) (size:Nat),
 aZ (AO.load x agg size) tm s =
  match X.ev tm x with
  | D.ptr o off=>
   match s.aw[o]? with
   | some cs=>
    match part cs off agg size with
    | some d=>some (d,s)
    | none=>none
   | none=>none
  | D.dG row off=>
   match part row off agg size with
   | some d=>some (d,s)
   | none=>none
  | x=>yy x agg size s:=
 fun tm s x agg size=>nd (aZ.eq_9 tm s x agg size)
theorem Nl : ∀ (tm:Tm) (s:St) (p x:X) (size:Nat),
 aZ (AO.store p x size) tm s =
  match X.ev tm p,(X.ev tm x).row with
  | D.ptr o off,some r=>
   match s.aw[o]? with
   | some cs=>
    if r.length=size∧off+size≤cs.length then
     some (D.tuple [],{aw:=s.aw.set o (fU cs off r),aA:=s.aA})
    else none
   | none=>none
  | x,fx=>Ao x fx size s:=
 fun tm s p x size=>nd (aZ.eq_10 tm s p x size)
theorem Nn : ∀ (tm:Tm) (s:St) (x:X),
 aZ (AO.dB x) tm s =
  match X.ev tm x with
  | D.ptr o off=>some (D.ptr o off,s)
  | D.dG row off=>some (D.dG row off,s)
  | x=>match Mm x with | some d=>some (d,s) | none=>none:=
 fun tm s x=>nd (aZ.eq_11 tm s x)
theorem No : ∀ (tm:Tm) (s:St) (op:BinOp) (x y:X),
 aZ (AO.bin op x y) tm s =
  match wK op (X.ev tm x) (X.ev tm y)with
  | some d=>some (d,s)
  | none=>none:=
 fun tm s op x y=>nd (aZ.eq_12 tm s op x y)
theorem Np : ∀ (tm:Tm) (s:St) (neg:Bool) (x y:X),
 aZ (AO.Cc neg x y) tm s =
  match X.ev tm x,X.ev tm y with
  | D.bool a,D.bool b=>some (D.bool (if neg=true then !a==b else a==b),s)
  | x,fx=>none:=
 fun tm s neg x y=>nd (aZ.eq_13 tm s neg x y)
theorem Nq : ∀ (tm:Tm) (s:St) (neg:Bool) (ks:List Nat) (x y:X),
 aZ (AO.eqs neg ks x y) tm s =
  match X.ev tm x,X.ev tm y with
  | D.agg a,D.agg b=>
   match kX ks a b with
   | some e=>some (D.bool (if neg=true then !e else e),s)
   | none=>none
  | x,fx=>none:=
 fun tm s neg ks x y=>nd (aZ.eq_14 tm s neg ks x y)
theorem Nr : ∀ (tm:Tm) (s:St) (neg:Bool) (x y:X),
 aZ (AO.F9 neg x y) tm s =
  match X.ev tm x,X.ev tm y with
  | D.eR,D.eR=>some (D.bool !neg,s)
  | D.ptr o off,D.eR=>some (D.bool neg,s)
  | D.dG row off,D.eR=>some (D.bool neg,s)
  | x,fx=>none:=
 fun tm s neg x y=>nd (aZ.eq_15 tm s neg x y)
theorem Ns : ∀ (tm:Tm) (s:St) (op:UnOp) (x:X),
 aZ (AO.un op x) tm s =
  match Ik op (X.ev tm x)with
  | some d=>some (d,s)
  | none=>none:=
 fun tm s op x=>nd (aZ.eq_16 tm s op x)
theorem Nt : ∀ (tm:Tm) (s:St) (k:IntKind) (x:X),
 aZ (AO.conv k x) tm s =
  match X.ev tm x with
  | D.int k_1 n=>some (D.int k (k.wrap n),s)
  | x=>none:=
 fun tm s k x=>nd (aZ.eq_17 tm s k x)
theorem Nu : ∀ (tm:Tm) (s:St) (x:X),
 aZ (AO.Dl x) tm s =
  match X.ev tm x with
  | D.slice g size rows=>
   match nZ rows with
   | some b=>some (D.str b,s)
   | none=>none
  | x=>none:=
 fun tm s x=>nd (aZ.eq_18 tm s x)
theorem Nv : ∀ (tm:Tm) (s:St) (x:X),
 aZ (AO.xy x) tm s =
  match X.ev tm x with
  | D.str l=>some (D.slice Tag.shared 1 (List.map (fun(c:UInt8)=> [D.int IntKind.u8 ↑c.toNat]) l),s)
  | x=>none:=
 fun tm s x=>nd (aZ.eq_19 tm s x)
theorem Nw : ∀ (tm:Tm) (s:St) (size:Nat) (x:X) (lo hi:Option X),
 aZ (AO.Ih size x lo hi) tm s =
  match X.ev tm x with
  | D.slice g z rows=>
   match vJ (Option.map (fun(x:X)=>X.ev tm x) lo),
    vK (Option.map (fun(x:X)=>X.ev tm x) hi) rows.length with
   | some l,some h=>
    if(rows = []∨z=size)∧0≤l∧l≤h∧h≤ ↑rows.length then
     some
      (D.slice (if l=0 then g.cut (decide (h = ↑rows.length))else Tag.shared) z
       (List.drop l.toNat (List.take h.toNat rows)),
       s)
    else none
   | x,fx=>none
  | x=>match Mn x (Option.map (fun(x:X)=>X.ev tm x) lo) (Option.map (fun(x:X)=>X.ev tm x) hi)with | some d=>some (d,s) | none=>none:=
 fun tm s size x lo hi=>nd (aZ.eq_20 tm s size x lo hi)
theorem Nx : ∀ (tm:Tm) (s:St) (x:X) (lo hi:Option X),
 aZ (AO.yv x lo hi) tm s =
  match X.ev tm x with
  | D.str t=>
   match vJ (Option.map (fun(x:X)=>X.ev tm x) lo),vK (Option.map (fun(x:X)=>X.ev tm x) hi) t.length with
   | some l,some h=>
    if 0≤l∧l≤h∧h≤ ↑t.length then some (D.str (List.drop l.toNat (List.take h.toNat t)),s)else none
   | x,fx=>none
  | x=>none:=
 fun tm s x lo hi=>nd (aZ.eq_21 tm s x lo hi)
theorem Ny : ∀ (tm:Tm) (s:St) (x:X) (off:Nat),
 aZ (AO.av x off) tm s =
  match X.ev tm x with
  | D.ptr o k=>some (D.ptr o (k+off),s)
  | D.dG row k=>some (D.dG row (k+off),s)
  | x=>match Dp x off with | some d=>some (d,s) | none=>none:=
 fun tm s x off=>nd (aZ.eq_22 tm s x off)
theorem Nz : ∀ (tm:Tm) (s:St) (x:X) (off:Nat) (agg:Bool) (size:Nat),
 aZ (AO.sN x off agg size) tm s =
  match X.ev tm x with
  | D.agg cs=>
   match part cs off agg size with
   | some d=>some (d,s)
   | none=>none
  | x=>none:=
 fun tm s x off agg size=>nd (aZ.eq_23 tm s x off agg size)
theorem NA : ∀ (tm:Tm) (s:St) (x i:X) (size:Nat),
 aZ (AO.b6 x i size) tm s =
  match X.ev tm x,X.ev tm i with
  | D.slice g z rows,D.int k n=>
   if 0≤n∧z=size then
    match rows[n.toNat]? with
    | some row=>some (D.dG row 0,s)
    | none=>none
   else none
  | x,fx=>match xB x fx size with | some d=>some (d,s) | none=>none:=
 fun tm s x i size=>nd (aZ.eq_24 tm s x i size)
theorem NB : ∀ (tm:Tm) (s:St) (x i:X),
 aZ (AO.oC x i) tm s =
  match X.ev tm x,X.ev tm i with
  | D.str t,D.int k n=>
   if 0≤n then
    match t[n.toNat]? with
    | some c=>some (D.int IntKind.u8 ↑c.toNat,s)
    | none=>none
   else none
  | x,fx=>none:=
 fun tm s x i=>nd (aZ.eq_25 tm s x i)
theorem NC : ∀ (tm:Tm) (s:St) (x:X) (i:Nat),
 aZ (AO.ext x i) tm s =
  match X.ev tm x with
  | D.tuple ds=>
   match ds[i]? with
   | some d=>some (d,s)
   | none=>none
  | x=>none:=
 fun tm s x i=>nd (aZ.eq_26 tm s x i)
theorem ND : ∀ (tm:Tm) (s:St) (x:X),
 aZ (AO.lW x) tm s =
  match X.ev tm x with
  | D.str t=>some (D.int IntKind.i64 ↑t.length,s)
  | x=>none:=
 fun tm s x=>nd (aZ.eq_27 tm s x)
theorem NF : ∀ (tm:Tm) (s:St) (x:X),
 aZ (AO.len x) tm s =
  match X.ev tm x with
  | D.slice g size rows=>some (D.int IntKind.i64 ↑rows.length,s)
  | x=>match Fa x with | some d=>some (d,s) | none=>none:=
 fun tm s x=>nd (aZ.eq_28 tm s x)
theorem NG : ∀ (tm:Tm) (s:St) (size bytes:Nat) (x y:X),
 aZ (AO.app size bytes x y) tm s =
  match X.ev tm x with
  | D.slice g z rows=>jA size bytes (D.slice g z rows) (X.ev tm y) s
  | d=>Ap size bytes d (X.ev tm y) s:=
 fun tm s size bytes x y=>nd (aZ.eq_29 tm s size bytes x y)
theorem NH : ∀ (tm:Tm) (s:St) (isMax:Bool) (x y:X),
 aZ (AO.mm isMax x y) tm s =
  match X.ev tm x,X.ev tm y with
  | D.int k a,D.int k' b=>
   if k=k' then some (D.int k (if isMax=true then if b > a then b else a else if b<a then b else a),s)
   else none
  | x,fx=>none:=
 fun tm s isMax x y=>nd (aZ.eq_30 tm s isMax x y)
theorem NK (tm:Tm) (s:St) (r:List D) (T:TypeId):aZ (AO.sO (.eR::r) T) tm s=some (.ptr s.aw.length 0,{aw:=s.aw++ [.fm T s.aw.length::r],aA:=s.aA}):=nd rfl
theorem NL (tm:Tm) (s:St) (x:X) (T:TypeId):aZ (AO.Ak x T) tm s =
 match (x.ev tm).row with
 | some (.eR::r)=>some (.ptr s.aw.length 0,{aw:=s.aw++ [.fm T s.aw.length::r],aA:=s.aA})
 | _=>none:=nd rfl
theorem NM (tm:Tm) (s:St) (x y:X):aZ (AO.apps x y) tm s =
 match y.ev tm with
 | .str l=>An (x.ev tm) (.slice .shared 1 (l.map fun c=> [.int .u8 c.toNat])) s
 | _=>none:=nd rfl
theorem NN (tm:Tm) (s:St) (x y:X):aZ (AO.Al x y) tm s=An (x.ev tm) (y.ev tm) s:=nd rfl
theorem NO (tm:Tm) (s:St) (f:Nat) (xs:List X):aZ (AO.uf f xs) tm s=some (.gj f (xs.map fun x=>x.ev tm),s):=nd rfl
theorem NP (tm:Tm) (s:St):aZ AO.ug tm s=some (.fY s.aw.length,{aw:=s.aw++ [[]],aA:=s.aA}):=nd rfl
theorem NQ (tm:Tm) (s:St) (m k v:X):aZ (AO.yw m k v) tm s =
 match m.ev tm,k.ev tm,v.ev tm with
 | .fY o, .str key, .slice g z rows=>
  match s.aw[o]? with
  | some cs=>match wL key (.slice g z rows) cs with | some jq=>some (.tuple [],{aw:=s.aw.set o jq,aA:=s.aA}) | none=>none
  | none=>none
 | _,_,_=>none:=nd rfl
theorem NR (tm:Tm) (s:St) (m k:X) (zero:D):aZ (AO.vI m k zero) tm s =
 match m.ev tm,k.ev tm with
 | .fY o, .str key=>
  match s.aw[o]? with
  | some cs=>match yx key zero cs with | some d=>some (d,s) | none=>none
  | none=>none
 | _,_=>none:=nd rfl
theorem I2 (f:Nat) (xs:List X):(AO.uf f xs).core=false:=nd rfl
theorem I3:AO.ug.core=true:=nd rfl
theorem I4 (m k v:X):(AO.yw m k v).core=true:=nd rfl
theorem I5 (m k:X) (zero:D):(AO.vI m k zero).core=false:=nd rfl
theorem QH (n m f:Nat) (cs:List D):D.fg n m (.gj f cs) = .gj f (D.gF n m cs):=nd (by simp only [D.fg])
theorem QI (n m:Nat) (o:Nat):D.fg n m (.fY o)=if o<n then .fY o else .junk:=nd (by simp only [D.fg])
theorem NS (d:Option Nat) (g:Option (Nat×Bool)) (t:Nat) (xs:List X):(AI.jb d g t xs).dst=d:=nd rfl
theorem I6 (x y:X):(AO.Al x y).core=true:=nd rfl
theorem I7 (z:List D) (T:TypeId):(AO.sO z T).core=true:=nd rfl
theorem I8 (x:X) (T:TypeId):(AO.Ak x T).core=true:=nd rfl
theorem I9 (x y:X):(AO.apps x y).core=true:=nd rfl
theorem QJ (n m:Nat) (v:Value):D.fg n m (.val v) = .val v:=nd (by simp only [D.fg])
theorem QK (n m:Nat) (T:TypeId) (o:Nat):D.fg n m (.fm T o)=if o<n then .fm T o else .junk:=nd (by simp only [D.fg])
theorem TI : ∀ (tm:Tm) (t:Nat),X.ev tm (X.s t)=tm.get t:=
 fun tm t=>nd (X.ev.eq_1 tm t)
theorem TJ : ∀ (tm:Tm) (d:D),X.ev tm (X.k d)=d:=
 fun tm d=>nd (X.ev.eq_2 tm d)
theorem NT : ∀ (tm:Tm) (d:D) (t:Nat),tm.put (some t) d=tm.set t d:=
 fun tm d t=>nd (Tm.put.eq_1 tm d t)
theorem NU : ∀ (tm:Tm) (d:D),tm.put none d=tm:=
 fun tm d=>nd (Tm.put.eq_2 tm d)
theorem NV : ∀ (x:Nat) (fx:D),Tm.set [] x fx = [(x,fx)]:=
 fun x fx=>nd (Tm.set.eq_1 x fx)
theorem NY : ∀ (x:Nat) (fx:D) (k:Nat) (e:D) (r:List (Nat×D)),
 Tm.set ((k,e)::r) x fx=if k=x then(k,fx)::r else(k,e)::Tm.set r x fx:=
 fun x fx k e r=>nd (Tm.set.eq_2 x fx k e r)
theorem NZ : ∀ (x:Nat),Tm.get [] x=D.junk:=
 fun x=>nd (Tm.get.eq_1 x)
theorem N0 : ∀ (x k:Nat) (d:D) (r:List (Nat×D)),Tm.get ((k,d)::r) x=if k=x then d else Tm.get r x:=
 fun x k d r=>nd (Tm.get.eq_2 x k d r)
theorem QL : ∀ (x:Nat),oh x [] = []:=
 fun x=>nd (oh.eq_1 x)
theorem QM : ∀ (x:Nat) (d:D) (r:List D),oh x (d::r)=(x,d)::oh (x+1) r:=
 fun x d r=>nd (oh.eq_2 x d r)
theorem N1 : ∀ (d:Option Nat) (g:Option (Nat×Bool)) (o:AO),(AI.op d g o).dst=d:=
 fun d g o=>nd (AI.dst.eq_1 d g o)
theorem N2 : ∀ (d:Option Nat) (g:Option (Nat×Bool)) (f:Nat) (xs:List X),(AI.call d g f xs).dst=d:=
 fun d g f xs=>nd (AI.dst.eq_2 d g f xs)
theorem N3 : ∀ (d:Option Nat) (g:Option (Nat×Bool)) (neg:Bool) (fx:X),(AI.nil d g neg fx).dst=d:=
 fun d g neg fx=>nd (AI.dst.eq_3 d g neg fx)
theorem TK : ∀ (cs:List D) (off size:Nat),
 part cs off true size=if off+size≤cs.length then some (D.agg (List.take size (List.drop off cs)))else none:=
 fun cs off size=>nd (part.eq_1 cs off size)
theorem TL : ∀ (cs:List D) (off size:Nat),part cs off false size=cs[off]? :=
 fun cs off size=>nd (part.eq_2 cs off size)
theorem N4 : ∀ (cs:List D) (off:Nat) (r:List D),
 fU cs off r=List.take off cs++r++List.drop (off+r.length) cs:=
 fun cs off r=>nd (fU.eq_1 cs off r)
theorem QN : ∀ (cells:List D),qJ cells [] = some cells:=
 fun cells=>nd (qJ.eq_1 cells)
theorem QO : ∀ (cells:List D) (off size:Nat) (d:D) (rest:List (Nat×Nat×D)),
 qJ cells ((off,size,d)::rest) =
  match d.row with
  | none=>none
  | some r=>if r.length=size∧off+size≤cells.length then qJ (fU cells off r) rest else none:=
 fun cells off size d rest=>nd (qJ.eq_2 cells off size d rest)
theorem Ja : ∀ (size:Nat) (rows:List (List D)),jz size rows [] = some rows:=
 fun size rows=>nd (jz.eq_1 size rows)
theorem Jb : ∀ (size:Nat) (rows:List (List D)) (i:Nat) (d:D) (rest:List (Nat×D)),
 jz size rows ((i,d)::rest) =
  match d.row with
  | none=>none
  | some r=>if r.length=size∧i<rows.length then jz size (rows.set i r) rest else none:=
 fun size rows i d rest=>nd (jz.eq_2 size rows i d rest)
theorem Jc : ∀ (zero:List D),gn zero 0 = []:=
 fun zero=>nd (gn.eq_1 zero)
theorem Jd : ∀ (zero:List D) (i:Nat),gn zero i.succ=zero::gn zero i:=
 fun zero i=>nd (gn.eq_2 zero i)
theorem TN : ∀ (op:BinOp) (k:IntKind) (a:Int) (k':IntKind) (b:Int),
 wK op (D.int k a) (D.int k' b)=if k=k' then gk op k a b else none:=
 fun op k a k' b=>nd (wK.eq_1 op k a k' b)
theorem TO : ∀ (op:BinOp) (a b:List UInt8),wK op (D.str a) (D.str b)=nO op a b:=
 fun op a b=>nd (wK.eq_2 op a b)
theorem N5 : ∀ (k:IntKind) (a b:Int),gk BinOp.add k a b=some (D.int k (k.wrap (a+b))):=
 fun k a b=>nd (gk.eq_1 k a b)
theorem N6 : ∀ (k:IntKind) (a b:Int),gk BinOp.sub k a b=some (D.int k (k.wrap (a - b))):=
 fun k a b=>nd (gk.eq_2 k a b)
theorem N7 : ∀ (k:IntKind) (a b:Int),gk BinOp.mul k a b=some (D.int k (k.wrap (a*b))):=
 fun k a b=>nd (gk.eq_3 k a b)
theorem N8 : ∀ (k:IntKind) (a b:Int),
 gk BinOp.quo k a b=if b=0 then none else some (D.int k (k.wrap (a.tdiv b))):=
 fun k a b=>nd (gk.eq_4 k a b)
theorem N9 : ∀ (k:IntKind) (a b:Int),gk BinOp.rem k a b=if b=0 then none else some (D.int k (a.tmod b)):=
 fun k a b=>nd (gk.eq_5 k a b)
theorem Oa : ∀ (k:IntKind) (a b:Int),gk BinOp.eql k a b=some (D.bool (a==b)):=
 fun k a b=>nd (gk.eq_6 k a b)
theorem Oc : ∀ (k:IntKind) (a b:Int),gk BinOp.neq k a b=some (D.bool (a != b)):=
 fun k a b=>nd (gk.eq_7 k a b)
theorem Od : ∀ (k:IntKind) (a b:Int),gk BinOp.lss k a b=some (D.bool (decide (a<b))):=
 fun k a b=>nd (gk.eq_8 k a b)
theorem Oe : ∀ (k:IntKind) (a b:Int),gk BinOp.leq k a b=some (D.bool (decide (a≤b))):=
 fun k a b=>nd (gk.eq_9 k a b)
theorem KQ : ∀ (k:IntKind) (a b:Int),gk BinOp.gtr k a b=some (D.bool (decide (a > b))):=
 fun k a b=>nd (gk.eq_10 k a b)
theorem KR : ∀ (k:IntKind) (a b:Int),gk BinOp.geq k a b=some (D.bool (decide (a≥b))):=
 fun k a b=>nd (gk.eq_11 k a b)
theorem Og : ∀ (a b:List UInt8),
 nO BinOp.add a b=if a.length+b.length≤bl then some (D.str (a++b))else none:=
 fun a b=>nd (nO.eq_1 a b)
theorem Oh : ∀ (a b:List UInt8),nO BinOp.eql a b=some (D.bool (a==b)):=
 fun a b=>nd (nO.eq_2 a b)
theorem Oi : ∀ (a b:List UInt8),nO BinOp.neq a b=some (D.bool !a==b):=
 fun a b=>nd (nO.eq_3 a b)
theorem Oj : ∀ (a b:List UInt8),nO BinOp.lss a b=some (D.bool (bytesLess a b)):=
 fun a b=>nd (nO.eq_4 a b)
theorem YC : ∀ (k:IntKind) (n:Int),Ik UnOp.neg (D.int k n)=some (D.int k (k.wrap (0 - n))):=
 fun k n=>nd (Ik.eq_1 k n)
theorem YD : ∀ (b:Bool),Ik UnOp.not (D.bool b)=some (D.bool !b):=
 fun b=>nd (Ik.eq_2 b)
theorem Ol : ∀ (k:IntKind) (a:Int) (k':IntKind) (b:Int),
 mD 0 (D.int k a) (D.int k' b)=if k=k' then some (a==b)else none:=
 fun k a k' b=>nd (mD.eq_1 k a k' b)
theorem Om : ∀ (a b:Bool),mD 1 (D.bool a) (D.bool b)=some (a==b):=
 fun a b=>nd (mD.eq_2 a b)
theorem On : ∀ (a b:List UInt8),mD 2 (D.str a) (D.str b)=some (a==b):=
 fun a b=>nd (mD.eq_3 a b)
theorem KS:kX [] [] [] = some true:=
 nd (kX.eq_1)
theorem KT : ∀ (k:Nat) (ks:List Nat) (WE:D) (xs:List D) (y:D) (ys:List D),
 kX (k::ks) (WE::xs) (y::ys) =
  match mD k WE y with
  | none=>none
  | some true=>kX ks xs ys
  | some false=>some false:=
 fun k ks WE xs y ys=>nd (kX.eq_2 k ks WE xs y ys)
theorem YE:vJ none=some 0:=
 nd (vJ.eq_1)
theorem YF : ∀ (k:IntKind) (n:Int),vJ (some (D.int k n))=some n:=
 fun k n=>nd (vJ.eq_2 k n)
theorem YG : ∀ (len:Nat),vK none len=some ↑len:=
 fun len=>nd (vK.eq_1 len)
theorem YH : ∀ (len:Nat) (k:IntKind) (n:Int),vK (some (D.int k n)) len=some n:=
 fun len k n=>nd (vK.eq_2 len k n)
theorem KU : ∀ (zero:List D),(AO.alloc zero).core=true:=
 fun zero=>nd (AO.core.eq_1 zero)
theorem KV : ∀ (fx:X),(AO.box fx).core=true:=
 fun fx=>nd (AO.core.eq_2 fx)
theorem KW : ∀ (zero:List D) (size n:Nat) (parts:List (Nat×X)),(AO.uK zero size n parts).core=true:=
 fun zero size n parts=>nd (AO.core.eq_3 zero size n parts)
theorem KX : ∀ (fx:X),(AO.Aj fx).core=true:=
 fun fx=>nd (AO.core.eq_4 fx)
theorem KY : ∀ (p fx:X) (size:Nat),(AO.store p fx size).core=true:=
 fun p fx size=>nd (AO.core.eq_5 p fx size)
theorem KZ : ∀ (size bytes:Nat) (fx y:X),(AO.app size bytes fx y).core=true:=
 fun size bytes fx y=>nd (AO.core.eq_6 size bytes fx y)
theorem K0 : ∀ (val:Nat) (zero:List D),(AI.op (some val) none (AO.alloc zero)).kind=AK.alloc:=
 fun val zero=>nd (AI.kind.eq_1 val zero)
theorem K1 : ∀ (zero:List D),(AO.alloc zero).kind=AK.core:=
 fun zero=>nd (AO.kind.eq_1 zero)
theorem K3 : ∀ (fx:X),(AO.box fx).kind=AK.core:=
 fun fx=>nd (AO.kind.eq_2 fx)
theorem K4 : ∀ (zero:List D) (size n:Nat) (parts:List (Nat×X)),(AO.uK zero size n parts).kind=AK.core:=
 fun zero size n parts=>nd (AO.kind.eq_3 zero size n parts)
theorem K5 : ∀ (fx:X),(AO.Aj fx).kind=AK.core:=
 fun fx=>nd (AO.kind.eq_4 fx)
theorem K6 : ∀ (p fx:X) (size:Nat),(AO.store p fx size).kind=AK.core:=
 fun p fx size=>nd (AO.kind.eq_5 p fx size)
theorem K7 : ∀ (size bytes:Nat) (fx y:X),(AO.app size bytes fx y).kind=AK.core:=
 fun size bytes fx y=>nd (AO.kind.eq_6 size bytes fx y)
theorem K8 : ∀ (fx:X) (agg:Bool) (size:Nat),(AO.load fx agg size).kind=AK.load:=
 fun _ _ _=>nd rfl
theorem Oo:gP AK.core=true:=
 nd (gP.eq_1)
theorem Oq:gP AK.alloc=true:=
 nd (gP.eq_2)
theorem Ot : ∀ (i:AI) (tm:Tm) (d:D),nU i tm d [] = True:=
 fun i tm d=>nd (nU.eq_1 i tm d)
theorem Ou : ∀ (i:AI) (tm:Tm) (d:D) (s:St) (r:List St),
 nU i tm d (s::r)=(jx i tm s=some d∧nU i tm d r):=
 fun i tm d s r=>nd (nU.eq_2 i tm d s r)
theorem YI : ∀ (tm:Tm) (s:St) (dst:Option Nat) (o:AO),
 jx (AI.op dst none o) tm s=Option.map (fun(x:D×St)=>x.fst) (aZ o tm s):=
 fun tm s dst o=>nd (jx.eq_1 tm s dst o)
theorem YJ : ∀ (tm:Tm) (s:St) (dst:Option Nat) (t:Nat) (want:Bool) (o:AO),
 jx (AI.op dst (some (t,want)) o) tm s =
  match tm.get t with
  | D.bool b=>if b=want then Option.map (fun(x:D×St)=>x.fst) (aZ o tm s)else some (D.tuple [])
  | D.tuple vs=>some (D.tuple [])
  | x=>none:=
 fun tm s dst t want o=>nd (jx.eq_2 tm s dst t want o)
theorem K9 : ∀ (is:List AI),mJ is [] = some []:=
 fun is=>nd (mJ.eq_1 is)
theorem La : ∀ (is:List AI) (q b:Nat) (r:List (Nat×Nat)),
 mJ is ((q,b)::r) =
  match is[q]?,mJ is r with
  | some ai,some l=>some ((ai,b)::l)
  | x,fx=>none:=
 fun is q b r=>nd (mJ.eq_2 is q b r)
theorem YK : ∀ (tm:Tm) (n m:Nat),tX tm n m [] = True:=
 fun tm n m=>nd (tX.eq_1 tm n m)
theorem YL : ∀ (tm:Tm) (n m k:Nat) (d:D) (r:List (Nat×D)),
 tX tm n m ((k,d)::r)=(Wk (D.fg n m (tm.get k)) d∧tX tm n m r):=
 fun tm n m k d r=>nd (tX.eq_2 tm n m k d r)
theorem TP : ∀ (n m o off:Nat),D.fg n m (D.ptr o off)=if o<n then D.ptr o off else D.junk:=
 fun n m o off=>nd (D.fg.eq_1 n m o off)
theorem TQ : ∀ (n m:Nat) (row:List D) (off:Nat),D.fg n m (D.dG row off)=D.dG (D.gF n m row) off:=
 fun n m row off=>nd (D.fg.eq_2 n m row off)
theorem TR : ∀ (n m:Nat) (g:Tag) (z:Nat) (rows:List (List D)),
 D.fg n m (D.slice g z rows)=D.slice (Tag.fg m g) z (D.kx n m rows):=
 fun n m g z rows=>nd (D.fg.eq_3 n m g z rows)
theorem TS : ∀ (n m:Nat) (cs:List D),D.fg n m (D.agg cs)=D.agg (D.gF n m cs):=
 fun n m cs=>nd (D.fg.eq_4 n m cs)
theorem TT : ∀ (n m:Nat) (ds:List D),D.fg n m (D.tuple ds)=D.tuple (D.gF n m ds):=
 fun n m ds=>nd (D.fg.eq_5 n m ds)
theorem TU : ∀ (n m:Nat),D.fg n m D.junk=D.junk:=
 fun n m=>nd (D.fg.eq_6 n m)
theorem TV : ∀ (n m:Nat) (k:IntKind) (fx:Int),D.fg n m (D.int k fx)=D.int k fx:=
 fun n m k fx=>nd (D.fg.eq_7 n m k fx)
theorem TX : ∀ (n m:Nat) (b:Bool),D.fg n m (D.bool b)=D.bool b:=
 fun n m b=>nd (D.fg.eq_8 n m b)
theorem TY : ∀ (n m:Nat) (l:List UInt8),D.fg n m (D.str l)=D.str l:=
 fun n m l=>nd (D.fg.eq_9 n m l)
theorem QP : ∀ (n m:Nat),D.fg n m D.eR=D.eR:=
 fun n m=>nd (D.fg.eq_10 n m)
theorem QQ : ∀ (n m:Nat),D.gF n m [] = []:=
 fun n m=>nd (D.gF.eq_1 n m)
theorem QR : ∀ (n m:Nat) (d:D) (r:List D),D.gF n m (d::r)=D.fg n m d::D.gF n m r:=
 fun n m d r=>nd (D.gF.eq_2 n m d r)
theorem QS : ∀ (n m:Nat),D.kx n m [] = []:=
 fun n m=>nd (D.kx.eq_1 n m)
theorem QT : ∀ (n m:Nat) (d:List D) (r:List (List D)),D.kx n m (d::r)=D.gF n m d::D.kx n m r:=
 fun n m d r=>nd (D.kx.eq_2 n m d r)
theorem Ov : ∀ (m t:Nat) (y:Bool),Tag.fg m (Tag.tok t y)=if t<m then Tag.tok t y else Tag.shared:=
 fun _ _ _=>nd rfl
theorem Ow : ∀ (s:St) (n m:Nat),
 s.cut n m = {aw:=List.map (D.gF n m) (List.take n s.aw),aA:=List.take m s.aA}:=
 fun s n m=>nd (St.cut.eq_1 s n m)
theorem T1 : ∀ (d:D),az [d] = d:=
 fun d=>nd (az.eq_1 d)
theorem T2 (size bytes t:Nat) (rows:List (List D)) (g:Tag) (r:List D) (s:St):jA size bytes (.slice (.tok t) size rows) (.slice g size [r]) s =
 if(rows.length+1)*(bytes+1)≤bl∧s.aA[t]? = some (some rows.length)then some (.slice (.tok t) size (rows++ [r]),⟨s.aw,s.aA.set t (some (rows.length+1))⟩)else none:=by
 simp only [jA,List.length_singleton]
 by_cases h1:(rows.length+1)*(bytes+1)≤bl <;> by_cases h2:s.aA[t]? = some (some rows.length) <;> simp [h1,h2]
theorem Je {size bytes t:Nat} {rows new:List (List D)} {g:Tag} {s:St} (h1:(rows.length+new.length)*(bytes+1)≤bl) (h2:s.aA[t]? = some (some rows.length)) :
 jA size bytes (.slice (.tok t) size rows) (.slice g size new) s=some (.slice (.tok t) size (rows++new),⟨s.aw,s.aA.set t (some (rows.length+new.length))⟩):=by
 cases new with
 | nil=>
  have:s.aA.set t (some rows.length)=s.aA:=by
   apply List.ext_getElem?
   intro i
   rw [List.getElem?_set]
   split
   ·rename_i hi;subst hi;rw [h2,if_pos (List.getElem?_eq_some_iff.1 h2).1]
   ·rfl
  simp only [List.length_nil,Nat.add_zero]at h1
  simp [jA,h1,this]
 | cons x l=>
  simp only [jA,h1,h2]
  simp
theorem QU (size bytes z:Nat) (g:Tag) (r:List D) (s:St):jA size bytes (.slice .full z []) (.slice g size [r]) s =
 if bytes+1≤bl then some (.slice (.tok s.aA.length) size [r],⟨s.aw,s.aA++ [some 1]⟩)else none:=by
 simp [jA]
theorem YM {P:Program} {B:fz} {nt:Nat} (ac:AC) (Q:Exit→Tm→St→Prop) (tm:Tm) (s:St):jM P B nt ac Q .normal tm s=Q .normal tm s:=nd rfl
theorem YN {P:Program} {B:fz} {nt:Nat} (ac:AC) (Q:Exit→Tm→St→Prop) (tm:Tm) (s:St):jM P B nt ac Q .ret tm s=Q .ret tm s:=nd rfl
theorem YO {P:Program} {B:fz} {nt:Nat} (ac:AC) (Q:Exit→Tm→St→Prop) (tm:Tm) (s:St) (i:Nat):jM P B nt ac Q (.exit i) tm s=Q (.exit i) tm s:=nd rfl
theorem YP (m:Nat):Tag.fg m .full = .full:=nd rfl
theorem QV (m:Nat):Tag.fg m .shared = .shared:=nd rfl
theorem afm {P:Program} (K:Tm→St→Prop) (tm:Tm) (s:St):jQ P [] K tm s=K tm s:=nd rfl
theorem s_op {P:Program} (dst:Option Nat) (o:AO) (r:List AI) (K:Tm→St→Prop) (tm:Tm) (s:St) :
 jQ P (.op dst none o::r) K tm s=(match aZ o tm s with | some (d,s')=>jQ P r K (tm.put dst d) s' | none=>False):=nd rfl
def KJ (P:Program) (r:List AI) (K:Tm→St→Prop) (tm:Tm) (dst:Option Nat) (d:D) (s:St):Prop:=jQ P r K (tm.put dst d) s
theorem aiR {P:Program} (r:List AI) (K:Tm→St→Prop) (tm:Tm) (dst:Option Nat) (d:D) (s:St):KJ P r K tm dst d s=jQ P r K (tm.put dst d) s:=nd rfl
theorem s_call {P:Program} (dst:Option Nat) (f:Nat) (xs:List X) (r:List AI) (K:Tm→St→Prop) (tm:Tm) (s:St) :
 jQ P (.call dst none f xs::r) K tm s=CL P f (xs.map (·.ev tm)) s (KJ P r K tm dst):=nd rfl
def NJ (P:Program) (dst:Option Nat) (neg:Bool) (x:D) (r:List AI) (K:Tm→St→Prop) (tm:Tm) (s:St):Prop:=
 match x with
 | .slice _ _ rows=>∀ b:Bool,(rows≠ []→b=false)→jQ P r K (tm.put dst (.bool (if neg then !b else b))) s
 | _=>False
theorem abn {P:Program} (dst:Option Nat) (neg:Bool) (x:X) (r:List AI) (K:Tm→St→Prop) (tm:Tm) (s:St) :
 jQ P (.nil dst none neg x::r) K tm s=NJ P dst neg (x.ev tm) r K tm s:=nd rfl
theorem YQ {P:Program} (dst:Option Nat) (neg:Bool) (g:Tag) (z:Nat) (d:List D) (l:List (List D)) (r:List AI) (K:Tm→St→Prop) (tm:Tm) (s:St) :
 NJ P dst neg (.slice g z (d::l)) r K tm s=jQ P r K (tm.put dst (.bool neg)) s:=by
 simp only [NJ,ne_eq,reduceCtorEq,not_false_eq_true,true_imp_iff,eq_iff_iff]
 refine⟨fun h=>by have:=h false rfl;cases neg <;> exact this,fun h b hb=> ?_⟩
 subst hb;cases neg <;> exact h
theorem Jf {P:Program} {dst:Option Nat} {neg:Bool} {g:Tag} {z:Nat} {l:List (List D)} {r:List AI} {K:Tm→St→Prop} {tm:Tm} {s:St}
 (h1:l = []→jQ P r K (tm.put dst (.bool (!neg))) s) (h2:jQ P r K (tm.put dst (.bool neg)) s):NJ P dst neg (.slice g z l) r K tm s:=by
 intro b hb
 cases b with
 | false=>cases neg <;> exact h2
 | true=>
  have:l = []:=Decidable.byContradiction fun h=>by cases hb h
  cases neg <;> exact h1 this
theorem afo {P:Program} (dst:Option Nat) (t:Nat) (w:Bool) (o:AO) (r:List AI) (K:Tm→St→Prop) (tm:Tm) (s:St) :
 jQ P (.op dst (some (t,w)) o::r) K tm s = @GB (tm.get t) w ⟨(jQ P (.op dst none o::r) K tm s),(jQ P r K (tm.put dst (.tuple [])) s)⟩:=nd rfl
def CV (P:Program) (x:D) (afp:List D) (s:St) (K:D→St→Prop):Prop:=
 match x with
 | .gj f ny=>enters P f=true∧CL P f (afp++ny) s K
 | _=>False
theorem YR {P:Program} (dst:Option Nat) (t:Nat) (xs:List X) (r:List AI) (K:Tm→St→Prop) (tm:Tm) (s:St) :
 jQ P (.jb dst none t xs::r) K tm s=CV P (tm.get t) (xs.map (·.ev tm)) s (KJ P r K tm dst):=nd rfl
theorem CV.use {P:Program} {f:Nat} {ny afp:List D} {s s':St} {d:D} {K:D→St→Prop} (he:enters P f=true) (h:aB P f (afp++ny) s d s') (k:K d s'):CV P (.gj f ny) afp s K:=⟨he,d,s',h,k⟩
theorem T3 {P:Program} (dst:Option Nat) (t:Nat) (w:Bool) (u:Nat) (xs:List X) (r:List AI) (K:Tm→St→Prop) (tm:Tm) (s:St) :
 jQ P (.jb dst (some (t,w)) u xs::r) K tm s = @GB (tm.get t) w ⟨(jQ P (.jb dst none u xs::r) K tm s),(jQ P r K (tm.put dst (.tuple [])) s)⟩:=nd rfl
theorem YS {P:Program} (dst:Option Nat) (t:Nat) (w:Bool) (f:Nat) (xs:List X) (r:List AI) (K:Tm→St→Prop) (tm:Tm) (s:St) :
 jQ P (.call dst (some (t,w)) f xs::r) K tm s = @GB (tm.get t) w ⟨(jQ P (.call dst none f xs::r) K tm s),(jQ P r K (tm.put dst (.tuple [])) s)⟩:=nd rfl
theorem abp {P:Program} (dst:Option Nat) (t:Nat) (w:Bool) (neg:Bool) (x:X) (r:List AI) (K:Tm→St→Prop) (tm:Tm) (s:St) :
 jQ P (.nil dst (some (t,w)) neg x::r) K tm s = @GB (tm.get t) w ⟨(jQ P (.nil dst none neg x::r) K tm s),(jQ P r K (tm.put dst (.tuple [])) s)⟩:=nd rfl
theorem aiS (b:Bool) (A C:Prop) : @GB (.bool b) true ⟨A,C⟩ = @CB (.bool b) ⟨A,C⟩:=nd rfl
theorem aiT (b:Bool) (A C:Prop) : @GB (.bool b) false ⟨A,C⟩ = @CB (.bool b) ⟨C,A⟩:=by
 cases b <;> simp [GB,CB,GJ,um]
theorem aiU (l:List D) (w:Bool) (A C:Prop) : @GB (.tuple l) w ⟨A,C⟩=C:=nd rfl
theorem afq {P:Program} {K:Tm→St→Prop} (bK:List St) (tm:Tm) (s:St):gp P K [] bK tm s=K tm s:=nd rfl
def OJ (P:Program) (o:AO) (dst:Option Nat) (b:Nat) (r:List (AI×Nat)) (K:Tm→St→Prop) (bK:List St) (tm:Tm) (s:St):Bool→Prop
 | true=>match aZ o tm s with | some (d,s')=>gp P K r (s::bK) (tm.put dst d) s' | none=>False
 | false=>match aZ o tm s with | some (d,_)=>nU (.op dst none o) tm d (bK.take b)∧gp P K r bK (tm.put dst d) s | none=>False
theorem aiW {P:Program} {K:Tm→St→Prop} (dst:Option Nat) (o:AO) (b:Nat) (r:List (AI×Nat)) (bK:List St) (tm:Tm) (s:St) :
 gp P K ((.op dst none o,b)::r) bK tm s=OJ P o dst b r K bK tm s o.core:=by
 simp only [gp,mK]
 cases o.core <;> rfl
theorem aiX {P:Program} (o:AO) (dst:Option Nat) (b:Nat) (r:List (AI×Nat)) (K:Tm→St→Prop) (bK:List St) (tm:Tm) (s:St) :
 OJ P o dst b r K bK tm s true=match aZ o tm s with | some (d,s')=>gp P K r (s::bK) (tm.put dst d) s' | none=>False:=nd rfl
theorem aiY {P:Program} (o:AO) (dst:Option Nat) (b:Nat) (r:List (AI×Nat)) (K:Tm→St→Prop) (bK:List St) (tm:Tm) (s:St) :
 OJ P o dst b r K bK tm s false=match aZ o tm s with | some (d,_)=>nU (.op dst none o) tm d (bK.take b)∧gp P K r bK (tm.put dst d) s | none=>False:=nd rfl
theorem afr {P:Program} {K:Tm→St→Prop} (dst:Option Nat) (t:Nat) (w:Bool) (o:AO) (b:Nat) (r:List (AI×Nat)) (bK:List St) (tm:Tm) (s:St) :
 gp P K ((.op dst (some (t,w)) o,b)::r) bK tm s = @GB (tm.get t) w ⟨(gp P K ((.op dst none o,b)::r) bK tm s),(gp P K r (if o.core then s::bK else bK) (tm.put dst (.tuple [])) s)⟩:=by
 simp only [GB,gp,mK]
 cases o.core <;> rfl
def KG (P:Program) (K:Tm→St→Prop) (r:List (AI×Nat)) (bK:List St) (tm:Tm) (dst:Option Nat) (d:D) (s:St):Prop:=gp P K r bK (tm.put dst d) s
theorem aiZ {P:Program} (K:Tm→St→Prop) (r:List (AI×Nat)) (bK:List St) (tm:Tm) (dst:Option Nat) (d:D) (s:St):KG P K r bK tm dst d s=gp P K r bK (tm.put dst d) s:=nd rfl
theorem g_call {P:Program} {K:Tm→St→Prop} (dst:Option Nat) (f:Nat) (xs:List X) (b:Nat) (r:List (AI×Nat)) (bK:List St) (tm:Tm) (s:St) :
 gp P K ((.call dst none f xs,b)::r) bK tm s=CL P f (xs.map (·.ev tm)) s (KG P K r (s::bK) tm dst):=nd rfl
theorem YT {P:Program} {K:Tm→St→Prop} (dst:Option Nat) (t:Nat) (w:Bool) (f:Nat) (xs:List X) (b:Nat) (r:List (AI×Nat)) (bK:List St) (tm:Tm) (s:St) :
 gp P K ((.call dst (some (t,w)) f xs,b)::r) bK tm s = @GB (tm.get t) w ⟨(gp P K ((.call dst none f xs,b)::r) bK tm s),(gp P K r (s::bK) (tm.put dst (.tuple [])) s)⟩:=nd rfl
class Ok (p:Prop):Prop where
 out:p
instance:Ok True:=⟨trivial⟩
instance {p q:Prop} [Ok p] [Ok q] : Ok (p∧q):=⟨⟨Ok.out,Ok.out⟩⟩
instance {α:Type} (a:α):Ok (a=a):=⟨rfl⟩
instance (d:D):Ok (Wk d .junk):=⟨Wk.junk d⟩
instance {l l':List D} [Ok (jP l l')] : Ok (Wk (.tuple l) (.tuple l')):=⟨Wk.tuple Ok.out⟩
instance {l l':List D} [Ok (jP l l')] : Ok (Wk (.agg l) (.agg l')):=⟨Wk.agg Ok.out⟩
instance {g:Tag} {z:Nat} {l l':List (List D)} [Ok (hO l l')] : Ok (Wk (.slice g z l) (.slice g z l')):=⟨Wk.rows Ok.out⟩
instance {g:Tag} {z:Nat} {l l':List (List D)} [Ok (hO l l')] : Ok (Wk (.slice g z l) (.slice .shared z l')):=⟨Wk.slice Ok.out⟩
instance (z z':Nat):Ok (Wk (.slice .full z []) (.slice .full z' [])):=⟨Wk.aiI z z'⟩
instance (g:Tag) (z z':Nat):Ok (Wk (.slice g z []) (.slice .shared z' [])):=⟨Wk.nil g z z'⟩
instance (d:D):Ok (Wk d d):=⟨Wk.refl d⟩
instance:Ok (jP [] []):=⟨.nil⟩
instance {d d':D} {l l':List D} [Ok (Wk d d')] [Ok (jP l l')] : Ok (jP (d::l) (d'::l')):=⟨.cons Ok.out Ok.out⟩
instance (l:List D):Ok (jP l l):=⟨jP.refl l⟩
instance:Ok (hO [] []):=⟨.nil⟩
instance {d d':List D} {l l':List (List D)} [Ok (jP d d')] [Ok (hO l l')] : Ok (hO (d::l) (d'::l')):=⟨.cons Ok.out Ok.out⟩
instance {a a' b b':List (List D)} [Ok (hO a a')] [Ok (hO b b')] : Ok (hO (a++b) (a'++b')):=⟨hO.append Ok.out Ok.out⟩
instance (l:List (List D)):Ok (hO l l):=⟨hO.refl l⟩
theorem bs:(∀ b,(true || b)=true)∧(∀ b,(false || b)=b)∧(∀ b,(b || true)=true)∧(∀ b,(b || false)=b)∧(∀ b,(true && b)=b)∧(∀ b,(false && b)=false)∧(∀ b,(b && true)=b)∧(∀ b,(b && false)=false)∧
 (!true)=false∧(!false)=true∧(∀ b,(!!b)=b)∧((false=true)=False)∧(∀ (α β:Type) (a:α) (f:α→Option β),(some a).bind f=f a)∧
 (∀ (α β γ:Type) (x:Option α) (f:α→Option β) (g:β→Option γ),(x.bind f).bind g=x.bind fun y=>(f y).bind g):=
 ⟨Bool.true_or,Bool.false_or,Bool.or_true,Bool.or_false,Bool.true_and,Bool.false_and,Bool.and_true,Bool.and_false,rfl,rfl,Bool.not_not,by simp,fun _ _ _ _=>rfl,fun _ _ _ x f g=>Option.bind_assoc x f g⟩
attribute [go_sem] abk aiO aiP afm s_op aiR s_call abn YQ afo YS abp aiS aiT aiU afq aiW aiX aiY afr aiZ g_call YT AO.core AI.kind AO.kind gP
attribute [go_sem] YR T3 NO NP NQ NR I2 I3 I4 I5 QH QI NS Ys Tv
attribute [go_sem] NN I6 NK NL NM I7 I8 I9 QJ QK Yr Qs Yn Tq Yo Tr Yp Ts Qr Yq Tw Ni Tx
attribute [go_sem] Qy Qz QA QB QC QD QE QF QG Nl Nn No Np Nq Nr Ns Nt Nu Nv Nw Nx Ny Nz NA NB NC ND NF NG NH TI TJ NT NU NV NY NZ N0 QL QM N1 N2 N3 TK TL N4 QN QO Ja Jb Jc Jd TN TO N5 N6 N7 N8 N9 Oa Oc Od Oe KQ KR Og Oh Oi Oj YC YD Ol Om On KS KT YE YF YG YH KU KV KW KX KY KZ K0 K1 K3 K4 K5 K6 K7 K8 Oo Oq Ot Ou YI YJ K9 La YK YL TP TQ TR TS TT TU TV TX TY QP QQ QR QS QT Ov Ow T1 T2 QU YP QV YM YN YO
attribute [go_sem] List.map_cons List.map_nil List.getElem?_cons_zero List.getElem?_cons_succ List.length_cons List.length_nil List.set_cons_zero List.set_cons_succ List.take_succ_cons List.take_zero List.take_nil List.drop_succ_cons List.drop_zero List.drop_nil List.cons_append List.nil_append List.append_nil Nat.zero_add Nat.add_zero Option.map_some Option.map_none
attribute [go_sem] Bool.not_false Bool.not_true List.length_map List.getElem?_map Int.toNat_natCast Int.natCast_nonneg Int.toNat_zero and_self and_true true_and
attribute [go_sem_proc ↓] reduceIte
attribute [go_sem_proc] Int.reduceLE reduceCtorEq Nat.reduceEqDiff Nat.reduceLeDiff Nat.reduceAdd Nat.reduceMul Nat.reduceSub Nat.reduceLT
theorem bq {b:Bool} {A C:Prop} (h1:b=true→A) (h:b=true:=by assumption) : @CB (.bool b) ⟨A,C⟩:=abl h h1
theorem br {b:Bool} {A C:Prop} (h1:b=false→C) (h:b=false:=by assumption) : @CB (.bool b) ⟨A,C⟩:=abm h h1
theorem bt {b:Bool} {A C:Prop} (h1:b=true→A) (h2:b=false→C) : @CB (.bool b) ⟨A,C⟩:=⟨h1,h2⟩
theorem aH {a b:Prop} (x:a) (y:b):a∧b:=⟨x,y⟩
theorem bu {α:Type _} (a b:α):(some a=some b)=(a=b):=Option.some.injEq a b
theorem bw {α:Sort _} {p:α→Prop} {a:α} : (∃ x,a=x∧p x)↔p a:=exists_eq_left'
theorem mq {n m:Nat} (h:Nat.ble n m=true):n≤m:=Nat.le_of_ble_eq_true h
theorem aC {n m:Nat} {res:List (Nat×Option (Bool×Nat))} {d:D} {s':St} {e:Exit} {tm:Tm} {s:St} {Q:Exit→Tm→St→Prop} (hQ:iP n m res d s'=Q) (h : ∃ l,ay res tm s=some l∧Wk ((az l).fg n m) d∧hO (s.cut n m).aw s'.aw∧(s.cut n m).aA=s'.aA) (he:e = .ret∨e = .normal:=by first | exact .inl rfl | exact .inr rfl):Q e tm s:=by cases he with | inl x=>cases x;exact afk hQ h | inr x=>cases x;exact afl hQ h
theorem kb {p:Prop} (h:p:=by repeat' (first | exact Ok.out | with_reducible refine aH ?_ ?_ | (simp;done))):p:=h
theorem bH {p:Prop} (h:p:=by repeat' (first | exact Ok.out | with_reducible refine aH ?_ ?_)):p:=h
theorem jR {p:Prop} (h:p:=by(try cases h);simp only [ay,az,bu,bw,go_sem,hF,hP,gA,gB];repeat' (first | exact Ok.out | with_reducible refine aH ?_ ?_ | (simp;done))):p:=h
theorem lX_ {p:Prop} (h:p:=by simp only [go_sem,hF,hP,gA,gB];repeat' (first | exact Ok.out | with_reducible refine aH ?_ ?_)):p:=h
theorem cO {P:Program} {B:fz} {nt:Nat} {a:AC} {Q:Exit→Tm→St→Prop} {tm bB:Tm} {s:St} {dW:List (List D)} (n m:Nat) (h:bh P B nt a Q bB ⟨dW,(s.cut n m).aA⟩) (hn:B.s.aw.length≤n:=by rw [hB];exact mq rfl) (hm:B.s.aA.length≤m:=by rw [hB];exact mq rfl) (ht:tX tm n m bB:=by exact lX_) (ho:hO (s.cut n m).aw dW:=by exact lX_):bh P B nt a Q tm s:=bh.re bB dW n m hn hm ht ho h
theorem dH {P:Program} {B:fz} {nt:Nat} {a:AC} {Q:Exit→Tm→St→Prop} {tm bB:Tm} {s:St} {dW:List (List D)} (n m:Nat) (ht:tX tm n m bB) (ho:hO (s.cut n m).aw dW) (h:bh P B nt a Q bB ⟨dW,(s.cut n m).aA⟩) (hn:B.s.aw.length≤n:=by rw [hB];exact mq rfl) (hm:B.s.aA.length≤m:=by rw [hB];exact mq rfl):bh P B nt a Q tm s:=bh.re bB dW n m hn hm ht ho h
theorem bF:0<1∧0<1∧0<1∧0<1:=⟨Nat.zero_lt_one,Nat.zero_lt_one,Nat.zero_lt_one,Nat.zero_lt_one⟩
end Go.Abs

/-! Types -/

namespace Go.Abs
mutual
theorem Ox (n m:Nat) : ∀ d,D.ok 0 0 d=true→D.fg n m d=d
 | .junk,_=>by simp [D.fg]
 | .int k n,_=>by simp [D.fg]
 | .bool b,_=>by simp [D.fg]
 | .str l,_=>by simp [D.fg]
 | .eR,_=>by simp [D.fg]
 | .val v,_=>by simp [D.fg]
 | .fy z,_=>by simp [D.fg]
 | .fm T o,h=>by simp [D.ok]at h
 | .fY o,h=>by simp [D.ok]at h
 | .gj f cs,h=>by
  simp only [D.ok]at h
  simp only [D.fg,il n m cs h]
 | .ptr o f,h=>by simp [D.ok]at h
 | .dG r f,h=>by
  simp only [D.ok]at h
  simp only [D.fg,il n m r h]
 | .slice g z rows,h=>by
  simp only [D.ok,Bool.and_eq_true]at h
  simp only [D.fg,Jg n m rows h.2]
  cases g with
  | tok t y=>simp [Tag.ok]at h
  | full=>rfl
  | shared=>rfl
 | .agg cs,h=>by
  simp only [D.ok]at h
  simp only [D.fg,il n m cs h]
 | .tuple cs,h=>by
  simp only [D.ok]at h
  simp only [D.fg,il n m cs h]
theorem il (n m:Nat) : ∀ l,D.bp 0 0 l=true→D.gF n m l=l
 | [],_=>by simp [D.gF]
 | d::r,h=>by
  simp only [D.bp,Bool.and_eq_true]at h
  simp only [D.gF,Ox n m d h.1,il n m r h.2]
theorem Jg (n m:Nat) : ∀ l,D.gZ 0 0 l=true→D.kx n m l=l
 | [],_=>by simp [D.kx]
 | d::r,h=>by
  simp only [D.gZ,Bool.and_eq_true]at h
  simp only [D.kx,il n m d h.1,Jg n m r h.2]
end
theorem gW {α:Type} {f:α→List D} (h : ∀ x,D.bp 0 0 (f x)=true) (l:List α):D.gZ 0 0 (l.map f)=true:=by
 simp [DH,h]
theorem mL {α:Type} {f:α→List D} (h : ∀ x,D.bp 0 0 (f x)=true) (n m:Nat) (l:List α):D.kx n m (l.map f)=l.map f:=Jg n m _ (gW h l)
theorem LK (n m:Nat) : ∀ a b,D.kx n m (a++b)=D.kx n m a++D.kx n m b
 | [],b=>by simp [D.kx]
 | x::a,b=>by simp [D.kx,LK n m a b]
abbrev aD:=List UInt8
structure fH where
 kind:Int
 text:aD
 n:Int
 pos:Int
deriving DecidableEq
structure Ex where
 op:Int
 n:Int
 name:aD
 kids:List Ex
structure Ar where
 ref:Bool
 name:aD
 x:Ex
structure Sm where
 id:Int
 kind:Int
 labels:List aD
 name:aD
 proc:aD
 x:Ex
 has:Bool
 args:List Ar
 aQ:List Sm
 aM:List Sm
structure Pm where
 name:aD
 ref:Bool
structure Pc where
 name:aD
 params:List Pm
 vars:List aD
 body:List Sm
 fin:List aD
structure Pg where
 globals:List aD
 procs:List Pc
def nu:Ex:=⟨0,0,[],[]⟩
def ar0:Ar:=⟨false,[],nu⟩
def Gp:Sm:=⟨0,0,[],[],[],nu,false,[],[],[]⟩
def DM:Pg:=⟨[],[]⟩
def encStr (s:aD):List D:= [.str s]
def eC (t:fH):List D:= [.int .i64 t.kind, .str t.text, .int .i64 t.n, .int .i64 t.pos]
def sl (z:Nat) (rows:List (List D)):D:= .slice .shared z rows
mutual
def bx:Ex→List D
 | ⟨op,n,name,kids⟩=> [.int .i64 op, .int .i64 n, .str name, .slice .shared 4 (uX kids)]
def uX:List Ex→List (List D)
 | []=> []
 | x::l=>bx x::uX l
end
theorem Gq : ∀ l,uX l=l.map bx
 | []=>by simp [uX]
 | x::l=>by simp [uX,Gq l]
theorem gu (x:Ex):bx x = [.int .i64 x.op, .int .i64 x.n, .str x.name, .slice .shared 4 (x.kids.map bx)]:=by
 cases x;simp [bx,Gq]
def ej (a:Ar):List D:= [.bool a.ref, .str a.name, .int .i64 a.x.op, .int .i64 a.x.n, .str a.x.name, .slice .shared 4 (a.x.kids.map bx)]
mutual
def aU:Sm→List D
 | ⟨id,kind,labels,name,proc,x,has,args,aQ,aM⟩=> [.int .i64 id, .int .i64 kind, .slice .shared 1 (labels.map encStr), .str name, .str proc,
  .int .i64 x.op, .int .i64 x.n, .str x.name, .slice .shared 4 (x.kids.map bx), .bool has, .slice .shared 6 (args.map ej), .slice .shared 13 (s7 aQ), .slice .shared 13 (s7 aM)]
def s7:List Sm→List (List D)
 | []=> []
 | x::l=>aU x::s7 l
end
theorem Gr : ∀ l,s7 l=l.map aU
 | []=>by simp [s7]
 | x::l=>by simp [s7,Gr l]
theorem cv (s:Sm):aU s = [.int .i64 s.id, .int .i64 s.kind, .slice .shared 1 (s.labels.map encStr), .str s.name, .str s.proc,
 .int .i64 s.x.op, .int .i64 s.x.n, .str s.x.name, .slice .shared 4 (s.x.kids.map bx), .bool s.has, .slice .shared 6 (s.args.map ej), .slice .shared 13 (s.aQ.map aU), .slice .shared 13 (s.aM.map aU)]:=by
 cases s;simp [aU,Gr]
def fS (p:Pm):List D:= [.str p.name, .bool p.ref]
def bG (p:Pc):List D:= [.str p.name, .slice .shared 2 (p.params.map fS), .slice .shared 1 (p.vars.map encStr), .slice .shared 13 (p.body.map aU), .slice .shared 1 (p.fin.map encStr)]
def bA (p:Pg):List D:= [.slice .shared 1 (p.globals.map encStr), .slice .shared 5 (p.procs.map bG)]
theorem abq (x:fH):(eC x).length=4:=nd rfl
theorem YU (x:fH):List.take 4 (eC x)=eC x:=nd rfl
theorem YV (x:fH):List.drop 4 (eC x) = []:=nd rfl
theorem QW (x:fH):(eC x)[0]? = some (.int .i64 x.kind):=nd rfl
theorem QX (x:fH):(eC x)[1]? = some (.str x.text):=nd rfl
theorem QY (x:fH):(eC x)[2]? = some (.int .i64 x.n):=nd rfl
theorem QZ (x:fH):(eC x)[3]? = some (.int .i64 x.pos):=nd rfl
theorem afs (DN:Int) (WG:aD) (n_:Int) (abt:Int):eC ⟨DN,WG,n_,abt⟩ = [.int .i64 DN, .str WG, .int .i64 n_, .int .i64 abt]:=by simp only [eC]
theorem WH (x:Ex):(bx x).length=4:=by simp only [gu];rfl
theorem abu (x:Ex):List.take 4 (bx x)=bx x:=by simp only [gu];rfl
theorem abv (x:Ex):List.drop 4 (bx x) = []:=by simp only [gu];rfl
theorem T4 (x:Ex):(bx x)[0]? = some (.int .i64 x.op):=by simp only [gu];rfl
theorem T5 (x:Ex):(bx x)[1]? = some (.int .i64 x.n):=by simp only [gu];rfl
theorem T6 (x:Ex):(bx x)[2]? = some (.str x.name):=by simp only [gu];rfl
theorem T7 (x:Ex):(bx x)[3]? = some (.slice .shared 4 (x.kids.map bx)):=by simp only [gu];rfl
theorem ai0 (op_:Int) (n_:Int) (oi:aD) (WI:List Ex):bx ⟨op_,n_,oi,WI⟩ = [.int .i64 op_, .int .i64 n_, .str oi, .slice .shared 4 (WI.map bx)]:=by simp only [gu]
theorem aft (x:Ar):(ej x).length=6:=nd rfl
theorem abw (x:Ar):List.take 6 (ej x)=ej x:=nd rfl
theorem abx (x:Ar):List.drop 6 (ej x) = []:=nd rfl
theorem T8 (x:Ar):(ej x)[0]? = some (.bool x.ref):=nd rfl
theorem T9 (x:Ar):(ej x)[1]? = some (.str x.name):=nd rfl
theorem Ua (x:Ar):(ej x)[2]? = some (.int .i64 x.x.op):=nd rfl
theorem Ub (x:Ar):(ej x)[3]? = some (.int .i64 x.x.n):=nd rfl
theorem Uc (x:Ar):(ej x)[4]? = some (.str x.x.name):=nd rfl
theorem Ud (x:Ar):(ej x)[5]? = some (.slice .shared 4 (x.x.kids.map bx)):=nd rfl
theorem Ue (x:Ar):List.take 4 (List.drop 2 (ej x))=bx x.x:=by simp only [ej,gu];rfl
theorem ai1 (Jh:Bool) (oi:aD) (x_:Ex):ej ⟨Jh,oi,x_⟩ = [.bool Jh, .str oi, .int .i64 x_.op, .int .i64 x_.n, .str x_.name, .slice .shared 4 (x_.kids.map bx)]:=by simp only [ej]
theorem HX (x:Sm):(aU x).length=13:=by simp only [cv];rfl
theorem aby (x:Sm):List.take 13 (aU x)=aU x:=by simp only [cv];rfl
theorem abz (x:Sm):List.drop 13 (aU x) = []:=by simp only [cv];rfl
theorem Uf (x:Sm):(aU x)[0]? = some (.int .i64 x.id):=by simp only [cv];rfl
theorem Ug (x:Sm):(aU x)[1]? = some (.int .i64 x.kind):=by simp only [cv];rfl
theorem Uh (x:Sm):(aU x)[2]? = some (.slice .shared 1 (x.labels.map encStr)):=by simp only [cv];rfl
theorem Ui (x:Sm):(aU x)[3]? = some (.str x.name):=by simp only [cv];rfl
theorem Uj (x:Sm):(aU x)[4]? = some (.str x.proc):=by simp only [cv];rfl
theorem Uk (x:Sm):(aU x)[5]? = some (.int .i64 x.x.op):=by simp only [cv];rfl
theorem Ul (x:Sm):(aU x)[6]? = some (.int .i64 x.x.n):=by simp only [cv];rfl
theorem Um (x:Sm):(aU x)[7]? = some (.str x.x.name):=by simp only [cv];rfl
theorem Un (x:Sm):(aU x)[8]? = some (.slice .shared 4 (x.x.kids.map bx)):=by simp only [cv];rfl
theorem Uo (x:Sm):(aU x)[9]? = some (.bool x.has):=by simp only [cv];rfl
theorem Q1 (x:Sm):(aU x)[10]? = some (.slice .shared 6 (x.args.map ej)):=by simp only [cv];rfl
theorem Q2 (x:Sm):(aU x)[11]? = some (.slice .shared 13 (x.aQ.map aU)):=by simp only [cv];rfl
theorem Q3 (x:Sm):(aU x)[12]? = some (.slice .shared 13 (x.aM.map aU)):=by simp only [cv];rfl
theorem Uq (x:Sm):List.take 4 (List.drop 5 (aU x))=bx x.x:=by simp only [cv,gu];rfl
theorem ai2 (id_:Int) (DN:Int) (LL:List aD) (oi:aD) (WJ:aD) (x_:Ex) (abA:Bool) (WK:List Ar) (abB:List Sm) (abC:List Sm):aU ⟨id_,DN,LL,oi,WJ,x_,abA,WK,abB,abC⟩ = [.int .i64 id_, .int .i64 DN, .slice .shared 1 (LL.map encStr), .str oi, .str WJ, .int .i64 x_.op, .int .i64 x_.n, .str x_.name, .slice .shared 4 (x_.kids.map bx), .bool abA, .slice .shared 6 (WK.map ej), .slice .shared 13 (abB.map aU), .slice .shared 13 (abC.map aU)]:=by simp only [cv]
theorem afu (x:Pm):(fS x).length=2:=nd rfl
theorem abD (x:Pm):List.take 2 (fS x)=fS x:=nd rfl
theorem abE (x:Pm):List.drop 2 (fS x) = []:=nd rfl
theorem Ur (x:Pm):(fS x)[0]? = some (.str x.name):=nd rfl
theorem Us (x:Pm):(fS x)[1]? = some (.bool x.ref):=nd rfl
theorem ai3 (oi:aD) (Jh:Bool):fS ⟨oi,Jh⟩ = [.str oi, .bool Jh]:=by simp only [fS]
theorem afv (x:Pc):(bG x).length=5:=nd rfl
theorem abF (x:Pc):List.take 5 (bG x)=bG x:=nd rfl
theorem abG (x:Pc):List.drop 5 (bG x) = []:=nd rfl
theorem Ut (x:Pc):(bG x)[0]? = some (.str x.name):=nd rfl
theorem Uu (x:Pc):(bG x)[1]? = some (.slice .shared 2 (x.params.map fS)):=nd rfl
theorem Uv (x:Pc):(bG x)[2]? = some (.slice .shared 1 (x.vars.map encStr)):=nd rfl
theorem Uw (x:Pc):(bG x)[3]? = some (.slice .shared 13 (x.body.map aU)):=nd rfl
theorem Ux (x:Pc):(bG x)[4]? = some (.slice .shared 1 (x.fin.map encStr)):=nd rfl
theorem ai4 (oi:aD) (LM:List Pm) (WL:List aD) (WM:List Sm) (abH:List aD):bG ⟨oi,LM,WL,WM,abH⟩ = [.str oi, .slice .shared 2 (LM.map fS), .slice .shared 1 (WL.map encStr), .slice .shared 13 (WM.map aU), .slice .shared 1 (abH.map encStr)]:=by simp only [bG]
theorem afw (x:Pg):(bA x).length=2:=nd rfl
theorem abI (x:Pg):List.take 2 (bA x)=bA x:=nd rfl
theorem abJ (x:Pg):List.drop 2 (bA x) = []:=nd rfl
theorem Uy (x:Pg):(bA x)[0]? = some (.slice .shared 1 (x.globals.map encStr)):=nd rfl
theorem Uz (x:Pg):(bA x)[1]? = some (.slice .shared 5 (x.procs.map bG)):=nd rfl
theorem ai5 (Ji:List aD) (Q4:List Pc):bA ⟨Ji,Q4⟩ = [.slice .shared 1 (Ji.map encStr), .slice .shared 5 (Q4.map bG)]:=by simp only [bA]
attribute [go_sem] abq YU YV QW QX QY QZ afs WH abu abv T4 T5 T6 T7 ai0 aft abw abx T8 T9 Ua Ub Uc Ud Ue ai1 HX aby abz Uf Ug Uh Ui Uj Uk Ul Um Un Uo Q1 Q2 Q3 Uq ai2 afu abD abE Ur Us ai3 afv abF abG Ut Uu Uv Uw Ux ai4 afw abI abJ Uy Uz ai5
theorem DO (s:aD):D.bp 0 0 (encStr s)=true:=rfl
theorem HY (t:fH):D.bp 0 0 (eC t)=true:=rfl
mutual
theorem gL : ∀ x,D.bp 0 0 (bx x)=true
 | ⟨op,n,name,kids⟩=>by simp [bx,D.bp,D.ok,Tag.ok,WN kids]
theorem WN : ∀ l,D.gZ 0 0 (uX l)=true
 | []=>rfl
 | x::l=>by simp [uX,D.gZ,gL x,WN l]
end
theorem Jj (a:Ar):D.bp 0 0 (ej a)=true:=by simp [ej,D.bp,D.ok,Tag.ok,gW gL]
mutual
theorem km : ∀ x,D.bp 0 0 (aU x)=true
 | ⟨id,kind,labels,name,proc,x,has,args,aQ,aM⟩=>by simp [aU,D.bp,D.ok,Tag.ok,Oy aQ,Oy aM,gW DO,gW gL,gW Jj]
theorem Oy : ∀ l,D.gZ 0 0 (s7 l)=true
 | []=>rfl
 | x::l=>by simp [s7,D.gZ,km x,Oy l]
end
theorem Oz (p:Pm):D.bp 0 0 (fS p)=true:=rfl
theorem uY (p:Pc):D.bp 0 0 (bG p)=true:=by simp [bG,D.bp,D.ok,Tag.ok,gW Oz,gW DO,gW km]
theorem gv (p:Pg):D.bp 0 0 (bA p)=true:=by simp [bA,D.bp,D.ok,Tag.ok,gW DO,gW uY]
theorem abK (n m:Nat) (x:fH):D.gF n m (eC x)=eC x:=il n m _ (HY x)
theorem afx (n m:Nat) (x:Ex):D.gF n m (bx x)=bx x:=il n m _ (gL x)
theorem afy (n m:Nat) (x:Ar):D.gF n m (ej x)=ej x:=il n m _ (Jj x)
theorem afz (n m:Nat) (x:Sm):D.gF n m (aU x)=aU x:=il n m _ (km x)
theorem afA (n m:Nat) (x:Pm):D.gF n m (fS x)=fS x:=il n m _ (Oz x)
theorem afB (n m:Nat) (x:Pc):D.gF n m (bG x)=bG x:=il n m _ (uY x)
theorem afC (n m:Nat) (x:Pg):D.gF n m (bA x)=bA x:=il n m _ (gv x)
attribute [go_sem] abK afx afy afz afA afB afC
theorem eD (l:List aD):D.gZ 0 0 (l.map encStr)=true:=gW DO l
theorem Jk (l:List fH):D.gZ 0 0 (l.map eC)=true:=gW HY l
theorem WO (l:List Ex):D.gZ 0 0 (l.map bx)=true:=gW gL l
theorem HZ (l:List Ar):D.gZ 0 0 (l.map ej)=true:=gW Jj l
theorem iH (l:List Sm):D.gZ 0 0 (l.map aU)=true:=gW km l
theorem OA (l:List Pm):D.gZ 0 0 (l.map fS)=true:=gW Oz l
theorem vV (l:List Pc):D.gZ 0 0 (l.map bG)=true:=gW uY l
theorem Jl (n m:Nat) (l:List aD):D.kx n m (l.map encStr)=l.map encStr:=mL DO n m l
theorem mM (n m:Nat) (l:List fH):D.kx n m (l.map eC)=l.map eC:=mL HY n m l
theorem afD (n m:Nat) (l:List Ex):D.kx n m (l.map bx)=l.map bx:=mL gL n m l
theorem afE (n m:Nat) (l:List Ar):D.kx n m (l.map ej)=l.map ej:=mL Jj n m l
theorem afF (n m:Nat) (l:List Sm):D.kx n m (l.map aU)=l.map aU:=mL km n m l
theorem afG (n m:Nat) (l:List Pm):D.kx n m (l.map fS)=l.map fS:=mL Oz n m l
theorem WQ (n m:Nat) (l:List Pc):D.kx n m (l.map bG)=l.map bG:=mL uY n m l
theorem abL (x:Ex) (r:List D):bx x++r = .int .i64 x.op:: .int .i64 x.n:: .str x.name:: .slice .shared 4 (x.kids.map bx)::r:=by rw [gu];rfl
theorem YW (d:D) (x:Ex):d::bx x = [d, .int .i64 x.op, .int .i64 x.n, .str x.name, .slice .shared 4 (x.kids.map bx)]:=by rw [gu]
attribute [go_sem] abL YW
theorem afH:((0:Nat):Int)=0:=nd rfl
theorem afI:((1:Nat):Int)=1:=nd rfl
theorem afJ:((2:Nat):Int)=2:=nd rfl
attribute [go_sem] afH afI afJ LK List.length_append List.map_append encStr nu ar0 Gp DM Jl mM afD afE afF afG WQ
theorem mx (a b:Nat):(if(b:Int) > (a:Int)then(b:Int)else(a:Int))=((max a b:Nat):Int):=by split <;> omega
theorem cV {x:Int} (h1 : -9223372036854775808≤x) (h2:x<9223372036854775808):IntKind.wrap .i64 x=x:=by
 rw [IntKind.wrap_i64];omega
@[go_sem] theorem aJ {n:Nat} (h:n<4611686018427387904):IntKind.wrap .i64 ((n:Int)+1)=((n+1:Nat):Int):=by
 rw [cV] <;> omega
def inc (n:Nat):Option Nat:=if n<4611686018427387904 then some (n+1)else none
theorem UA {n k:Nat} (h:inc n=some k):IntKind.wrap .i64 ((n:Int)+1)=((n+1:Nat):Int)∧k=n+1:=by
 unfold inc at h
 split at h
 ·rename_i hn;cases h;exact⟨aJ hn,rfl⟩
 ·cases h
def UB (n:Int):Option Int:=if -4611686018427387904<n∧n<4611686018427387904 then some (n+1)else none
theorem Q5 {n k:Int} (h:UB n=some k):IntKind.wrap .i64 (n+1)=n+1∧k=n+1:=by
 unfold UB at h
 split at h
 ·rename_i hn;cases h;exact⟨cV (by omega) (by omega),rfl⟩
 ·cases h
@[go_sem] theorem ahS {n:Nat} (h:n+1<4611686018427387904):IntKind.wrap .i64 ((n:Int)+1)=((n+1:Nat):Int):=by
 rw [cV] <;> omega
@[go_sem] theorem ahT {n:Nat} (h:n<4611686018427387904):IntKind.wrap .i64 ((n:Int)+2)=((n+2:Nat):Int):=by
 rw [cV] <;> omega
def OB {α:Type} (l:List α) (i:Nat):Option α:=if i<4611686018427387904 then l[i]? else none
theorem AY {α:Type} {l:List α} {i:Nat} {x:α} (h:OB l i=some x):i<4611686018427387904∧l[i]? = some x:=by
 unfold OB at h
 split at h
 ·exact⟨‹_›,h⟩
 ·cases h
def push {α:Type} (k:Nat) (l:List α) (x:α):Option (List α):=if(l.length+1)*k≤bl then some (l++ [x])else none
theorem oM {α:Type} {k:Nat} {l l':List α} {x:α} (h:push k l x=some l'):(l.length+1)*k≤bl∧l'=l++ [x]:=by
 unfold push at h
 split at h
 ·cases h;exact⟨‹_›,rfl⟩
 ·cases h
end Go.Abs

/-! Mir -/

namespace Go.Abs
mutual
def Ex.size:Ex→Nat
 | ⟨_,_,_,kids⟩=>1+Ex.aR kids
def Ex.aR:List Ex→Nat
 | []=>0
 | x::l=>1+x.size+Ex.aR l
end
mutual
def Ex.depth:Ex→Nat
 | ⟨_,_,_,kids⟩=>Ex.gR kids+1
def Ex.gR:List Ex→Nat
 | []=>0
 | x::l=>max x.depth (Ex.gR l)
end
def Jm (x:Ex):Option Int:=if x.size<4611686018427387904 then some (x.depth:Int)else none
theorem Ex.bT {x:Ex} : ∀ {l:List Ex},x∈l→x.size<Ex.aR l
 | y::l,h=>by
  simp only [Ex.aR]
  rcases List.mem_cons.1 h with rfl | h
  ·omega
  ·have:=Ex.bT h;omega
theorem Ex.cM : ∀ (l:List Ex),l.length≤Ex.aR l
 | []=>Nat.le_refl _
 | x::l=>by simp only [Ex.aR,List.length_cons];have:=Ex.cM l;omega
theorem Ex.OC : ∀ (n:Nat) (x:Ex),x.size≤n→x.depth≤x.size:=by
 intro n
 induction n with
 | zero=>intro x h;cases x;simp only [Ex.size]at h;omega
 | succ n ih=>
  rintro⟨op,m,name,kids⟩ h
  simp only [Ex.size,Ex.depth]at h ⊢
  have : ∀ l:List Ex,Ex.aR l≤n→Ex.gR l≤Ex.aR l:=by
   intro l
   induction l with
   | nil=>intro _;simp [Ex.gR]
   | cons x l Q6=>
    intro h
    simp only [Ex.aR,Ex.gR]at h ⊢
    have:=ih x (by omega)
    have:=Q6 (by omega)
    omega
  have:=this kids (by omega)
  omega
def qW (t:fH):Int×Int:=
 if t.kind != 4 then(0,0)
 else if t.text == [124,124]then(17,1)
 else if t.text == [38,38]then(16,2)
 else if t.text == [61,61]then(14,3)
 else if t.text == [33,61]then(15,3)
 else if t.text == [60]then(10,4)
 else if t.text == [60,61]then(11,4)
 else if t.text == [62]then(12,4)
 else if t.text == [62,61]then(13,4)
 else if t.text == [43]then(8,5)
 else if t.text == [45]then(9,5)
 else if t.text == [42]then(5,6)
 else if t.text == [47]then(6,6)
 else if t.text == [37]then(7,6)
 else(0,0)
structure Rd where
 l:List fH
 i:Nat
 code:Int
 vW:Int
 n:Nat
abbrev Rd.good (r:Rd):Bool:=r.code==0
def Rd.pD (r:Rd):Option fH:=(OB r.l r.i).bind fun t=>if decide (0≤t.kind) && decide (t.kind≤4)then some t else none
theorem Jn {r:Rd} {t:fH} (h:r.pD=some t):r.i<4611686018427387904∧r.l[r.i]? = some t∧0≤t.kind∧t.kind≤4:=by
 unfold Rd.pD at h
 rw [Option.bind_eq_some_iff]at h
 obtain⟨u,h1,h⟩:=h
 obtain⟨g1,g2⟩:=AY h1
 by_cases hk:(decide (0≤u.kind) && decide (u.kind≤4))=true
 ·rw [if_pos hk]at h
  cases h
  simp only [Bool.and_eq_true,decide_eq_true_eq]at hk
  exact⟨g1,g2,hk.1,hk.2⟩
 ·rw [if_neg hk]at h;cases h
def Rd.bad (c:Int) (r:Rd):Option Rd:=if r.good then r.pD.bind fun t=>some {r with code:=c,vW:=t.pos}else some r
def Rd.is (text:aD) (r:Rd):Option Bool:=r.pD.bind fun t=>some ((t.kind==3 || t.kind==4) && t.text==text)
def Rd.take (text:aD) (r:Rd):Option (Bool×Rd):=
 if !r.good then some (false,r)else(r.is text).bind fun b=>if !b then some (false,r)else some (true,{r with i:=r.i+1})
def Rd.want (text:aD) (r:Rd):Option Rd:=(r.take text).bind fun p=>if !p.1 then p.2.bad 3 else some p.2
def Rd.name (room:Bool) (r:Rd):Option (aD×Rd):=
 r.pD.bind fun t=>if !r.good || t.kind != 1 then(r.bad 3).bind fun r=>some ([],r)else if !room then(r.bad 4).bind fun r=>some ([],r)else some (t.text,{r with i:=r.i+1})
def Rd.on (r:Rd):Rd:= {r with i:=r.i+1}
mutual
def Rd.one:Nat→Rd→Option (Ex×Rd)
 | 0,_=>none
 | n+1,r=>r.pD.bind fun t=>
  if !r.good then some (nu,r)
  else if t.kind==2 then some (⟨1,t.n,[],[]⟩,{r with i:=r.i+1})
  else if t.kind==1 then some (⟨2,0,t.text,[]⟩,{r with i:=r.i+1})
  else(r.take [40]).bind fun p=>
   if p.1 then(Rd.two n 1 p.2).bind fun x=>(x.2.want [41]).bind fun r=>some (x.1,r)
   else(p.2.take [45]).bind fun p=>
    if p.1 then(Rd.one n p.2).bind fun x=>some (⟨3,0,[],[x.1]⟩,x.2)
    else(p.2.take [33]).bind fun p=>
     if p.1 then(Rd.one n p.2).bind fun x=>some (⟨4,0,[],[x.1]⟩,x.2)
     else(p.2.bad 3).bind fun r=>some (nu,r)
def Rd.two:Nat→Int→Rd→Option (Ex×Rd)
 | 0,_,_=>none
 | n+1,least,r=>(Rd.one n r).bind fun x=>Rd.Fq n least x.1 x.2
def Rd.Fq:Nat→Int→Ex→Rd→Option (Ex×Rd)
 | 0,_,_,_=>none
 | n+1,least,x,r=>
  if r.good then r.pD.bind fun t=>
   if decide ((qW t).2<least) || (qW t).1==0 then some (x,r)
   else(Rd.two n ((qW t).2+1) {r with i:=r.i+1}).bind fun y=>Rd.Fq n least ⟨(qW t).1,0,[],[x,y.1]⟩ y.2
  else some (x,r)
end
def Rd.whole (n:Nat) (r:Rd):Option (Ex×Rd):=
 r.pD.bind fun t=>(Rd.two n 1 r).bind fun x=>
  if x.2.good then(Jm x.1).bind fun d=>if decide (d > 20)then some (x.1,{x.2 with code:=4,vW:=t.pos})else some (x.1,x.2)
  else some (x.1,x.2)
def Rd.names:Nat→List aD→Int→Rd→Option (List aD×Rd)
 | 0,_,_,_=>none
 | n+1,l,gw,r=>
  if r.good then(r.name (decide ((l.length:Int)<gw))).bind fun p=>(push 17 l p.1).bind fun l=>(p.2.take [44]).bind fun q=>
   if !q.1 then(q.2.want [59]).bind fun r=>some (l,r)else Rd.names n l gw q.2
  else some (l,r)
def Rd.ahead (sign:aD) (r:Rd):Option Bool:=
 if r.good then r.pD.bind fun t=>if t.kind==1 then(OB r.l (r.i+1)).bind fun u=>some (u.kind==4 && u.text==sign)else some false
 else some false
def Rd.labels:Nat→List aD→Rd→Option (List aD×Rd)
 | 0,_,_=>none
 | n+1,l,r=>(r.ahead [58]).bind fun b=>if b then r.pD.bind fun t=>(push 17 l t.text).bind fun l=>Rd.labels n l {r with i:=r.i+2}else some (l,r)
def Rd.Jo (r:Rd):Option Bool:=
 r.pD.bind fun t=>some (if t.kind==1 then true else if t.kind != 3 then false
  else t.text == [105,102] || t.text == [119,104,105,108,101] || t.text == [98,114,101,97,107] || t.text == [99,111,110,116,105,110,117,101] || t.text == [114,101,116,117,114,110] || t.text == [103,111,116,111] || t.text == [114,101,97,100] || t.text == [112,114,105,110,116])
def Rd.yK (m:Nat):Nat→List Ar→Rd→Option (List Ar×Rd)
 | 0,_,_=>none
 | n+1,l,r=>
  if r.good then(r.take [114,101,102]).bind fun p=>
   if p.1 then(p.2.name true).bind fun x=>(push 81 l ⟨true,x.1,nu⟩).bind fun l=>(x.2.take [44]).bind fun c=>if !c.1 then some (l,c.2)else Rd.yK m n l c.2
   else(Rd.whole m p.2).bind fun x=>(push 81 l ⟨false,[],x.1⟩).bind fun l=>(x.2.take [44]).bind fun c=>if !c.1 then some (l,c.2)else Rd.yK m n l c.2
  else some (l,r)
def Rd.other (sign:aD) (r:Rd):Option Bool:=if r.good then(r.is sign).bind fun b=>some !b else some false
def Rd.call (m:Nat) (name proc:aD) (r:Rd):Option (Sm×Rd):=
 (r.want [40]).bind fun r=>(r.other [41]).bind fun b=>
  if b then(Rd.yK m m [] r).bind fun q=>(q.2.want [41]).bind fun r=>(r.want [59]).bind fun r=>some (⟨0,4,[],name,proc,nu,false,q.1,[],[]⟩,r)
  else(r.want [41]).bind fun r=>(r.want [59]).bind fun r=>some (⟨0,4,[],name,proc,nu,false,[],[],[]⟩,r)
def Rd.named (m:Nat) (r:Rd):Option (Sm×Rd):=
 (r.name true).bind fun x=>(x.2.is [40]).bind fun b=>
  if b then Rd.call m [] x.1 x.2
  else(x.2.want [61]).bind fun r=>(r.ahead [40]).bind fun b=>
   if b then(r.name true).bind fun y=>Rd.call m x.1 y.1 y.2
   else(Rd.whole m r).bind fun y=>(y.2.want [59]).bind fun r=>some (⟨0,1,[],x.1,[],y.1,false,[],[],[]⟩,r)
def Rd.plain (m:Nat) (word:aD) (r:Rd):Option (Sm×Rd):=
 if word == [98,114,101,97,107]then some (⟨0,7,[],[],[],nu,false,[],[],[]⟩,r)
 else if word == [99,111,110,116,105,110,117,101]then some (⟨0,8,[],[],[],nu,false,[],[],[]⟩,r)
 else if word == [114,101,116,117,114,110]then(r.is [59]).bind fun b=>
  if !b then(Rd.whole m r).bind fun x=>some (⟨0,9,[],[],[],x.1,true,[],[],[]⟩,x.2)else some (⟨0,9,[],[],[],nu,false,[],[],[]⟩,r)
 else if word == [103,111,116,111]then(r.name true).bind fun x=>some (⟨0,10,[],x.1,[],nu,false,[],[],[]⟩,x.2)
 else if word == [114,101,97,100]then(r.name true).bind fun x=>some (⟨0,2,[],x.1,[],nu,false,[],[],[]⟩,x.2)
 else if word == [112,114,105,110,116]then(Rd.whole m r).bind fun x=>some (⟨0,3,[],[],[],x.1,false,[],[],[]⟩,x.2)
 else some (Gp,r)
def Rd.head (m:Nat) (r:Rd):Option (Ex×Rd):=(r.want [40]).bind fun r=>(Rd.whole m r).bind fun x=>(x.2.want [41]).bind fun r=>some (x.1,r)
mutual
def Rd.rows (m:Nat):Nat→Int→Bool→Rd→Option ((List Sm×List aD)×Rd)
 | 0,_,_,_=>none
 | n+1,nest,body,r=>Rd.vX m n nest body [] r
def Rd.vX (m:Nat):Nat→Int→Bool→List Sm→Rd→Option ((List Sm×List aD)×Rd)
 | 0,_,_,_,_=>none
 | n+1,nest,body,out,r=>
  if r.good then(Rd.labels m [] r).bind fun l=>(l.2.is [125]).bind fun b=>
   if b && (body || (l.1.length:Int)==0)then some ((out,l.1),{l.2 with i:=l.2.i+1})
   else(Rd.stmt m n nest l.2).bind fun s=>(push 209 out {s.1 with labels:=l.1}).bind fun out=>Rd.vX m n nest body out s.2
  else some (([],[]),r)
def Rd.stmt (m:Nat):Nat→Int→Rd→Option (Sm×Rd)
 | 0,_,_=>none
 | n+1,nest,r=>r.Jo.bind fun b=>
  if !b then(r.bad 3).bind fun r=>some (Gp,r)
  else(inc r.n).bind fun k=>
   if decide ((k:Int) > 200) || decide (nest > 12)then(({r with n:=k} : Rd).bad 4).bind fun r=>some (Gp,r)
   else({r with n:=k} : Rd).pD.bind fun t=>
    if t.kind==1 then Rd.named m {r with n:=k}
    else if t.text == [105,102]then Rd.choice m n nest {r with n:=k,i:=r.i+1}
    else if t.text == [119,104,105,108,101]then(Rd.head m {r with n:=k,i:=r.i+1}).bind fun x=>(Rd.block m n nest x.2).bind fun b=>some (⟨0,6,[],[],[],x.1,false,[],b.1,[]⟩,b.2)
    else(Rd.plain m t.text {r with n:=k,i:=r.i+1}).bind fun s=>(s.2.want [59]).bind fun r=>some (s.1,r)
def Rd.block (m:Nat):Nat→Int→Rd→Option (List Sm×Rd)
 | 0,_,_=>none
 | n+1,nest,r=>(r.want [123]).bind fun r=>(UB nest).bind fun k=>(Rd.rows m n k false r).bind fun p=>some (p.1.1,p.2)
def Rd.choice (m:Nat):Nat→Int→Rd→Option (Sm×Rd)
 | 0,_,_=>none
 | n+1,nest,r=>(Rd.head m r).bind fun x=>(Rd.block m n nest x.2).bind fun t=>(t.2.take [101,108,115,101]).bind fun q=>
  if q.1 then(Rd.block m n nest q.2).bind fun e=>some (⟨0,5,[],[],[],x.1,false,[],t.1,e.1⟩,e.2)
  else some (⟨0,5,[],[],[],x.1,false,[],t.1,[]⟩,q.2)
end
def Rd.params:Nat→List Pm→Rd→Option (List Pm×Rd)
 | 0,_,_=>none
 | n+1,l,r=>
  if r.good then(r.take [114,101,102]).bind fun q=>(q.2.name (decide ((l.length:Int)<8))).bind fun x=>(push 25 l ⟨x.1,q.1⟩).bind fun l=>(x.2.take [44]).bind fun c=>
   if !c.1 then some (l,c.2)else Rd.params n l c.2
  else some (l,r)
def Rd.vars (m:Nat):Nat→List aD→Rd→Option (List aD×Rd)
 | 0,_,_=>none
 | n+1,l,r=>(r.take [118,97,114]).bind fun q=>if q.1 then(Rd.names m l 16 q.2).bind fun x=>Rd.vars m n x.1 x.2 else some (l,q.2)
def Rd.yL (m:Nat) (name:aD) (ps:List Pm) (r:Rd):Option (Pc×Rd):=
 (Rd.vars m m [] r).bind fun v=>(Rd.rows m m 1 true v.2).bind fun b=>some (⟨name,ps,v.1,b.1.1,b.1.2⟩,b.2)
def Rd.proc (m:Nat) (r:Rd):Option (Pc×Rd):=
 (r.name true).bind fun x=>(x.2.want [40]).bind fun r=>(r.other [41]).bind fun b=>
  if b then(Rd.params m [] r).bind fun q=>(q.2.want [41]).bind fun r=>(r.want [123]).bind fun r=>Rd.yL m x.1 q.1 r
  else(r.want [41]).bind fun r=>(r.want [123]).bind fun r=>Rd.yL m x.1 [] r
def Rd.globals (m:Nat):Nat→List aD→Rd→Option (List aD×Rd)
 | 0,_,_=>none
 | n+1,l,r=>(r.take [103,108,111,98,97,108]).bind fun q=>if q.1 then(Rd.names m l 16 q.2).bind fun x=>Rd.globals m n x.1 x.2 else some (l,q.2)
def Rd.Q7 (r:Rd):Option Bool:=if r.good then r.is [112,114,111,99]else some false
def Rd.Jp (r:Rd):Option Bool:=if r.good then r.pD.bind fun t=>some (t.kind != 0)else some false
def Rd.procs (m:Nat):Nat→List Pc→Rd→Option (List Pc×Rd)
 | 0,_,_=>none
 | n+1,l,r=>r.Q7.bind fun b=>
  if b then
   if(l.length:Int)==16 then(r.bad 4).bind fun r=>some (l,r)
   else(Rd.proc m {r with i:=r.i+1}).bind fun x=>(push 113 l x.1).bind fun l=>Rd.procs m n l x.2
  else r.Jp.bind fun b=>if b then(r.bad 3).bind fun r=>some (l,r)else some (l,r)
def Rd.program (m:Nat) (r:Rd):Option (Pg×Rd):=(Rd.globals m m [] r).bind fun g=>(Rd.procs m m [] g.2).bind fun q=>some (⟨g.1,q.1⟩,q.2)
mutual
def Ex.beq:Ex→Ex→Bool
 | ⟨op,n,name,kids⟩,⟨op',n',OD,WR⟩=>if op != op' || n != n' || !(name==OD) || (kids.length:Int) != (WR.length:Int)then false else Ex.pE kids WR
def Ex.pE:List Ex→List Ex→Bool
 | [],_=>true
 | _::_,[]=>true
 | x::l,y::l'=>if !Ex.beq x y then false else Ex.pE l l'
end
end Go.Abs

/-! MirLex -/

namespace Go.Abs
def qX (c:UInt8):Bool:=decide ((c.toNat:Int)≥97) && decide ((c.toNat:Int)≤122)
def pz (c:UInt8):Bool:=decide ((c.toNat:Int)≥48) && decide ((c.toNat:Int)≤57)
def zO (c:UInt8):Bool:=(c.toNat:Int)==32 || (c.toNat:Int)==9 || (c.toNat:Int)==10 || (c.toNat:Int)==13
def lD:aD→Nat
 | []=>0
 | c::r=>if qX c || pz c then lD r+1 else 0
def qY:aD→Nat
 | []=>0
 | c::r=>if pz c then qY r+1 else 0
def p6:aD→Nat
 | []=>0
 | c::r=>if(c.toNat:Int) != 10 then p6 r+1 else 0
def isWord (s:aD):Bool:=
 s == [103,108,111,98,97,108] || s == [112,114,111,99] || s == [118,97,114] || s == [114,101,102] || s == [105,102] || s == [101,108,115,101] || s == [119,104,105,108,101] || s == [98,114,101,97,107] || s == [99,111,110,116,105,110,117,101] || s == [114,101,116,117,114,110] || s == [103,111,116,111] || s == [114,101,97,100] || s == [112,114,105,110,116]
def WS (s:aD):Bool:=s == [61,61] || s == [33,61] || s == [60,61] || s == [62,61] || s == [38,38] || s == [124,124]
def H0 (c:UInt8):Bool:=
 (c.toNat:Int)==40 || (c.toNat:Int)==41 || (c.toNat:Int)==123 || (c.toNat:Int)==125 || (c.toNat:Int)==44 || (c.toNat:Int)==59 || (c.toNat:Int)==58 || (c.toNat:Int)==61 ||
 (c.toNat:Int)==33 || (c.toNat:Int)==60 || (c.toNat:Int)==62 || (c.toNat:Int)==43 || (c.toNat:Int)==45 || (c.toNat:Int)==42 || (c.toNat:Int)==47 || (c.toNat:Int)==37
def sF:aD→Nat
 | []=>0
 | [c]=>if H0 c then 1 else 0
 | c::d::_=>if WS [c,d]then 2 else if H0 c then 1 else 0
def vY:Int→aD→Option Int
 | n,[]=>some n
 | n,c::r=>if n > (9223372036854775807 - ((c.toNat:Int) - 48)) / 10 then none else vY (n*10+((c.toNat:Int) - 48)) r
def OE (pos:Nat):aD→fH ⊕ Int
 | []=> .inr 2
 | c::r=>
  if qX c then
   let s:=(c::r).take (lD (c::r))
   if s.length > 8 then .inr 4 else .inl ⟨if isWord s then 3 else 1,s,0,pos⟩
  else if pz c then
   let s:=(c::r).take (qY (c::r))
   if s.length > 1∧(c.toNat:Int)=48 then .inr 2 else
   match vY 0 s with
   | some n=> .inl ⟨2,s,n,pos⟩
   | none=> .inr 4
  else
   if sF (c::r)=0 then .inr 2 else .inl ⟨4,(c::r).take (sF (c::r)),0,pos⟩
def nD:Nat→Nat→aD→List fH→List fH×Int×Int
 | 0,_,_,_=>([],0,0)
 | _+1,pos,[],out=>(out++ [⟨0,[],0,pos⟩],0,0)
 | n+1,pos,c::r,out=>
  if zO c then nD n (pos+1) r out
  else if(c.toNat:Int)==35 then nD n (pos+p6 (c::r)) ((c::r).drop (p6 (c::r))) out
  else match OE pos (c::r)with
   | .inr e=>([],e,pos)
   | .inl t=>if out.length=2000 then([],4,pos)else nD n (pos+t.text.length) ((c::r).drop t.text.length) (out++ [t])
def oN (text:aD):List fH×Int×Int:=if text.length > 100000 then([],4,0)else nD (text.length+1) 0 text []
end Go.Abs

/-! MirTree -/

namespace Go.Abs
def Ar.aR:List Ar→Nat
 | []=>0
 | a::l=>1+a.x.size+Ar.aR l
mutual
def Sm.size:Sm→Nat
 | ⟨_,_,labels,_,_,x,_,args,aQ,aM⟩=>1+labels.length+x.size+Ar.aR args+Sm.aR aQ+Sm.aR aM
def Sm.aR:List Sm→Nat
 | []=>0
 | s::l=>1+s.size+Sm.aR l
end
def Pc.size (f:Pc):Nat:=1+f.params.length+f.vars.length+f.fin.length+Sm.aR f.body
def Pc.aR:List Pc→Nat
 | []=>0
 | f::l=>1+f.size+Pc.aR l
def Pg.size (p:Pg):Nat:=1+p.globals.length+Pc.aR p.procs
mutual
def Sm.num (b:Bool) (n:Nat):Sm→Sm×Nat
 | ⟨id,kind,labels,name,proc,x,has,args,aQ,aM⟩=>
  (⟨if b then((n+1:Nat):Int)else id,kind,labels,name,proc,x,has,args,(Sm.cE b (n+1) aQ).1,(Sm.cE b (Sm.cE b (n+1) aQ).2 aM).1⟩,(Sm.cE b (Sm.cE b (n+1) aQ).2 aM).2)
def Sm.cE (b:Bool) (n:Nat):List Sm→List Sm×Nat
 | []=>([],n)
 | s::l=>((Sm.num b n s).1::(Sm.cE b (Sm.num b n s).2 l).1,(Sm.cE b (Sm.num b n s).2 l).2)
end
def Pc.cE (n:Nat):List Pc→List Pc
 | []=> []
 | f::l=> {f with body:=(Sm.cE true n f.body).1}::Pc.cE (Sm.cE true n f.body).2 l
def Pg.number (p:Pg):Pg:= {p with procs:=Pc.cE 0 p.procs}
def Pg.Fs (p:Pg):Option Pg:=if p.size<1073741824 then some p.number else none
mutual
theorem Sm.abM (b:Bool) (n:Nat) : ∀ s:Sm,(Sm.num b n s).2≤n+s.size
 | ⟨id,kind,labels,name,proc,x,has,args,aQ,aM⟩=>by
  simp only [Sm.num,Sm.size]
  have h1:=Sm.n4 b (n+1) aQ
  have h2:=Sm.n4 b (Sm.cE b (n+1) aQ).2 aM
  omega
theorem Sm.n4 (b:Bool) (n:Nat) : ∀ l:List Sm,(Sm.cE b n l).2≤n+Sm.aR l
 | []=>by simp [Sm.cE,Sm.aR]
 | s::l=>by
  simp only [Sm.cE,Sm.aR]
  have h1:=Sm.abM b n s
  have h2:=Sm.n4 b (Sm.num b n s).2 l
  omega
end
theorem Sm.cM : ∀ (l:List Sm),l.length≤Sm.aR l
 | []=>Nat.le_refl _
 | x::l=>by simp only [Sm.aR,List.length_cons];have:=Sm.cM l;omega
theorem Ar.cM : ∀ (l:List Ar),l.length≤Ar.aR l
 | []=>Nat.le_refl _
 | x::l=>by simp only [Ar.aR,List.length_cons];have:=Ar.cM l;omega
theorem Pc.cM : ∀ (l:List Pc),l.length≤Pc.aR l
 | []=>Nat.le_refl _
 | x::l=>by simp only [Pc.aR,List.length_cons];have:=Pc.cM l;omega
theorem Ar.bT {x:Ar} : ∀ {l:List Ar},x∈l→x.x.size<Ar.aR l
 | y::l,h=>by
  simp only [Ar.aR]
  rcases List.mem_cons.1 h with rfl | h
  ·omega
  ·have:=Ar.bT h;omega
theorem Sm.bT {x:Sm} : ∀ {l:List Sm},x∈l→x.size<Sm.aR l
 | y::l,h=>by
  simp only [Sm.aR]
  rcases List.mem_cons.1 h with rfl | h
  ·omega
  ·have:=Sm.bT h;omega
theorem Pc.bT {x:Pc} : ∀ {l:List Pc},x∈l→x.size<Pc.aR l
 | y::l,h=>by
  simp only [Pc.aR]
  rcases List.mem_cons.1 h with rfl | h
  ·omega
  ·have:=Pc.bT h;omega
theorem Sm.Jq (b:Bool) (n:Nat) : ∀ l:List Sm,(Sm.cE b n l).1.length=l.length
 | []=>rfl
 | s::l=>by simp only [Sm.cE,List.length_cons,Sm.Jq b _ l]
end Go.Abs

/-! MirMay -/

namespace Go.Abs
def uq:aD→Bool
 | []=>true
 | c::r=>if !(qX c) && !(pz c)then false else uq r
def isName:aD→Bool
 | []=>false
 | c::r=>if decide (((r.length+1:Nat):Int) > 8) || !(qX c)then false else if uq r then !(isWord (c::r))else false
def mN (op:Int):Int:=if op==1 || op==2 then 0 else if op==3 || op==4 then 1 else if decide (op≥5) && decide (op≤17)then 2 else -1
mutual
def Ex.form:Ex→Bool
 | ⟨op,n,name,kids⟩=>
  if mN op != (kids.length:Int) || (op != 1 && n != 0) || decide (n<0) || !((op==2) == !(name == [])) || (!(name == []) && !(isName name))then false else Ex.o8 kids
def Ex.o8:List Ex→Bool
 | []=>true
 | x::l=>if !(Ex.form x)then false else Ex.o8 l
end
mutual
def Ex.texts:Ex→Prop
 | ⟨_,_,name,kids⟩=>name.length<4611686018427387904∧Ex.uZ kids
def Ex.uZ:List Ex→Prop
 | []=>True
 | x::l=>x.texts∧Ex.uZ l
end
theorem Ex.DP {x:Ex} : ∀ {l:List Ex},Ex.uZ l→x∈l→x.texts
 | y::l,h,m=>by
  rcases List.mem_cons.1 m with rfl | m
  ·exact h.1
  ·exact Ex.DP h.2 m
theorem Ex.Gs {op n:Int} {name:aD} {kids:List Ex} (h:Ex.texts ⟨op,n,name,kids⟩) {y:Ex} (m:y∈kids):y.texts:=Ex.DP h.2 m
def Ex.may (x:Ex):Bool:=decide (((min x.depth 21:Nat):Int)≤20) && x.form
def Ex.none (x:Ex):Bool:=x.op==0 && x.n==0 && x.name == [] && (x.kids.length:Int)==0
def dk:List aD→Bool
 | []=>true
 | s::l=>if !(isName s)then false else dk l
def Ar.may (a:Ar):Bool:=if a.ref then isName a.name && a.x.none else a.name == [] && a.x.may
def Ar.eA:List Ar→Bool
 | []=>true
 | a::l=>if !(a.may)then false else Ar.eA l
def Sm.wS (s:Sm):Bool:=s.kind==1 || s.kind==3 || s.kind==5 || s.kind==6 || (s.kind==9 && s.has)
def Sm.hasName (s:Sm):Bool:=s.kind==1 || s.kind==2 || s.kind==10
def Sm.pJ (s:Sm):Bool:=s.kind==4
def Sm.one (s:Sm):Bool:=
 if decide (s.kind<1) || decide (s.kind > 10) || !(dk s.labels) || (s.wS && !(s.x.may)) || (!(s.wS) && !(s.x.none)) || (s.has && s.kind != 9)then false
 else if(s.hasName && !(isName s.name)) || (!(s.hasName) && !(s.name == []) && !(s.pJ && isName s.name))then false
 else if !(s.pJ == !(s.proc == [])) || (s.pJ && !(isName s.proc)) || (!(s.pJ) && decide ((s.args.length:Int) > 0))then false
 else if !(Ar.eA s.args)then false
 else((s.aQ.length:Int)==0 || s.kind==5 || s.kind==6) && ((s.aM.length:Int)==0 || s.kind==5)
structure It where
 s:Sm
 deep:Int
 bO:Int
 aM:Bool
mutual
def fT (deep bO:Int) (aM:Bool) (out:List It):Sm→List It
 | ⟨id,kind,labels,name,proc,x,has,args,aQ,e⟩=>
  if decide (deep≤12)then dw (deep+1) id true (dw (deep+1) id false (out++ [⟨⟨id,kind,labels,name,proc,x,has,args,aQ,e⟩,deep,bO,aM⟩]) aQ) e
  else out++ [⟨⟨id,kind,labels,name,proc,x,has,args,aQ,e⟩,deep,bO,aM⟩]
def dw (deep bO:Int) (aM:Bool) (out:List It):List Sm→List It
 | []=>out
 | s::l=>if decide ((out.length:Int)≤200)then dw deep bO aM (fT deep bO aM out s) l else out
end
def Pc.flat (f:Pc):List It:=dw 1 0 false [] f.body
def allM (out:List It):List Pc→List It
 | []=>out
 | f::l=>if decide (((out++f.flat).length:Int) > 200)then out++f.flat else allM (out++f.flat) l
def Pg.all (p:Pg):List It:=allM [] p.procs
def Pm.eA:List Pm→Bool
 | []=>true
 | a::l=>if !(isName a.name)then false else Pm.eA l
def Pc.lQ:List Pc→Bool
 | []=>true
 | f::l=>
  if !(isName f.name) || decide ((f.params.length:Int) > 8) || decide ((f.vars.length:Int) > 16) || !(dk f.vars) || !(dk f.fin)then false
  else if !(Pm.eA f.params)then false else Pc.lQ l
def It.eA (n:Nat):List It→Bool
 | []=>true
 | i::l=>if i.s.id != ((n+1:Nat):Int) || decide (i.deep > 12) || !(i.s.one)then false else It.eA (n+1) l
def Pg.may (p:Pg):Bool:=
 if decide ((p.globals.length:Int) > 16) || decide ((p.procs.length:Int) > 16) || !(dk p.globals)then false
 else if !(Pc.lQ p.procs)then false
 else if decide ((p.all.length:Int) > 200)then false else It.eA 0 p.all
end Go.Abs

/-! Swap0 -/

namespace Go.Abs
def Cp (a b t:aD):aD:=if t==a then b else if t==b then a else t
mutual
def Ex.swap (a b:aD):Ex→Ex
 | ⟨op,n,name,kids⟩=>⟨op,n,Cp a b name,Ex.yM a b kids⟩
def Ex.yM (a b:aD):List Ex→List Ex
 | []=> []
 | x::l=>x.swap a b::Ex.yM a b l
end
def Ar.swap (a b:aD) (x:Ar):Ar:=⟨x.ref,Cp a b x.name,x.x.swap a b⟩
mutual
def Sm.swap (a b:aD):Sm→Sm
 | ⟨id,kind,labels,name,proc,x,has,args,aQ,aM⟩=>⟨id,kind,labels.map (Cp a b),Cp a b name,Cp a b proc,x.swap a b,has,args.map (Ar.swap a b),Sm.yM a b aQ,Sm.yM a b aM⟩
def Sm.yM (a b:aD):List Sm→List Sm
 | []=> []
 | s::l=>s.swap a b::Sm.yM a b l
end
def Pm.swap (a b:aD) (x:Pm):Pm:=⟨Cp a b x.name,x.ref⟩
def Pc.swap (a b:aD) (f:Pc):Pc:=⟨Cp a b f.name,f.params.map (Pm.swap a b),f.vars.map (Cp a b),Sm.yM a b f.body,f.fin.map (Cp a b)⟩
def Pg.swap (a b:aD) (p:Pg):Pg:=⟨p.globals.map (Cp a b),p.procs.map (Pc.swap a b)⟩
end Go.Abs

/-! Nums -/

namespace Go.Abs
def UC:Nat:=3
def SR:Nat:=4
def Q8:Nat:=5
def Q9:Nat:=6
def SS:Nat:=7
def SU:Nat:=8
def tY:Nat:=9
def SV:Nat:=10
def SW:Nat:=11
def qZ:Nat:=12
def wT:Nat:=13
def pK:Nat:=14
def afK:Nat:=15
def pL:Nat:=16
def abN:Nat:=17
def afL:Nat:=18
def u5:Nat:=19
def aeE:Nat:=20
def ahU:Nat:=21
def ur:Nat:=22
def lF:Nat:=23
def p7:Nat:=24
def u6:Nat:=25
def tv:Nat:=26
def tw:Nat:=27
def nE:Nat:=28
def aeF:Nat:=29
def aeG:Nat:=30
def pM:Nat:=31
def yN:Nat:=32
def oO:Nat:=33
def tx:Nat:=34
def wU:Nat:=35
def yO:Nat:=36
def wV:Nat:=37
def uu:Nat:=38
def AZ:Nat:=39
def wW:Nat:=40
def aah:Nat:=41
def abO:Nat:=42
def abP:Nat:=43
def tz:Nat:=44
def wX:Nat:=45
def jo:Nat:=46
def gx:Nat:=47
def ky:Nat:=48
def abQ:Nat:=49
def abR:Nat:=50
def abS:Nat:=51
def WT:Nat:=52
def abT:Nat:=53
def YX:Nat:=54
def Ft:Nat:=55
def mO:Nat:=56
def jS:Nat:=57
def iX:Nat:=58
def nV:Nat:=59
def lR:Nat:=60
def wY:Nat:=61
def gb:Nat:=62
def oj:Nat:=63
def cr:Nat:=64
def gS:Nat:=65
def p8:Nat:=66
def u7:Nat:=67
def q5:Nat:=68
def pN:Nat:=69
def u9:Nat:=70
def q6:Nat:=71
def rZ:Nat:=72
def A0:Nat:=73
def l9:Nat:=74
def p9:Nat:=75
def oP:Nat:=76
def vZ:Nat:=77
def uv:Nat:=78
def UD:Nat:=79
def abU:Nat:=80
def UE:Nat:=81
def aai:Nat:=82
def sG:Nat:=83
def aeH:Nat:=84
def q7:Nat:=85
def jT:Nat:=86
def je:Nat:=87
def wZ:Nat:=88
def jD:Nat:=89
def WU:Nat:=90
def afM:Nat:=91
def aeI:Nat:=92
def aeJ:Nat:=93
def aeK:Nat:=94
def q8:Nat:=95
def kP:Nat:=96
def uw:Nat:=97
def jE:Nat:=98
def abV:Nat:=99
def abW:Nat:=100
def abX:Nat:=101
def aeL:Nat:=102
def WV:Nat:=103
def aaj:Nat:=104
def aak:Nat:=105
def abY:Nat:=106
def afN:Nat:=107
def aal:Nat:=108
def aam:Nat:=109
def aeM:Nat:=110
def aeN:Nat:=111
def aan:Nat:=112
def aao:Nat:=113
def aap:Nat:=114
def Jr:Nat:=115
def tA:Nat:=116
def jF:Nat:=117
def kF:Nat:=118
def q9:Nat:=119
def va:Nat:=120
def vb:Nat:=121
def ra:Nat:=122
def tB:Nat:=123
def w7:Nat:=124
def mw:Nat:=125
def jf:Nat:=126
def jw:Nat:=127
def pO:Nat:=128
def yP:Nat:=129
def vd:Nat:=130
def dD:Nat:=131
def jg:Nat:=132
def cP:Nat:=133
def fK:Nat:=134
def e9:Nat:=135
def n9:Nat:=136
def dE:Nat:=137
def gX:Nat:=138
def lg:Nat:=139
def kn:Nat:=140
def WW:Nat:=141
def ma:Nat:=142
def abZ:Nat:=143
def mP:Nat:=144
def nF:Nat:=145
def k8:Nat:=146
def aeO:Nat:=147
def ve:Nat:=148
def kQ:Nat:=149
def DQ:Nat:=150
def aeP:Nat:=151
def YY:Nat:=152
def ab0:Nat:=153
def ab1:Nat:=154
def aaq:Nat:=155
def Fu:Nat:=156
def aar:Nat:=157
def oQ:Nat:=158
def rb:Nat:=159
def tC:Nat:=160
def mb:Nat:=161
def rf:Nat:=162
def gT:Nat:=163
def om:Nat:=164
def tD:Nat:=165
def gl:Nat:=166
def lu:Nat:=167
def DR:Nat:=168
def WX:Nat:=169
def eJ:Nat:=170
def di:Nat:=171
def gM:Nat:=172
def mc:Nat:=173
def o9:Nat:=174
def Lb:Nat:=175
def jh:Nat:=176
def rh:Nat:=177
def vf:Nat:=178
def w8:Nat:=179
def sH:Nat:=180
def yQ:Nat:=181
def aeQ:Nat:=182
def aeR:Nat:=183
def aas:Nat:=184
def aat:Nat:=185
def aeS:Nat:=186
def ab2:Nat:=187
def aeT:Nat:=188
def Hq:Nat:=189
def pb:Nat:=190
def w9:Nat:=191
def iI:Nat:=192
def A1:Nat:=193
def Dj:Nat:=194
def A2:Nat:=195
def B3:Nat:=196
def BL:Nat:=197
def xx:Nat:=198
def SX:Nat:=199
def Ag:Nat:=200
def CR:Nat:=201
def SY:Nat:=202
def SZ:Nat:=203
def mQ:Nat:=204
def oa:Nat:=205
def pP:Nat:=206
def pQ:Nat:=207
def aau:Nat:=208
def vg:Nat:=209
def vh:Nat:=210
def afO:Nat:=211
def afP:Nat:=212
def aeU:Nat:=213
def aeV:Nat:=214
def ab3:Nat:=215
def WY:Nat:=216
def aav:Nat:=217
def YZ:Nat:=218
def pR:Nat:=219
def Dk:Nat:=220
def Kz:Nat:=221
def Lc:Nat:=222
def Ah:Nat:=223
def E6:Nat:=224
def Ra:Nat:=225
def mR:Nat:=226
def nG:Nat:=227
def mS:Nat:=228
def lx:Nat:=229
def ji:Nat:=230
def nH:Nat:=231
def aaw:Nat:=232
def ab4:Nat:=233
def Hr:Nat:=234
def Fv:Nat:=235
def Y0:Nat:=236
def xa:Nat:=237
def E7:Nat:=238
def ly:Nat:=239
def gy:Nat:=240
def aax:Nat:=241
def iY:Nat:=242
def lG:Nat:=243
def jU:Nat:=244
def ux:Nat:=245
end Go.Abs

/-! Codes0 -/

namespace Go.Abs
abbrev AI.o (t:Nat) (a:AO):AI:= .op (some t) none a
abbrev AI.g (t c:Nat) (b:Bool) (a:AO):AI:= .op (some t) (some (c,b)) a
abbrev AI.c (t f:Nat) (l:List X):AI:= .call (some t) none f l
abbrev AI.d (t c:Nat) (b:Bool) (f:Nat) (l:List X):AI:= .call (some t) (some (c,b)) f l
abbrev AI.m (t:Nat) (x:X):AI:= .op (some t) none (.mv x)
abbrev aW:X:= .s 0
abbrev bc:X:= .s 1
abbrev df:X:= .s 2
abbrev bQ:X:= .s 3
abbrev cR:X:= .s 4
abbrev bj:X:= .s 5
abbrev bU:X:= .s 6
abbrev bJ:X:= .s 7
abbrev bS:X:= .s 8
abbrev cb:X:= .s 9
abbrev bP:X:= .s 10
abbrev bM:X:= .s 11
abbrev bZ:X:= .s 12
abbrev bY:X:= .s 13
abbrev bN:X:= .s 14
abbrev cd:X:= .s 15
abbrev b7:X:= .s 16
abbrev cJ:X:= .s 17
abbrev cG:X:= .s 18
abbrev cW:X:= .s 19
abbrev dd:X:= .s 20
abbrev dh:X:= .s 21
abbrev dt:X:= .s 22
abbrev dz:X:= .s 23
abbrev da:X:= .s 24
abbrev db:X:= .s 25
abbrev dS:X:= .s 26
abbrev dM:X:= .s 27
abbrev ey:X:= .s 28
abbrev ez:X:= .s 29
abbrev eK:X:= .s 30
abbrev eU:X:= .s 31
abbrev fh:X:= .s 32
abbrev fc:X:= .s 33
abbrev fA:X:= .s 34
abbrev fw:X:= .s 35
abbrev fJ:X:= .s 36
abbrev gd:X:= .s 37
abbrev gG:X:= .s 38
abbrev gC:X:= .s 39
abbrev gU:X:= .s 40
abbrev gV:X:= .s 41
abbrev ie:X:= .s 42
abbrev iQ:X:= .s 43
abbrev jj:X:= .s 44
abbrev jV:X:= .s 45
abbrev jW:X:= .s 46
abbrev kG:X:= .s 47
abbrev jG:X:= .s 48
abbrev jX:X:= .s 49
abbrev lh:X:= .s 50
abbrev ko:X:= .s 51
abbrev kH:X:= .s 52
abbrev kI:X:= .s 53
abbrev lj:X:= .s 54
abbrev lE:X:= .s 55
abbrev mT:X:= .s 56
abbrev nI:X:= .s 57
abbrev mU:X:= .s 58
abbrev lk:X:= .s 59
abbrev oR:X:= .s 60
abbrev qm:X:= .s 61
abbrev qn:X:= .s 62
abbrev qo:X:= .s 63
abbrev ri:X:= .s 64
abbrev vi:X:= .s 65
abbrev xb:X:= .s 66
abbrev vj:X:= .s 67
abbrev vk:X:= .s 68
abbrev yR:X:= .s 69
abbrev xc:X:= .s 70
abbrev CS:X:= .s 71
abbrev CT:X:= .s 72
abbrev Fw:X:= .s 73
abbrev Fx:X:= .s 74
abbrev Fy:X:= .s 75
abbrev CW:X:= .s 76
abbrev Fz:X:= .s 77
abbrev CX:X:= .s 78
abbrev OF:X:= .s 79
abbrev OG:X:= .s 80
abbrev OH:X:= .s 81
abbrev OI:X:= .s 82
abbrev OM:X:= .s 83
abbrev ON:X:= .s 84
abbrev OO:X:= .s 85
abbrev OP:X:= .s 86
abbrev OQ:X:= .s 87
abbrev OR:X:= .s 88
abbrev OS:X:= .s 89
abbrev OT:X:= .s 90
abbrev OU:X:= .s 91
abbrev OV:X:= .s 92
abbrev UF:X:= .s 93
abbrev UG:X:= .s 94
abbrev UH:X:= .s 95
abbrev ab5:X:= .s 96
abbrev ab6:X:= .s 97
abbrev ab7:X:= .s 98
abbrev ab8:X:= .s 99
abbrev WZ:X:= .s 100
abbrev W0:X:= .s 101
abbrev W1:X:= .s 102
abbrev W2:X:= .s 103
abbrev W3:X:= .s 104
abbrev W4:X:= .s 105
abbrev W5:X:= .s 106
abbrev W6:X:= .s 107
abbrev W7:X:= .s 108
abbrev W8:X:= .s 109
abbrev W9:X:= .s 110
abbrev Xa:X:= .s 111
abbrev Xb:X:= .s 112
abbrev Xc:X:= .s 113
abbrev Xd:X:= .s 114
abbrev Xe:X:= .s 115
abbrev Xf:X:= .s 116
abbrev Xg:X:= .s 117
abbrev Xh:X:= .s 118
abbrev Xi:X:= .s 119
abbrev Xj:X:= .s 120
abbrev Xk:X:= .s 121
abbrev Xl:X:= .s 122
abbrev Xm:X:= .s 123
abbrev Xn:X:= .s 124
abbrev Xo:X:= .s 125
abbrev Xp:X:= .s 126
abbrev Xq:X:= .s 127
abbrev Xr:X:= .s 128
abbrev Xs:X:= .s 129
abbrev Xt:X:= .s 130
abbrev Xu:X:= .s 131
abbrev OW:X:= .s 132
abbrev Xv:X:= .s 133
abbrev Xw:X:= .s 134
abbrev Xx:X:= .s 135
abbrev Xy:X:= .s 136
abbrev Xz:X:= .s 137
abbrev XA:X:= .s 138
abbrev XB:X:= .s 139
abbrev XC:X:= .s 140
abbrev XD:X:= .s 141
abbrev XE:X:= .s 142
abbrev OX:X:= .s 143
abbrev XF:X:= .s 144
abbrev H2:X:= .s 145
abbrev XG:X:= .s 146
abbrev XH:X:= .s 147
abbrev XI:X:= .s 148
abbrev XJ:X:= .s 149
abbrev XK:X:= .s 150
abbrev XL:X:= .s 151
abbrev afQ:X:= .s 152
abbrev afR:X:= .s 153
abbrev afS:X:= .s 154
abbrev afT:X:= .s 155
abbrev afU:X:= .s 156
abbrev afV:X:= .s 157
abbrev afW:X:= .s 158
abbrev afX:X:= .s 159
abbrev afY:X:= .s 160
abbrev afZ:X:= .s 161
abbrev af0:X:= .s 162
abbrev af1:X:= .s 163
abbrev af2:X:= .s 164
abbrev af3:X:= .s 165
abbrev af4:X:= .s 166
abbrev af5:X:= .s 167
abbrev af6:X:= .s 168
abbrev af7:X:= .s 169
abbrev af8:X:= .s 170
abbrev af9:X:= .s 171
abbrev aga:X:= .s 172
abbrev agb:X:= .s 173
abbrev agc:X:= .s 174
abbrev agd:X:= .s 175
abbrev age:X:= .s 176
abbrev agf:X:= .s 177
abbrev Q04:AC:= .cond bM (.seq (.run [.o 4 (.mv (.k (.bool false)))]) .ret) .skip
abbrev Q09:AC:= .cond bN (.seq (.run [.o 4 (.mv (.k (.bool true)))]) .ret) .skip
abbrev Q0E:AC:= .cond cJ (.seq (.run [.o 4 (.mv (.k (.bool true)))]) .ret) .skip
abbrev Q0L:AC:= .cond gG (.seq (.run [.o 4 (.mv (.k (.bool true)))]) .ret) .skip
abbrev Q0U:AC:= .cond nI (.seq (.run [.o 4 (.mv (.k (.bool true)))]) .ret) .skip
abbrev Q0W:AC:= .seq (.run [.o 44 (.b6 gU ie 16), .o 45 (.load jj true 16), .o 8 (.alloc [(.int .i64 0),(.int .i64 0),(.slice .full 0 []),(.str []),(.str []),(.int .i64 0),(.int .i64 0),(.str []),(.slice .full 0 []),(.bool false),(.slice .full 0 []),(.slice .full 0 []),(.slice .full 0 []),(.int .i64 0),(.int .i64 0),(.bool false)]), .op none none (.store bS jV 16)]) (.seq (.run [.o 46 (.av bS 0), .o 47 (.av jW 1), .o 48 (.load kG false 1), .o 49 (.bin .eql jG (.k (.int .i64 10))), .m 50 jX, .g 51 50 true (.av bU 2), .g 52 50 true (.load ko false 1), .g 53 50 true (.av bS 0), .g 54 50 true (.av kI 3), .g 55 50 true (.load lj false 1), .d 56 50 true AZ [kH,lE], .o 57 (.pick lh mT (.k (.bool false)))]) Q0U)
abbrev Q10:AC:= .seq (.cond iQ .skip (.exit 0)) (.seq (.block 1 Q0W) (.run [.o 58 (.bin .add ie (.k (.int .i64 1))), .m 42 mU]))
abbrev Q14:AC:= .seq (.run [.o 39 (.load df true 2), .c 40 uu [gC], .o 41 (.len gU), .o 42 (.mv (.k (.int .i64 0)))]) (.block 0 (.loop (.seq (.run [.o 43 (.bin .lss ie gV)]) Q10)))
abbrev Q16:AC:= .par [.o 62 (.load cb true 2), .c 63 pL [qn], .m 64 qo, .g 65 64 true (.load cb true 2), .d 66 64 true oO [vi], .g 67 64 true (.load df true 2), .d 68 64 true oO [vj], .g 69 64 true (.bin .sub vk (.k (.int .i64 1))), .g 70 64 true (.bin .eql xb yR), .o 71 (.pick ri xc (.k (.bool false))), .m 4 CS] [(0,0),(1,0),(2,0),(3,0),(4,0),(5,1),(6,0),(7,0),(8,0),(9,0),(10,0)]
abbrev Q1A:AC:= .seq (.seq (.run [.m 25 bj, .o 26 (.bin .eql db (.k (.int .i64 0))), .m 27 dS, .g 28 27 false (.av bU 11), .g 29 27 false (.load ey false 1), .g 30 27 false (.len ez), .g 31 27 false (.bin .gtr eK (.k (.int .i64 0))), .o 32 (.pick dM (.k (.bool true)) eU), .m 33 fh, .g 34 33 false (.av bU 12), .g 35 33 false (.load fA false 1), .g 36 33 false (.len fw), .g 37 33 false (.bin .gtr fJ (.k (.int .i64 0))), .o 38 (.pick fc (.k (.bool true)) gd)]) Q0L) (.seq Q14 (.seq (.run [.o 59 (.load df true 2), .m 60 bj, .c 61 wW [lk,oR], .o 9 (.alloc [(.slice .full 0 []),(.slice .full 0 [])]), .op none none (.store cb qm 2)]) (.seq Q16 .ret)))
abbrev Q1D:AC:= .seq (.seq (.run [.o 15 (.load df true 2), .c 16 pL [cd], .o 17 (.un .not b7)]) Q0E) (.seq (.run [.o 18 (.load df true 2), .c 19 yO [cG,(.k (.int .i64 0))], .m 20 bc, .c 21 wU [cW,dd], .m 5 dh]) (.seq (.run [.o 22 (.load df true 2), .m 23 bj, .c 24 wV [dt,dz], .o 6 (.alloc [(.int .i64 0),(.int .i64 0),(.slice .full 0 []),(.str []),(.str []),(.int .i64 0),(.int .i64 0),(.str []),(.slice .full 0 []),(.bool false),(.slice .full 0 []),(.slice .full 0 []),(.slice .full 0 [])]), .op none none (.store bU da 13)]) Q1A))
abbrev Q1G:AC:= .seq (.run [.o 2 (.box aW), .o 4 (.mv (.k (.bool false)))]) (.seq (.seq (.run [.c 10 qZ [], .o 11 (.un .not bP)]) Q04) (.seq (.seq (.run [.o 12 (.load df true 2), .c 13 wT [bZ], .o 14 (.un .not bY)]) Q09) Q1D))
abbrev Q1L:AC:= .seq (.run [.c 4 tz [], .c 5 u5 [cR], .m 3 bj, .o 6 (.ext bQ 0), .o 7 (.ext bQ 1), .o 1 (.alloc [(.slice .full 0 []),(.slice .full 0 [])]), .o 2 (.alloc [(.int .i64 0),(.int .i64 0)]), .op none none (.store bc bU 2), .op none none (.store df bJ 2)]) (.seq (.run [.c 8 wX [], .c 9 pL [bS], .m 10 cb, .g 11 10 true (.av df 0), .g 12 10 true (.load bM false 1), .g 13 10 true (.bin .eql bZ (.k (.int .i64 0))), .o 14 (.pick bP bY (.k (.bool false))), .m 15 bN, .g 16 15 true (.load bc true 2), .d 17 15 true oO [b7], .g 18 15 true (.bin .eql cJ (.k (.int .i64 8))), .o 19 (.pick cd cG (.k (.bool false))), .m 20 cW, .g 21 20 true (.build [(.slice .full 0 []),(.slice .full 0 [])] []), .d 22 20 true pK [dh], .g 23 20 true (.sN dt 0 false 1), .g 24 20 true (.bin .eql dz (.k (.int .i64 5))), .o 25 (.pick dd da (.k (.bool false))), .m 0 db]) .ret)
abbrev Q1M:AC:= .seq (.run [.o 0 (.mv (.k (.bool false)))]) Q1L
abbrev Q1U:AC:= .par [.o 26 (.av bj 4), .o 27 (.load dS false 1), .o 28 (.av bj 2), .o 29 (.load ey false 1), .o 30 (.av bj 0), .o 31 (.load eK false 1), .m 32 bQ, .c 33 gx [eU,fh], .c 34 jo [ez,fc], .c 35 jo [dM,fA], .m 3 fw] [(4,0),(5,0),(6,0),(7,0),(2,0),(3,1),(8,0),(0,0),(1,2),(9,0),(10,0)]
abbrev Q23:AC:= .seq (.seq (.run [.m 36 bU, .o 37 (.av bj 1), .o 38 (.load gd false 1), .o 39 (.len gG), .o 40 (.bin .lss fJ gC), .m 41 gU, .g 42 41 true (.mv bQ), .g 43 41 true (.bin .leq ie (.k (.int .i64 20000))), .o 44 (.pick gV iQ (.k (.bool false)))]) (.cond jj .skip (.exit 2))) (.seq (.block 3 (.run [.o 47 (.av bj 1), .o 48 (.load kG false 1), .m 49 bU, .o 50 (.b6 jG jX 2), .o 51 (.av lh 0), .o 52 (.load ko false 1), .m 53 bQ, .c 54 gx [kH,kI], .m 3 lj])) (.run [.m 45 bU, .o 46 (.bin .add jV (.k (.int .i64 1))), .m 6 jW]))
abbrev Q28:AC:= .seq (.seq (.run [.o 6 (.mv (.k (.int .i64 0)))]) (.block 2 (.loop Q23))) (.run [.o 55 (.av bj 3), .o 56 (.load lE false 1), .m 57 bQ, .c 58 ky [mT,nI], .m 3 mU])
abbrev Q2D:AC:= .seq (.block 1 (.seq (.run [.o 21 (.av bc 1), .o 22 (.load dh false 1), .m 23 cR, .o 24 (.b6 dt dz 5), .o 25 (.load da true 5), .o 5 (.alloc [(.str []),(.slice .full 0 []),(.slice .full 0 []),(.slice .full 0 []),(.slice .full 0 [])]), .op none none (.store bj db 5)]) (.seq Q1U Q28))) (.run [.m 19 cR, .o 20 (.bin .add cW (.k (.int .i64 1))), .m 4 dd])
abbrev Q2E:AC:= .seq (.seq (.run [.m 10 cR, .o 11 (.av bc 1), .o 12 (.load bM false 1), .o 13 (.len bZ), .o 14 (.bin .lss bP bY), .m 15 bN, .g 16 15 true (.mv bQ), .g 17 15 true (.bin .leq b7 (.k (.int .i64 20000))), .o 18 (.pick cd cJ (.k (.bool false)))]) (.cond cG .skip (.exit 0))) Q2D
abbrev Q2K:AC:= .seq (.seq (.run [.o 4 (.mv (.k (.int .i64 0)))]) (.block 0 (.loop Q2E))) (.seq (.run [.m 59 bQ, .o 60 (.bin .leq lk (.k (.int .i64 20000))), .m 2 oR]) .ret)
abbrev Q2M:AC:= .seq (.run [.o 1 (.box aW), .o 2 (.mv (.k (.bool false)))]) (.seq (.run [.o 7 (.av bc 0), .o 8 (.load bJ false 1), .c 9 jo [bS,(.k (.int .i64 0))], .m 3 cb]) Q2K)
abbrev Q2Q:AC:= .seq (.run [(.o 7 (.build [(.int .i64 0),(.int .i64 0)] [(0,(1,(.k (.int .i64 1))))])), .op none none (.store df bJ 2)]) .ret
abbrev Q38:AC:= .seq (.seq (.run [.o 20 (.av bQ 0), .o 21 (.load dd false 1), .o 22 (.bin .eql dh (.k (.int .i64 0)))]) (.cond dt (.run [.o 23 (.load bc true 2), .c 24 tv [dz], .op none none (.store bQ da 2)]) .skip)) (.seq (.run [.o 25 (.load bQ true 2), .op none none (.store df db 2)]) .ret)
abbrev Q39:AC:= .seq (.seq (.run [.o 15 (.av bQ 0), .o 16 (.load cd false 1), .o 17 (.bin .eql b7 (.k (.int .i64 0)))]) (.cond cJ (.run [.o 18 (.load bc true 2), .c 19 u6 [cG], .op none none (.store bQ cW 2)]) .skip)) Q38
abbrev Q3A:AC:= .seq (.seq (.run [.o 10 (.av bQ 0), .o 11 (.load bP false 1), .o 12 (.bin .eql bM (.k (.int .i64 0)))]) (.cond bZ (.run [.o 13 (.load bc true 2), .c 14 p7 [bY], .op none none (.store bQ bN 2)]) .skip)) Q39
abbrev Q3D:AC:= .seq (.run [.o 1 (.box aW), .o 2 (.alloc [(.int .i64 0),(.int .i64 0)])]) (.seq (.seq (.run [.o 4 (.load bc true 2), .c 5 ur [cR], .o 6 (.un .not bj)]) (.cond bU Q2Q .skip)) (.seq (.run [.o 8 (.load bc true 2), .c 9 lF [bS], .o 3 (.alloc [(.int .i64 0),(.int .i64 0)]), .op none none (.store bQ cb 2)]) Q3A))
abbrev Q3H:AC:= .seq (.run [.o 1 (.box aW), .o 2 (.mv (.k (.bool false)))]) (.seq (.run [.o 3 (.load bc true 2), .c 4 pK [bQ], .o 5 (.sN cR 0 false 1), .o 6 (.bin .eql bj (.k (.int .i64 0))), .m 2 bU]) .ret)
abbrev Q3P:AC:= .par [.o 19 (.build [(.slice .full 0 []),(.slice .full 0 [])] []), .o 20 (.load bj true 2), .op none none (.store df cW 2), .op none none (.store bQ dd 2)] [(0,0),(2,0),(1,1),(3,0)]
abbrev Q3V:AC:= .seq (.seq (.run [.o 16 (.av bj 0), .o 17 (.load b7 false 1), .o 18 (.bin .neq cJ (.k (.int .i64 0)))]) (.cond cG (.seq Q3P .ret) .skip)) (.seq (.run [.o 21 (.load cR true 2), .o 22 (.build [(.int .i64 0),(.int .i64 0)] []), .op none none (.store df dh 2), .op none none (.store bQ dt 2)]) .ret)
abbrev Q3W:AC:= .seq (.seq (.run [.o 11 (.av bj 0), .o 12 (.load bM false 1), .o 13 (.bin .eql bZ (.k (.int .i64 0)))]) (.cond bY (.run [.o 14 (.load cR true 2), .c 15 pK [bN], .op none none (.store bj cd 2)]) .skip)) Q3V
abbrev Q3Y:AC:= .seq (.run [.o 2 (.alloc [(.slice .full 0 []),(.slice .full 0 [])]), .o 3 (.alloc [(.int .i64 0),(.int .i64 0)])]) (.seq (.run [.m 7 aW, .c 8 tw [bJ], .m 6 bS, .o 9 (.ext bU 0), .o 10 (.ext bU 1), .o 4 (.alloc [(.slice .full 0 []),(.slice .full 0 [])]), .o 5 (.alloc [(.int .i64 0),(.int .i64 0)]), .op none none (.store cR cb 2), .op none none (.store bj bP 2)]) Q3W)
abbrev Q43:AC:= .cond dz (.seq (.run [.o 2 (.mv (.k (.bool false)))]) .ret) .skip
abbrev Q4A:AC:= .run [.o 33 (.av bj 1), .o 34 (.load fc false 1), .o 35 (.len fA), .o 36 (.bin .gtr fw (.k (.int .i64 8))), .m 37 fJ, .g 38 37 false (.av bj 2), .g 39 37 false (.load gG false 1), .g 40 37 false (.len gC), .g 41 37 false (.bin .gtr gU (.k (.int .i64 16))), .o 42 (.pick gd (.k (.bool true)) gV), .m 43 ie, .g 44 43 false (.av bj 0), .g 45 43 false (.load jj false 1), .d 46 43 false nE [jV], .g 47 43 false (.un .not jW), .o 48 (.pick iQ (.k (.bool true)) kG), .m 49 jG, .g 50 49 false (.av bj 2), .g 51 49 false (.load lh false 1), .d 52 49 false mO [ko], .g 53 49 false (.un .not kH), .o 54 (.pick jX (.k (.bool true)) kI), .m 55 lj, .g 56 55 false (.av bj 4), .g 57 55 false (.load mT false 1), .d 58 55 false mO [nI], .g 59 55 false (.un .not mU), .o 60 (.pick lE (.k (.bool true)) lk)]
abbrev Q4D:AC:= .cond oR (.seq (.run [.o 2 (.mv (.k (.bool false)))]) .ret) .skip
abbrev Q4M:AC:= .cond CS (.seq (.run [.o 2 (.mv (.k (.bool false)))]) .ret) .skip
abbrev Q4R:AC:= .seq (.block 3 (.seq (.run [.o 66 (.b6 qn ri 2), .o 67 (.load xb true 2), .o 7 (.alloc [(.str []),(.bool false)]), .op none none (.store bJ vj 2)]) (.seq (.run [.o 68 (.av bJ 0), .o 69 (.load vk false 1), .c 70 nE [yR], .o 71 (.un .not xc)]) Q4M))) (.run [.o 72 (.bin .add ri (.k (.int .i64 1))), .m 64 CT])
abbrev Q4V:AC:= .block 2 (.loop (.seq (.run [.o 65 (.bin .lss ri qo)]) (.seq (.cond vi .skip (.exit 2)) Q4R)))
abbrev Q50:AC:= .cond Fz (.seq (.run [.o 2 (.mv (.k (.bool false)))]) .ret) .skip
abbrev Q52:AC:= .seq (.seq (.run [.o 61 (.av bj 1), .o 62 (.load qm false 1), .o 63 (.len qn), .o 64 (.mv (.k (.int .i64 0)))]) Q4V) (.seq (.run [.m 73 bQ, .o 74 (.av bj 3), .o 75 (.load Fx false 1), .c 76 jS [Fw,Fy,(.k (.int .i64 1))], .o 77 (.un .not CW)]) Q50)
abbrev Q57:AC:= .seq (.block 1 (.seq (.run [.o 31 (.b6 dM ez 5), .o 32 (.load eU true 5), .o 5 (.alloc [(.str []),(.slice .full 0 []),(.slice .full 0 []),(.slice .full 0 []),(.slice .full 0 [])]), .op none none (.store bj fh 5)]) (.seq (.seq Q4A Q4D) Q52))) (.run [.o 78 (.bin .add ez (.k (.int .i64 1))), .m 29 CX])
abbrev Q5B:AC:= .block 0 (.loop (.seq (.run [.o 30 (.bin .lss ez ey)]) (.seq (.cond eK .skip (.exit 0)) Q57)))
abbrev Q5F:AC:= .seq (.seq (.run [.o 26 (.av bc 1), .o 27 (.load dS false 1), .o 28 (.len dM), .o 29 (.mv (.k (.int .i64 0)))]) Q5B) (.seq (.run [.o 2 (.mv (.k (.bool true)))]) .ret)
abbrev Q5H:AC:= .seq (.seq (.run [.o 8 (.av bc 0), .o 9 (.load bS false 1), .o 10 (.len cb), .o 11 (.bin .gtr bP (.k (.int .i64 16))), .m 12 bM, .g 13 12 false (.av bc 1), .g 14 12 false (.load bY false 1), .g 15 12 false (.len bN), .g 16 12 false (.bin .gtr cd (.k (.int .i64 16))), .o 17 (.pick bZ (.k (.bool true)) b7), .m 18 cJ, .g 19 18 false (.av bc 0), .g 20 18 false (.load cW false 1), .d 21 18 false mO [dd], .g 22 18 false (.un .not dh), .o 23 (.pick cG (.k (.bool true)) dt)]) Q43) (.seq (.run [.o 24 (.build [(.int .i64 0)] []), .o 25 (.box da), .m 3 db]) Q5F)
abbrev Q5I:AC:= .seq (.run [.o 1 (.box aW), .o 2 (.mv (.k (.bool false)))]) Q5H
abbrev Q5M:AC:= .seq (.run [(.o 16 (.build [(.int .i64 0),(.int .i64 0)] [(0,(1,(.k (.int .i64 1))))])), .op none none (.store df b7 2)]) .ret
abbrev Q5Y:AC:= .seq (.block 1 (.seq (.run [.o 22 (.b6 cG dd 5), .o 23 (.load dt true 5), .o 5 (.alloc [(.str []),(.slice .full 0 []),(.slice .full 0 []),(.slice .full 0 []),(.slice .full 0 [])]), .op none none (.store bj dz 5)]) (.run [.m 24 bQ, .o 25 (.av bj 0), .o 26 (.load db false 1), .o 27 (.cQ [(.str [])] 1 1 [(0,dS)]), .o 28 (.app 1 16 da dM), .m 3 ey]))) (.run [.o 29 (.bin .add dd (.k (.int .i64 1))), .m 20 ez])
abbrev Q62:AC:= .block 0 (.loop (.seq (.run [.o 21 (.bin .lss dd cW)]) (.seq (.cond dh .skip (.exit 0)) Q5Y)))
abbrev Q67:AC:= .seq (.run [(.o 53 (.build [(.int .i64 0),(.int .i64 0)] [(0,(1,(.k (.int .i64 5))))])), .op none none (.store df kI 2)]) .ret
abbrev Q6I:AC:= .seq (.run [(.o 73 (.build [(.int .i64 0),(.int .i64 0)] [(0,(1,(.k (.int .i64 5))))])), .op none none (.store df Fw 2)]) .ret
abbrev Q6R:AC:= .seq (.run [.o 89 (.av bZ 0), .o 90 (.av OS 0), .o 91 (.load OT false 1),(.o 92 (.build [(.int .i64 0),(.int .i64 0)] [(0,(1,(.k (.int .i64 5)))),(1,(1,OU))])), .op none none (.store df OV 2)]) .ret
abbrev Q6X:AC:= .seq (.block 5 (.seq (.run [.o 80 (.b6 CW CX 17), .o 81 (.load OG true 17), .o 12 (.alloc [(.int .i64 0),(.int .i64 0),(.slice .full 0 []),(.str []),(.str []),(.int .i64 0),(.int .i64 0),(.str []),(.slice .full 0 []),(.bool false),(.slice .full 0 []),(.slice .full 0 []),(.slice .full 0 []),(.int .i64 0),(.int .i64 0),(.int .i64 0),(.int .i64 0)]), .op none none (.store bZ OH 17)]) (.seq (.run [.o 82 (.load bc true 2), .o 83 (.load cb true 5), .m 84 bQ, .o 85 (.av bZ 0), .o 86 (.load OO true 13), .c 87 p8 [OI,OM,ON,OP], .o 88 (.un .not OQ)]) (.cond OR Q6R .skip)))) (.run [.o 93 (.bin .add CX (.k (.int .i64 1))), .m 78 UF])
abbrev Q71:AC:= .block 4 (.loop (.seq (.run [.o 79 (.bin .lss CX Fz)]) (.seq (.cond OF .skip (.exit 4)) Q6X)))
abbrev Q73:AC:= .seq (.seq (.run [.m 66 bP, .c 67 nV [xb], .m 68 vj, .g 69 68 false (.mv bP), .g 70 68 false (.uf 63 [bc]), .d 71 68 false gb [yR,xc], .o 72 (.pick vk (.k (.bool true)) CS)]) (.cond CT Q6I .skip)) (.seq (.run [.m 74 bJ, .m 75 bS, .c 76 gS [Fx,Fy], .o 77 (.len CW), .o 78 (.mv (.k (.int .i64 0)))]) Q71)
abbrev Q78:AC:= .seq (.block 3 (.seq (.run [.m 61 lk, .o 62 (.b6 nI lk 5), .o 63 (.load qn true 5), .o 9 (.alloc [(.str []),(.slice .full 0 []),(.slice .full 0 []),(.slice .full 0 []),(.slice .full 0 [])]), .m 8 qm, .op none none (.store cb qo 5)]) (.seq (.run [.o 64 (.load cb true 5), .c 65 wY [ri], .m 10 vi]) Q73))) (.run [.o 94 (.bin .add lk (.k (.int .i64 1))), .m 59 UG])
abbrev Q7C:AC:= .block 2 (.loop (.seq (.run [.o 60 (.bin .lss lk mU)]) (.seq (.cond oR .skip (.exit 2)) Q78)))
abbrev Q7G:AC:= .seq (.seq (.run [.o 56 (.av bc 1), .o 57 (.load mT false 1), .o 58 (.len nI), .o 59 (.mv (.k (.int .i64 0)))]) Q7C) (.seq (.run [.o 95 (.build [(.int .i64 0),(.int .i64 0)] []), .op none none (.store df UH 2)]) .ret)
abbrev Q7I:AC:= .seq (.seq (.run [.o 32 (.av bc 0), .o 33 (.load fh false 1), .c 34 nV [fc], .m 35 fA, .g 36 35 false (.mv bQ), .d 37 35 false nV [fJ], .o 38 (.pick fw (.k (.bool true)) gd), .m 39 gG, .g 40 39 false (.mv bU), .g 41 39 false (.bin .lss gU (.k (.int .i64 0))), .o 42 (.pick gC (.k (.bool true)) gV), .m 43 ie, .g 44 43 false (.av bc 1), .g 45 43 false (.load jj false 1), .g 46 43 false (.mv bU), .g 47 43 false (.b6 jV jW 5), .g 48 43 false (.av kG 1), .g 49 43 false (.load jG false 1), .g 50 43 false (.len jX), .g 51 43 false (.bin .gtr lh (.k (.int .i64 0))), .o 52 (.pick iQ (.k (.bool true)) ko)]) (.cond kH Q67 .skip)) (.seq (.run [.o 54 (.load bc true 2), .c 55 lR [lj], .m 7 lE]) Q7G)
abbrev Q7K:AC:= .seq (.seq (.run [.o 17 (.av bc 1), .o 18 (.load cJ false 1), .o 19 (.len cG), .o 20 (.mv (.k (.int .i64 0)))]) Q62) (.seq (.run [.m 30 bQ,(.c 31 iX [eK,(.k (.str [109,97,105,110]))]), .m 6 eU]) Q7I)
abbrev Q7M:AC:= .seq (.seq (.run [.o 13 (.load bc true 2), .c 14 ur [bY], .o 15 (.un .not bN)]) (.cond cd Q5M .skip)) (.seq (.run [.o 3 (.mv (.k (.slice .full 0 [])))]) Q7K)
abbrev Q7N:AC:= .seq (.run [.o 1 (.box aW), .o 2 (.alloc [(.int .i64 0),(.int .i64 0)])]) Q7M
abbrev Q7R:AC:= .seq (.run [(.o 9 (.build [(.int .i64 0),(.int .i64 0)] [(0,(1,(.k (.int .i64 1))))])), .op none none (.store df cb 2)]) .ret
abbrev Q80:AC:= .seq (.run [.o 31 (.av cR 0), .o 32 (.av eU 0), .o 33 (.load fh false 1),(.o 34 (.build [(.int .i64 0),(.int .i64 0)] [(0,(1,(.k (.int .i64 6)))),(1,(1,fc))])), .op none none (.store df fA 2)]) .ret
abbrev Q83:AC:= .seq (.run [.o 18 (.b6 bN b7 17), .o 19 (.load cG true 17), .o 4 (.alloc [(.int .i64 0),(.int .i64 0),(.slice .full 0 []),(.str []),(.str []),(.int .i64 0),(.int .i64 0),(.str []),(.slice .full 0 []),(.bool false),(.slice .full 0 []),(.slice .full 0 []),(.slice .full 0 []),(.int .i64 0),(.int .i64 0),(.int .i64 0),(.int .i64 0)]), .op none none (.store cR cW 17)]) (.seq (.run [.o 20 (.av cR 0), .o 21 (.av dd 1), .o 22 (.load dh false 1), .o 23 (.bin .eql dt (.k (.int .i64 4))), .m 24 dz, .g 25 24 true (.load bc true 2), .g 26 24 true (.av cR 0), .g 27 24 true (.load dS true 13), .d 28 24 true u7 [db,dM], .g 29 24 true (.un .not ey), .o 30 (.pick da ez (.k (.bool false)))]) (.cond eK Q80 .skip))
abbrev Q87:AC:= .seq (.cond cJ .skip (.exit 0)) (.seq (.block 1 Q83) (.run [.o 35 (.bin .add b7 (.k (.int .i64 1))), .m 16 fw]))
abbrev Q8B:AC:= .seq (.run [.o 10 (.load bc true 2), .c 11 lR [bP], .o 12 (.dB bM), .o 13 (.av bZ 2), .o 14 (.load bY false 1), .o 15 (.len bN), .o 16 (.mv (.k (.int .i64 0)))]) (.block 0 (.loop (.seq (.run [.o 17 (.bin .lss b7 cd)]) Q87)))
abbrev Q8F:AC:= .seq (.seq (.run [.o 5 (.load bc true 2), .c 6 lF [bj], .o 7 (.sN bU 0 false 1), .o 8 (.bin .neq bJ (.k (.int .i64 0)))]) (.cond bS Q7R .skip)) (.seq Q8B (.seq (.run [.o 36 (.build [(.int .i64 0),(.int .i64 0)] []), .op none none (.store df fJ 2)]) .ret))
abbrev Q8G:AC:= .seq (.run [.o 1 (.box aW), .o 2 (.alloc [(.int .i64 0),(.int .i64 0)])]) Q8F
abbrev Q8L:AC:= .seq (.run [(.o 14 (.build [(.int .i64 0),(.int .i64 0)] [(0,(1,(.k (.int .i64 1))))])), .op none none (.store df bN 2)]) .ret
abbrev Q91:AC:= .seq (.run [.o 47 (.av cb 0), .o 48 (.av kG 0), .o 49 (.load jG false 1),(.o 50 (.build [(.int .i64 0),(.int .i64 0)] [(0,(1,(.k (.int .i64 7)))),(1,(1,jX))])), .op none none (.store df lh 2)]) .ret
abbrev Q94:AC:= .seq (.run [.m 32 bU, .o 33 (.av cb 0), .o 34 (.av fc 2), .o 35 (.load fA false 1), .c 36 pN [fh,fw], .m 31 fJ, .o 37 (.ext eU 0), .o 38 (.ext eU 1), .m 6 gd, .m 7 gG]) (.seq (.run [.m 39 bJ, .o 40 (.un .not gC), .m 41 gU, .g 42 41 false (.mv bQ), .g 43 41 false (.load cb true 17), .d 44 41 false u9 [ie,iQ], .g 45 41 false (.un .not jj), .o 46 (.pick gV (.k (.bool true)) jV)]) (.cond jW Q91 .skip))
abbrev Q98:AC:= .seq (.block 3 (.seq (.run [.o 29 (.b6 db dM 17), .o 30 (.load ez true 17), .o 9 (.alloc [(.int .i64 0),(.int .i64 0),(.slice .full 0 []),(.str []),(.str []),(.int .i64 0),(.int .i64 0),(.str []),(.slice .full 0 []),(.bool false),(.slice .full 0 []),(.slice .full 0 []),(.slice .full 0 []),(.int .i64 0),(.int .i64 0),(.int .i64 0),(.int .i64 0)]), .op none none (.store cb eK 17)]) Q94)) (.run [.o 51 (.bin .add dM (.k (.int .i64 1))), .m 27 ko])
abbrev Q9C:AC:= .block 2 (.loop (.seq (.run [.o 28 (.bin .lss dM dS)]) (.seq (.cond ey .skip (.exit 2)) Q98)))
abbrev Q9H:AC:= .seq (.run [(.o 61 (.build [(.int .i64 0),(.int .i64 0)] [(0,(1,(.k (.int .i64 7))))])), .op none none (.store df qm 2)]) .ret
abbrev Q9L:AC:= .seq (.seq (.run [.m 23 bQ, .m 24 cR, .c 25 gS [dz,da], .o 26 (.len db), .o 27 (.mv (.k (.int .i64 0)))]) Q9C) (.seq (.run [.m 53 bU, .o 54 (.av bj 4), .o 55 (.load lj false 1), .c 56 pN [kI,lE], .m 52 mT, .o 57 (.ext kH 0), .o 58 (.ext kH 1), .m 7 mU]) (.seq (.run [.m 59 bJ, .o 60 (.un .not lk)]) (.cond oR Q9H .skip)))
abbrev Q9N:AC:= .seq (.run [.o 6 (.mv (.k (.slice .full 0 [])))]) (.seq (.run [.o 7 (.mv (.k (.bool true)))]) Q9L)
abbrev Q9R:AC:= .seq (.block 1 (.seq (.run [.m 20 cG, .o 21 (.b6 b7 cG 5), .o 22 (.load dh true 5), .o 5 (.alloc [(.str []),(.slice .full 0 []),(.slice .full 0 []),(.slice .full 0 []),(.slice .full 0 [])]), .m 4 dd, .op none none (.store bj dt 5)]) Q9N)) (.run [.o 62 (.bin .add cG (.k (.int .i64 1))), .m 18 qn])
abbrev Q9V:AC:= .block 0 (.loop (.seq (.run [.o 19 (.bin .lss cG cJ)]) (.seq (.cond cW .skip (.exit 0)) Q9R)))
abbrev Q9Z:AC:= .seq (.seq (.run [.o 15 (.av bc 1), .o 16 (.load cd false 1), .o 17 (.len b7), .o 18 (.mv (.k (.int .i64 0)))]) Q9V) (.seq (.run [.o 63 (.build [(.int .i64 0),(.int .i64 0)] []), .op none none (.store df qo 2)]) .ret)
abbrev QA1:AC:= .seq (.run [.o 10 (.load bc true 2), .c 11 q5 [bP], .m 3 bM]) (.seq (.seq (.run [.m 12 bQ, .o 13 (.F9 false bZ (.k .eR))]) (.cond bY Q8L .skip)) Q9Z)
abbrev QA2:AC:= .seq (.run [.o 1 (.box aW), .o 2 (.alloc [(.int .i64 0),(.int .i64 0)])]) QA1
abbrev QA6:AC:= .seq (.run [(.o 12 (.build [(.int .i64 0),(.int .i64 0)] [(0,(1,(.k (.int .i64 1))))])), .op none none (.store df bZ 2)]) .ret
abbrev QAE:AC:= .par [.m 21 bQ, .o 22 (.av bj 0), .o 23 (.load dt false 1), .o 24 (.load bc true 2), .o 25 (.av bj 0), .o 26 (.load db false 1), .c 27 q6 [da,dS], .op none none (.yw dh dz dM)] [(3,0),(4,0),(5,0),(6,0),(0,0),(1,0),(2,1),(7,0)]
abbrev QAI:AC:= .seq (.block 1 (.seq (.run [.o 19 (.b6 cd cJ 5), .o 20 (.load cW true 5), .o 5 (.alloc [(.str []),(.slice .full 0 []),(.slice .full 0 []),(.slice .full 0 []),(.slice .full 0 [])]), .op none none (.store bj dd 5)]) QAE)) (.run [.o 28 (.bin .add cJ (.k (.int .i64 1))), .m 17 ey])
abbrev QAM:AC:= .block 0 (.loop (.seq (.run [.o 18 (.bin .lss cJ b7)]) (.seq (.cond cG .skip (.exit 0)) QAI)))
abbrev QAU:AC:= .seq (.run [.o 54 (.av bJ 0), .o 55 (.av lj 0), .o 56 (.load lE false 1),(.o 57 (.build [(.int .i64 0),(.int .i64 0)] [(0,(1,(.k (.int .i64 8)))),(1,(1,mT))])), .op none none (.store df nI 2)]) .ret
abbrev QAX:AC:= .seq (.run [.o 37 (.b6 fc fw 17), .o 38 (.load gd true 17), .o 7 (.alloc [(.int .i64 0),(.int .i64 0),(.slice .full 0 []),(.str []),(.str []),(.int .i64 0),(.int .i64 0),(.str []),(.slice .full 0 []),(.bool false),(.slice .full 0 []),(.slice .full 0 []),(.slice .full 0 []),(.int .i64 0),(.int .i64 0),(.int .i64 0),(.int .i64 0)]), .op none none (.store bJ gG 17)]) (.seq (.run [.o 39 (.av bJ 0), .o 40 (.av gC 1), .o 41 (.load gU false 1), .o 42 (.bin .eql gV (.k (.int .i64 4))), .m 43 ie, .g 44 43 true (.av bJ 0), .g 45 43 true (.load jj true 13), .g 46 43 true (.mv bQ), .g 47 43 true (.av bJ 0), .g 48 43 true (.av kG 4), .g 49 43 true (.load jG false 1), .g 50 43 true (.vI jW jX (.slice .full 0 [])), .d 51 43 true rZ [jV,lh], .g 52 43 true (.un .not ko), .o 53 (.pick iQ kH (.k (.bool false)))]) (.cond kI QAU .skip))
abbrev QB1:AC:= .seq (.cond fJ .skip (.exit 2)) (.seq (.block 3 QAX) (.run [.o 58 (.bin .add fw (.k (.int .i64 1))), .m 35 mU]))
abbrev QB5:AC:= .seq (.run [.o 29 (.load bc true 2), .c 30 lR [ez], .o 31 (.dB eK), .o 32 (.av eU 2), .o 33 (.load fh false 1), .o 34 (.len fc), .o 35 (.mv (.k (.int .i64 0)))]) (.block 2 (.loop (.seq (.run [.o 36 (.bin .lss fw fA)]) QB1)))
abbrev QB9:AC:= .seq (.seq (.run [.o 14 (.av bc 1), .o 15 (.load bN false 1), .o 16 (.len cd), .o 17 (.mv (.k (.int .i64 0)))]) QAM) (.seq QB5 (.seq (.run [.o 59 (.build [(.int .i64 0),(.int .i64 0)] []), .op none none (.store df lk 2)]) .ret))
abbrev QBB:AC:= .seq (.seq (.run [.o 8 (.load bc true 2), .c 9 p7 [bS], .o 10 (.sN cb 0 false 1), .o 11 (.bin .neq bP (.k (.int .i64 0)))]) (.cond bM QA6 .skip)) (.seq (.run [.op (some 13) none .ug, .m 3 bY]) QB9)
abbrev QBC:AC:= .seq (.run [.o 1 (.box aW), .o 2 (.alloc [(.int .i64 0),(.int .i64 0)])]) QBB
abbrev QBG:AC:= .par [.o 16 (.build [(.slice .full 0 []),(.slice .full 0 [])] []), .o 17 (.load bj true 2), .op none none (.store df b7 2), .op none none (.store bQ cJ 2)] [(0,0),(2,0),(1,1),(3,0)]
abbrev QBN:AC:= .par [.o 29 (.build [(.slice .full 0 []),(.slice .full 0 [])] []), .m 30 bU, .o 31 (.dB eK), .o 32 (.av eU 2), .o 33 (.load fh true 2), .op none none (.store df ez 2), .op none none (.store bQ fc 2)] [(0,0),(5,0),(1,0),(2,0),(3,0),(4,1),(6,0)]
abbrev QBT:AC:= .seq (.seq (.run [.m 23 bU, .o 24 (.dB dz), .o 25 (.av da 2), .o 26 (.av db 0), .o 27 (.load dS false 1), .o 28 (.bin .neq dM (.k (.int .i64 0)))]) (.cond ey (.seq QBN .ret) .skip)) (.seq (.run [.o 34 (.load bJ true 2), .c 35 p9 [fA], .o 36 (.build [(.int .i64 0),(.int .i64 0)] []), .op none none (.store df fw 2), .op none none (.store bQ fJ 2)]) .ret)
abbrev QBW:AC:= .seq (.seq (.run [.o 13 (.av bj 0), .o 14 (.load bY false 1), .o 15 (.bin .neq bN (.k (.int .i64 0)))]) (.cond cd (.seq QBG .ret) .skip)) (.seq (.run [.m 18 cR, .o 19 (.build [(.slice .full 0 []),(.int .i64 0),(.int .i64 0),(.int .i64 0),(.int .i64 0)] [(0,(1,cG))]), .o 20 (.box cW), .m 6 dd]) (.seq (.run [.m 21 bU, .c 22 l9 [dh], .o 7 (.alloc [(.slice .full 0 []),(.slice .full 0 [])]), .op none none (.store bJ dt 2)]) QBT))
abbrev QBY:AC:= .seq (.run [.o 2 (.alloc [(.slice .full 0 []),(.slice .full 0 [])]), .o 3 (.alloc [(.int .i64 0),(.int .i64 0)])]) (.seq (.run [.m 9 aW, .c 10 A0 [cb], .m 8 bP, .o 11 (.ext bS 0), .o 12 (.ext bS 1), .o 5 (.alloc [(.int .i64 0),(.int .i64 0)]), .m 4 bM, .op none none (.store bj bZ 2)]) QBW)
abbrev QC3:AC:= .cond b7 (.seq (.run [.o 2 (.mv (.k (.bool false)))]) .ret) .skip
abbrev QC7:AC:= .seq (.seq (.run [.m 3 aW, .o 4 (.lW bQ), .o 5 (.bin .lss cR (.k (.int .i64 1))), .m 6 bj, .g 7 6 false (.mv aW), .g 8 6 false (.lW bJ), .g 9 6 false (.bin .gtr bS (.k (.int .i64 8))), .o 10 (.pick bU (.k (.bool true)) cb), .m 11 bP, .g 12 11 false (.mv aW), .g 13 11 false (.oC bZ (.k (.int .i64 0))), .d 14 11 false oP [bY], .g 15 11 false (.un .not bN), .o 16 (.pick bM (.k (.bool true)) cd)]) QC3) (.seq (.run [.m 17 aW, .c 18 vZ [cJ,(.k (.int .i64 0))], .m 19 aW, .o 20 (.lW cW), .o 21 (.bin .eql cG dd), .m 22 dh, .g 23 22 true (.mv aW), .d 24 22 true uv [dz], .g 25 22 true (.un .not da), .o 26 (.pick dt db (.k (.bool false))), .m 2 dS]) .ret)
abbrev QC8:AC:= .seq (.run [.o 2 (.mv (.k (.bool false)))]) QC7
abbrev QCB:AC:= .seq (.run [.o 3 (.load bc true 2),(.o 4 (.build [(.int .i64 0),(.int .i64 0),(.slice .full 0 []),(.str []),(.str []),(.int .i64 0),(.int .i64 0),(.str []),(.slice .full 0 []),(.bool false),(.slice .full 0 []),(.slice .full 0 []),(.slice .full 0 [])] [(0,(1,(.k (.int .i64 (-1)))))])), .c 5 q7 [bQ,cR], .op none none (.store df bj 2)]) .ret
abbrev QCC:AC:= .seq (.run [.o 1 (.box aW), .o 2 (.alloc [(.slice .full 0 []),(.slice .full 0 [])])]) QCB
abbrev QCH:AC:= .cond bU (.seq (.run [.o 4 (.mv (.k (.int .i64 0)))]) .ret) .skip
abbrev QCR:AC:= .seq (.seq (.run [.m 10 aW, .o 11 (.bin .lss bP (.k (.int .i64 0)))]) (.cond bM (.seq (.run [.m 12 aW, .m 13 bc, .o 14 (.bin .add bZ bY), .m 4 bN]) .ret) .skip)) (.seq (.run [.m 15 aW, .m 4 cd]) .ret)
abbrev QCT:AC:= .seq (.seq (.run [.m 5 bc, .o 6 (.bin .lss bj (.k (.int .i64 1)))]) QCH) (.seq (.run [.m 7 aW, .m 8 bc, .o 9 (.bin .rem bJ bS), .m 0 cb]) QCR)
abbrev QCU:AC:= .seq (.run [.o 4 (.mv (.k (.int .i64 0)))]) QCT
abbrev QD5:AC:= .seq (.block 1 (.seq (.run [.o 11 (.b6 bJ cb 5), .o 12 (.load bM true 5), .o 5 (.alloc [(.str []),(.slice .full 0 []),(.slice .full 0 []),(.slice .full 0 []),(.slice .full 0 [])]), .op none none (.store bj bZ 5)]) (.run [.m 13 bQ, .o 14 (.av bj 3), .o 15 (.load bN false 1), .c 16 jT [cd], .o 17 (.bin .add bY b7), .m 3 cJ]))) (.run [.o 18 (.bin .add cb (.k (.int .i64 1))), .m 9 cG])
abbrev QD9:AC:= .block 0 (.loop (.seq (.run [.o 10 (.bin .lss cb bS)]) (.seq (.cond bP .skip (.exit 0)) QD5)))
abbrev QDD:AC:= .seq (.seq (.run [.o 6 (.av bc 1), .o 7 (.load bU false 1), .o 8 (.len bJ), .o 9 (.mv (.k (.int .i64 0)))]) QD9) (.seq (.run [.m 19 bQ, .m 2 cW]) .ret)
abbrev QDF:AC:= .seq (.run [.o 1 (.box aW), .o 2 (.mv (.k (.int .i64 0)))]) (.seq (.run [.o 3 (.mv (.k (.int .i64 0)))]) QDD)
abbrev QDN:AC:= .par [.o 15 (.av bQ 1), .o 16 (.load cd false 1), .m 17 bj, .o 18 (.av bc 1), .o 19 (.load cG false 1), .m 20 bj, .o 21 (.b6 cW dd 5), .o 22 (.av dh 3), .o 23 (.load dt false 1), .m 24 cR, .c 25 je [dz,da], .m 14 db, .o 26 (.ext bN 0), .o 27 (.ext bN 1), .o 28 (.b6 b7 cJ 5), .o 29 (.av ey 3), .op none none (.store ez dS 1), .m 4 dM] [(3,0),(4,0),(5,0),(6,0),(7,0),(8,0),(9,0),(10,0),(0,0),(1,1),(2,0),(11,0),(12,0),(14,0),(15,0),(16,0),(13,0),(17,0)]
abbrev QDS:AC:= .seq (.cond bZ .skip (.exit 0)) (.seq (.block 1 (.seq (.run [.m 13 bM, .m 5 bY]) QDN)) (.run [.o 30 (.bin .add bM (.k (.int .i64 1))), .m 11 eK]))
abbrev QDT:AC:= .seq (.run [.o 12 (.bin .lss bM bP)]) QDS
abbrev QDY:AC:= .seq (.run [.o 31 (.load bQ true 2), .op none none (.store df eU 2)]) .ret
abbrev QDZ:AC:= .seq (.seq (.run [.o 8 (.av bQ 1), .o 9 (.load bS false 1), .o 10 (.len cb), .o 11 (.mv (.k (.int .i64 0)))]) (.block 0 (.loop QDT))) QDY
abbrev QE1:AC:= .seq (.run [.o 6 (.load bc true 2), .c 7 pM [bU], .o 3 (.alloc [(.slice .full 0 []),(.slice .full 0 [])]), .op none none (.store bQ bJ 2)]) (.seq (.run [.o 4 (.mv (.k (.int .i64 0)))]) QDZ)
abbrev QE2:AC:= .seq (.run [.o 1 (.box aW), .o 2 (.alloc [(.slice .full 0 []),(.slice .full 0 [])])]) QE1
abbrev QE7:AC:= .cond bJ (.seq (.run [.o 4 (.mv (.k (.int .i64 0)))]) .ret) .skip
abbrev QEB:AC:= .seq (.seq (.run [.m 5 aW, .o 6 (.len bj), .o 7 (.bin .eql bU (.k (.int .i64 0)))]) QE7) (.seq (.run [.m 8 aW, .m 9 bc, .m 10 aW, .o 11 (.len bP), .c 12 yN [cb,bM], .o 13 (.b6 bS bZ 1), .o 14 (.load bY false 1), .m 4 bN]) .ret)
abbrev QEC:AC:= .seq (.run [.o 4 (.mv (.k (.int .i64 0)))]) QEB
abbrev QEN:AC:= .seq (.run [.o 13 (.b6 cb bM 16), .o 14 (.load bY true 16), .o 7 (.alloc [(.int .i64 0),(.int .i64 0),(.slice .full 0 []),(.str []),(.str []),(.int .i64 0),(.int .i64 0),(.str []),(.slice .full 0 []),(.bool false),(.slice .full 0 []),(.slice .full 0 []),(.slice .full 0 []),(.int .i64 0),(.int .i64 0),(.bool false)]), .op none none (.store bJ bN 16)]) (.seq (.run [.m 15 bc, .o 16 (.bin .eql cd (.k (.int .i64 0))), .m 17 b7, .g 18 17 false (.av bJ 0), .g 19 17 false (.av cG 1), .g 20 17 false (.load cW false 1), .g 21 17 false (.mv bc), .g 22 17 false (.bin .eql dd dh), .o 23 (.pick cJ (.k (.bool true)) dt)]) (.cond dz (.run [.m 24 bj, .o 25 (.av bJ 0), .o 26 (.av db 0), .o 27 (.load dS false 1), .o 28 (.cQ [(.int .i64 0)] 1 1 [(0,dM)]), .o 29 (.app 1 8 da ey), .m 5 ez]) .skip))
abbrev QER:AC:= .seq (.cond bZ .skip (.exit 0)) (.seq (.block 1 QEN) (.run [.o 30 (.bin .add bM (.k (.int .i64 1))), .m 11 eK]))
abbrev QEV:AC:= .seq (.run [.o 8 (.load df true 2), .c 9 uu [bS], .o 10 (.len cb), .o 11 (.mv (.k (.int .i64 0)))]) (.block 0 (.loop (.seq (.run [.o 12 (.bin .lss bM bP)]) QER)))
abbrev QF0:AC:= .seq (.run [.o 2 (.box aW), .o 4 (.mv (.k (.slice .full 0 [])))]) (.seq (.run [.o 5 (.mv (.k (.slice .full 0 [])))]) (.seq QEV (.seq (.run [.m 31 bj, .m 4 eU]) .ret)))
abbrev QF6:AC:= .seq (.run [.o 2 (.box aW), .o 4 (.alloc [(.int .i64 0),(.int .i64 0),(.slice .full 0 []),(.str []),(.str []),(.int .i64 0),(.int .i64 0),(.str []),(.slice .full 0 []),(.bool false),(.slice .full 0 []),(.slice .full 0 []),(.slice .full 0 [])])]) (.seq (.run [.o 9 (.load df true 2), .m 10 bc, .c 11 wZ [cb,bP], .m 8 bM, .o 12 (.ext bS 0), .o 13 (.ext bS 1), .o 14 (.ext bS 2), .o 5 (.alloc [(.int .i64 0),(.int .i64 0),(.slice .full 0 []),(.str []),(.str []),(.int .i64 0),(.int .i64 0),(.str []),(.slice .full 0 []),(.bool false),(.slice .full 0 []),(.slice .full 0 []),(.slice .full 0 []),(.int .i64 0),(.int .i64 0),(.bool false)]), .op none none (.store bj bZ 16), .m 6 bY, .m 7 bN]) (.seq (.run [.o 15 (.av bj 0), .o 16 (.load cd true 13), .op none none (.store cR b7 13)]) .ret))
abbrev QFJ:AC:= .seq (.run [.m 13 bQ, .o 14 (.load bj true 5), .c 15 sG [bN], .o 16 (.app 16 232 bY cd), .m 3 b7]) (.seq (.run [.m 17 bQ, .o 18 (.len cJ), .o 19 (.bin .gtr cG (.k (.int .i64 200)))]) (.cond cW (.seq (.run [.m 20 bQ, .m 2 dd]) .ret) .skip))
abbrev QFN:AC:= .seq (.block 1 (.seq (.run [.o 11 (.b6 bJ cb 5), .o 12 (.load bM true 5), .o 5 (.alloc [(.str []),(.slice .full 0 []),(.slice .full 0 []),(.slice .full 0 []),(.slice .full 0 [])]), .op none none (.store bj bZ 5)]) QFJ)) (.run [.o 21 (.bin .add cb (.k (.int .i64 1))), .m 9 dh])
abbrev QFR:AC:= .block 0 (.loop (.seq (.run [.o 10 (.bin .lss cb bS)]) (.seq (.cond bP .skip (.exit 0)) QFN)))
abbrev QFV:AC:= .seq (.seq (.run [.o 6 (.av bc 1), .o 7 (.load bU false 1), .o 8 (.len bJ), .o 9 (.mv (.k (.int .i64 0)))]) QFR) (.seq (.run [.m 22 bQ, .m 2 dt]) .ret)
abbrev QFX:AC:= .seq (.run [.o 1 (.box aW), .o 2 (.mv (.k (.slice .full 0 [])))]) (.seq (.run [.o 3 (.mv (.k (.slice .full 0 [])))]) QFV)
abbrev QG6:AC:= .cond b7 (.seq (.run [.o 4 (.mv (.k (.bool true)))]) .ret) .skip
abbrev QGB:AC:= .seq (.block 1 (.seq (.run [.m 10 bS, .m 5 bP]) (.seq (.run [.m 11 aW, .m 12 bj, .o 13 (.b6 bM bZ 1), .o 14 (.load bY false 1), .m 15 bc, .o 16 (.bin .eql bN cd)]) QG6))) (.run [.o 17 (.bin .add bS (.k (.int .i64 1))), .m 8 cJ])
abbrev QGF:AC:= .block 0 (.loop (.seq (.run [.o 9 (.bin .lss bS bJ)]) (.seq (.cond cb .skip (.exit 0)) QGB)))
abbrev QGJ:AC:= .seq (.seq (.run [.m 6 aW, .o 7 (.len bU), .o 8 (.mv (.k (.int .i64 0)))]) QGF) (.seq (.run [.o 4 (.mv (.k (.bool false)))]) .ret)
abbrev QGK:AC:= .seq (.run [.o 4 (.mv (.k (.bool false)))]) QGJ
abbrev QGR:AC:= .par [.o 15 (.av bj 1), .o 16 (.load cd false 1), .m 17 bU, .o 18 (.av df 1), .o 19 (.load cG false 1), .m 20 bU, .o 21 (.b6 cW dd 5), .o 22 (.av dh 3), .o 23 (.load dt false 1), .m 24 bc, .c 25 jD [dz,da], .o 26 (.b6 b7 cJ 5), .o 27 (.av dS 3), .op none none (.store dM db 1)] [(3,0),(4,0),(5,0),(6,0),(7,0),(8,0),(9,0),(10,0),(0,0),(1,1),(2,0),(11,0),(12,0),(13,0)]
abbrev QGW:AC:= .seq (.cond bY .skip (.exit 0)) (.seq (.block 1 (.seq (.run [.m 14 bZ, .m 6 bN]) QGR)) (.run [.o 28 (.bin .add bZ (.k (.int .i64 1))), .m 12 ey]))
abbrev QGX:AC:= .seq (.run [.o 13 (.bin .lss bZ bM)]) QGW
abbrev QH2:AC:= .seq (.run [.o 29 (.load bj true 2), .c 30 tx [ez], .op none none (.store cR eK 2)]) .ret
abbrev QH3:AC:= .seq (.seq (.run [.o 9 (.av bj 1), .o 10 (.load cb false 1), .o 11 (.len bP), .o 12 (.mv (.k (.int .i64 0)))]) (.block 0 (.loop QGX))) QH2
abbrev QH5:AC:= .seq (.run [.o 2 (.box aW), .o 4 (.alloc [(.slice .full 0 []),(.slice .full 0 [])])]) (.seq (.run [.o 7 (.load df true 2), .c 8 pM [bJ], .o 5 (.alloc [(.slice .full 0 []),(.slice .full 0 [])]), .op none none (.store bj bS 2)]) QH3)
end Go.Abs

/-! Have0 -/

namespace Go.Abs
open Go.Proofs
set_option maxRecDepth 20000 in
theorem iC : Has Tryz.prog tY 72 [(4, none)] Q1G := ⟨Tryz.f9, by kernel_rfl, by kernel_rfl⟩
theorem B4:Has Tryz.prog qZ 26 [(0,none)] Q1M:=⟨Tryz.f12,by kernel_rfl,by kernel_rfl⟩
theorem Hs:Has Tryz.prog wT 61 [(2,none)] Q2M:=⟨Tryz.f13,by kernel_rfl,by kernel_rfl⟩
theorem nW:Has Tryz.prog pK 26 [(2,(some (true,2)))] Q3D:=⟨Tryz.f14,by kernel_rfl,by kernel_rfl⟩
theorem Ht:Has Tryz.prog pL 7 [(2,none)] Q3H:=⟨Tryz.f16,by kernel_rfl,by kernel_rfl⟩
theorem sa:Has Tryz.prog u5 23 [(2,(some (true,2))),(3,(some (true,2)))] Q3Y:=⟨Tryz.f19,by kernel_rfl,by kernel_rfl⟩
theorem Js:Has Tryz.prog ur 79 [(2,none)] Q5I:=⟨Tryz.f22,by kernel_rfl,by kernel_rfl⟩
theorem v7:Has Tryz.prog lF 96 [(2,(some (true,2)))] Q7N:=⟨Tryz.f23,by kernel_rfl,by kernel_rfl⟩
theorem v8:Has Tryz.prog p7 37 [(2,(some (true,2)))] Q8G:=⟨Tryz.f24,by kernel_rfl,by kernel_rfl⟩
theorem xS:Has Tryz.prog u6 64 [(2,(some (true,2)))] QA2:=⟨Tryz.f25,by kernel_rfl,by kernel_rfl⟩
theorem wa:Has Tryz.prog tv 60 [(2,(some (true,2)))] QBC:=⟨Tryz.f26,by kernel_rfl,by kernel_rfl⟩
theorem DS:Has Tryz.prog tw 37 [(2,(some (true,2))),(3,(some (true,2)))] QBY:=⟨Tryz.f27,by kernel_rfl,by kernel_rfl⟩
theorem mV:Has Tryz.prog nE 27 [(2,none)] QC8:=⟨Tryz.f28,by kernel_rfl,by kernel_rfl⟩
theorem Hu:Has Tryz.prog pM 6 [(2,(some (true,2)))] QCC:=⟨Tryz.f31,by kernel_rfl,by kernel_rfl⟩
theorem A3:Has Tryz.prog yN 16 [(4,none)] QCU:=⟨Tryz.f32,by kernel_rfl,by kernel_rfl⟩
theorem FA:Has Tryz.prog oO 20 [(2,none)] QDF:=⟨Tryz.f33,by kernel_rfl,by kernel_rfl⟩
theorem DT:Has Tryz.prog tx 32 [(2,(some (true,2)))] QE2:=⟨Tryz.f34,by kernel_rfl,by kernel_rfl⟩
theorem zP:Has Tryz.prog wU 15 [(4,none)] QEC:=⟨Tryz.f35,by kernel_rfl,by kernel_rfl⟩
theorem Jt:Has Tryz.prog yO 32 [(4,none)] QF0:=⟨Tryz.f36,by kernel_rfl,by kernel_rfl⟩
theorem zQ:Has Tryz.prog wV 17 [(4,(some (true,13)))] QF6:=⟨Tryz.f37,by kernel_rfl,by kernel_rfl⟩
theorem Ju:Has Tryz.prog uu 23 [(2,none)] QFX:=⟨Tryz.f38,by kernel_rfl,by kernel_rfl⟩
theorem Ld:Has Tryz.prog AZ 18 [(4,none)] QGK:=⟨Tryz.f39,by kernel_rfl,by kernel_rfl⟩
theorem Hv:Has Tryz.prog wW 31 [(4,(some (true,2)))] QH5:=⟨Tryz.f40,by kernel_rfl,by kernel_rfl⟩
end Go.Abs
