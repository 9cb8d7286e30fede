/-
  What is proved here: part 1 of the road to the claim (Frame, Frame2, Walk, Par, Par1, Par2, Par3, Step, Wp, Types, SelA, Lend, Sym, Frz, WpA, Mir, MirTree, Cnt, MirFlat, Nums, Codes0, Have0).
  No conditions.
-/
import Derived.Test.YtpjadlleefgcpaaGreatRnC0
import Derived.Attr
import Derived.Test.YtpjadlleefgcpaaGreatProg
import Derived.KernelRfl

set_option linter.unusedSimpArgs false
set_option linter.unusedVariables false
namespace Go.Abs
def Tag.ok (m:Nat):Tag→Bool
 | .tok t _=>decide (t<m)
 |_=>true
def Tag.cW (ts:List Nat):Tag→Tag
 | .tok t y=>match ts[t]? with|some t'=> .tok t' y|none=> .shared
 |g=>g
mutual
def D.ok (n m:Nat):D→Bool
 | .ptr o _=>decide (o<n)
 | .dA row _=>D.bL n m row
 | .slice g _ rows=>g.ok m && D.gS n m rows
 | .agg cs=>D.bL n m cs
 | .tuple ds=>D.bL n m ds
 | .fq _ o=>decide (o<n)
 | .gd _ cs=>D.bL n m cs
 | .fP o=>decide (o<n)
 | .eB _ o _ _=>decide (o<n)
 | .fu o _ _=>decide (o<n)
 |_=>true
def D.bL (n m:Nat):List D→Bool
 | []=>true
 |d::r=>D.ok n m d && D.bL n m r
def D.gS (n m:Nat):List (List D)→Bool
 | []=>true
 |d::r=>D.bL n m d && D.gS n m r
end
mutual
def D.cW (os ts:List Nat):D→D
 | .ptr o off=>match os[o]? with|some o'=> .ptr o' off|none=> .junk
 | .dA row off=> .dA (D.e9 os ts row) off
 | .slice g z rows=> .slice (g.cW ts) z (D.nT os ts rows)
 | .agg cs=> .agg (D.e9 os ts cs)
 | .tuple ds=> .tuple (D.e9 os ts ds)
 | .junk=> .junk
 | .int k x=> .int k x
 | .bool b=> .bool b
 | .str l=> .str l
 | .dR=> .dR
 | .val v=> .val v
 | .fq T o=>match os[o]? with|some o'=> .fq T o'|none=> .junk
 | .gd f cs=> .gd f (D.e9 os ts cs)
 | .fP o=>match os[o]? with|some o'=> .fP o'|none=> .junk
 | .eB z o g len=>match os[o]? with|some o'=> .eB z o' g len|none=> .junk
 | .fu o g off=>match os[o]? with|some o'=> .fu o' g off|none=> .junk
 | .ew z=> .ew z
def D.e9 (os ts:List Nat):List D→List D
 | []=> []
 |d::r=>D.cW os ts d::D.e9 os ts r
def D.nT (os ts:List Nat):List (List D)→List (List D)
 | []=> []
 |d::r=>D.e9 os ts d::D.nT os ts r
end
theorem fO (os ts:List Nat) : ∀ l,D.e9 os ts l=l.map (D.cW os ts)
 | []=>by simp[D.e9]
 |d::r=>by simp[D.e9,fO os ts r]
theorem B7 (os ts:List Nat) : ∀ l,D.nT os ts l=l.map (D.e9 os ts)
 | []=>by simp[D.nT]
 |d::r=>by simp[D.nT,B7 os ts r]
theorem yd (n m:Nat) : ∀ l,D.bL n m l=l.all (D.ok n m)
 | []=>by simp[D.bL]
 |d::r=>by simp[D.bL,yd n m r]
theorem Ef (n m:Nat) : ∀ l,D.gS n m l=l.all (D.bL n m)
 | []=>by simp[D.gS]
 |d::r=>by simp[D.gS,Ef n m r]
theorem vn {n m:Nat} {l:List D} (h:D.bL n m l=true) {i:Nat} {d:D} (e:l[i]? = some d):D.ok n m d=true:=by
 rw[yd]at h;exact List.all_eq_true.1 h d (List.mem_of_getElem? e)
theorem Yt {n m:Nat} {l:List (List D)} (h:D.gS n m l=true) {i:Nat} {d:List D} (e:l[i]? = some d):D.bL n m d=true:=by
 rw[Ef]at h;exact List.all_eq_true.1 h d (List.mem_of_getElem? e)
section
variable {M M0:Map} {s s0:St} {os ts:List Nat}
theorem iP.B8 (kJ : ∀ (i:Nat) t,ts[i]? = some t→M0.be i=M.be t) (ht : ∀ (i t:Nat),ts[i]? = some t→s0.aw[i]? = s.aw[t]?) (hlen:s0.aw.length=ts.length) {g:Tag} {z len cap:Nat} {base:Option (Nat×Nat)} (pK:g.ok ts.length=true) (h:iP M s (g.cW ts) z len base cap):iP M0 s0 g z len base cap:=by
 cases g with
 |full=>exact h
 |shared=>exact h
 |tok t y=>
  have hD:t<ts.length:=by simpa[Tag.ok]using pK
  have e:ts[t]? = some ts[t]:=List.getElem?_eq_getElem hD
  simp only[Tag.cW,e]at h
  obtain⟨h1,h2⟩:=h
  refine⟨by omega,fun n hn=>?_⟩
  rw[ht t _ e]at hn
  rw[kJ t _ e]
  exact h2 n hn
theorem RD.B8 (hG:M0.G=M.G) (jn : ∀ (i:Nat) o,os[i]? = some o→M0.loc i=M.loc o) (jk:s0.ah.length=os.length)
 (kJ : ∀ (i:Nat) t,ts[i]? = some t→M0.be i=M.be t) (ht : ∀ (i t:Nat),ts[i]? = some t→s0.aw[i]? = s.aw[t]?) (hlen:s0.aw.length=ts.length) {d:D} {v:Value} (h:RD M s d v) :
 ∀ d0:D,d0.cW os ts=d→d0.ok os.length ts.length=true→RD M0 s0 d0 v:=by
 have mX : ∀ (i:Nat) o,os[i]? = some o→M0.mu i=M.mu o:=fun i o h=>congrArg Prod.fst (jn i o h)
 have tag:=fun {g z len cap base}=>@iP.B8 M M0 s s0 ts kJ ht hlen g z len cap base
 induction h with
 | junk v=>
  intro d0 e ok
  cases d0<;>simp only[D.cW]at e<;>try (cases e;done)
  ·exact .junk v
  ·rename_i o off
   have hD:o<os.length:=by simpa[D.ok]using ok
   rw[List.getElem?_eq_getElem hD]at e;cases e
  ·rename_i T o
   have hD:o<os.length:=by simpa[D.ok]using ok
   rw[List.getElem?_eq_getElem hD]at e;cases e
  ·rename_i o
   have hD:o<os.length:=by simpa[D.ok]using ok
   rw[List.getElem?_eq_getElem hD]at e;cases e
  ·rename_i z o g len
   have hD:o<os.length:=by simpa[D.ok]using ok
   rw[List.getElem?_eq_getElem hD]at e;cases e
  ·rename_i o g off
   have hD:o<os.length:=by simpa[D.ok]using ok
   rw[List.getElem?_eq_getElem hD]at e;cases e
 |ew z a=>intro d0 e ok;cases d0<;>simp only[D.cW]at e<;>first|(cases e;exact .ew _ _)|(split at e<;>cases e)|cases e
 |eB z o g len b cap A ho hm ha hl=>
  intro d0 e ok
  cases d0<;>simp only[D.cW]at e<;>first|(cases e;done)|skip
  all_goals try (split at e<;>cases e;done)
  rename_i z0 o0 g0 FD
  have hD:o0<os.length:=by simpa[D.ok]using ok
  rw[List.getElem?_eq_getElem hD]at e
  cases e
  exact RD.eB (s:=s0) z o0 g len b cap A (by omega) ((congrArg Prod.snd (jn o0 _ (List.getElem?_eq_getElem hD))).trans hm) ha hl
 |fu z o g off b cap A ho hm ha=>
  intro d0 e ok
  cases d0<;>simp only[D.cW]at e<;>first|(cases e;done)|skip
  all_goals try (split at e<;>cases e;done)
  rename_i o0 g0 TJ
  have hD:o0<os.length:=by simpa[D.ok]using ok
  rw[List.getElem?_eq_getElem hD]at e
  cases e
  exact RD.fu (s:=s0) z o0 g off b cap A (by omega) ((congrArg Prod.snd (jn o0 _ (List.getElem?_eq_getElem hD))).trans hm) ha
 |val v hv=>intro d0 e ok;cases d0<;>simp only[D.cW]at e<;>first|(cases e;exact .val _ hv)|(split at e<;>cases e)|cases e
 |fq T o v ho ht hv=>
  intro d0 e ok
  cases d0<;>simp only[D.cW]at e<;>first|(split at e<;>cases e;done)|skip
  all_goals try (cases e;done)
  rename_i T0 o0
  have hD:o0<os.length:=by simpa[D.ok]using ok
  rw[List.getElem?_eq_getElem hD]at e
  cases e
  have hl:=jn o0 _ (List.getElem?_eq_getElem hD)
  exact .fq _ o0 v (by omega) ((congrArg (fun x=>x.2.ty?) hl).trans ht) (by rw[mX o0 _ (List.getElem?_eq_getElem hD)];exact hv)
 |int k x=>intro d0 e ok;cases d0<;>simp only[D.cW]at e<;>first|(cases e;exact .int _ _)|(split at e<;>cases e)|cases e
 |bool b=>intro d0 e ok;cases d0<;>simp only[D.cW]at e<;>first|(cases e;exact .bool _)|(split at e<;>cases e)|cases e
 |str l=>intro d0 e ok;cases d0<;>simp only[D.cW]at e<;>first|(cases e;exact .str _)|(split at e<;>cases e)|cases e
 |dR=>intro d0 e ok;cases d0<;>simp only[D.cW]at e<;>first|(cases e;exact .dR)|(split at e<;>cases e)|cases e
 |fP o ho hm=>
  intro d0 e ok
  cases d0<;>simp only[D.cW]at e<;>first|(cases e;done)|skip
  all_goals try (split at e<;>cases e;done)
  rename_i o0
  have hD:o0<os.length:=by simpa[D.ok]using ok
  rw[List.getElem?_eq_getElem hD]at e
  cases e
  rw[← mX o0 _ (List.getElem?_eq_getElem hD)]
  exact RD.fP (s:=s0) o0 (by omega) ((congrArg Prod.snd (jn o0 _ (List.getElem?_eq_getElem hD))).trans hm)
 |gd f ds vs hl _ ih=>
  intro d0 e ok
  cases d0<;>simp only[D.cW]at e<;>first|(split at e<;>cases e;done)|skip
  all_goals try (cases e;done)
  rename_i f0 QI
  simp only[D.gd.injEq]at e
  obtain⟨rfl,rfl⟩:=e
  simp only[D.ok]at ok
  rw[fO]at hl ih
  refine .gd _ QI vs (by simpa using hl) (fun i d v e1 e2=>ih i _ v (by rw[List.getElem?_map,e1];rfl) e2 d rfl (vn ok e1))
 |ptr o off ho hm=>
  intro d0 e ok
  cases d0<;>simp only[D.cW]at e<;>first|(cases e;done)|skip
  all_goals try (split at e<;>cases e;done)
  rename_i o0 TJ
  have hD:o0<os.length:=by simpa[D.ok]using ok
  rw[List.getElem?_eq_getElem hD]at e
  cases e
  rw[← mX o0 _ (List.getElem?_eq_getElem hD)]
  exact RD.ptr (s:=s0) o0 _ (by omega) (by rw[show M0.ob o0=_ from congrArg Prod.snd (jn o0 _ (List.getElem?_eq_getElem hD))];exact hm)
 |dA row off b k h1 h2 ih=>
  intro d0 e ok
  cases d0<;>simp only[D.cW]at e<;>first|(split at e<;>cases e;done)|skip
  all_goals try (cases e;done)
  rename_i ajE TJ
  simp only[D.dA.injEq]at e
  obtain⟨rfl,rfl⟩:=e
  simp only[D.ok]at ok
  rw[fO]at h1 ih
  refine .dA ajE TJ b k (fun i d e=>?_) (fun i d u e eu=>?_)
  ·rw[hG];exact h1 i _ (by rw[List.getElem?_map,e];rfl)
  ·rw[hG]at eu;exact ih i _ u (by rw[List.getElem?_map,e];rfl) eu d rfl (vn ok e)
 |iA g z cap hc pL=>
  intro d0 e ok
  cases d0<;>simp only[D.cW]at e<;>first|(split at e<;>cases e;done)|skip
  all_goals try (cases e;done)
  rename_i g0 z0 kj
  simp only[D.slice.injEq]at e
  obtain⟨rfl,rfl,e⟩:=e
  have:kj = []:=by cases kj<;>simp[D.nT]at e;rfl
  subst this
  simp only[D.ok,Bool.and_eq_true]at ok
  exact .iA g0 z0 cap hc (tag ok.1 pL)
 | lC z a cap=>
  intro d0 e ok
  cases d0<;>simp only[D.cW]at e<;>first|(split at e<;>cases e;done)|skip
  all_goals try (cases e;done)
  rename_i g0 z0 kj
  simp only[D.slice.injEq]at e
  obtain⟨hg,rfl,e⟩:=e
  have:kj = []:=by cases kj<;>simp[D.nT]at e;rfl
  subst this
  simp only[D.ok,Bool.and_eq_true]at ok
  have:g0 = .shared:=by
   cases g0 with
   |tok t y=>
    have ht:t<ts.length:=by simpa[Tag.ok]using ok.1
    simp[Tag.cW,ht]at hg
   |shared=>rfl
   |_=>simp[Tag.cW]at hg
  subst this
  exact .lC _ a cap
 | slice g z rows b k cap hl hs h1 h2 pL ih=>
  intro d0 e ok
  cases d0<;>simp only[D.cW]at e<;>first|(split at e<;>cases e;done)|skip
  all_goals try (cases e;done)
  rename_i g0 z0 kj
  simp only[D.slice.injEq]at e
  obtain⟨rfl,rfl,rfl⟩:=e
  simp only[D.ok,Bool.and_eq_true]at ok
  rw[B7]at hl hs h1 ih pL
  simp only[B7,List.length_map]at hl pL ⊢
  have ei : ∀ (i:Nat) (row:List D),kj[i]? = some row→(kj.map (D.e9 os ts))[i]? = some (D.e9 os ts row):=fun i row e=>by rw[List.getElem?_map,e];rfl
  have gV : ∀ (row:List D) (j:Nat) (d:D),row[j]? = some d→(D.e9 os ts row)[j]? = some (D.cW os ts d):=fun row j d e=>by rw[fO,List.getElem?_map,e];rfl
  refine .slice g0 z0 kj b k cap hl (fun row hr=>?_) (fun i row j d e1 e2=>?_) (fun i row j d u e1 e2 eu=>?_) (tag ok.1 pL)
  ·have:=hs (D.e9 os ts row) (List.mem_map.2 ⟨row,hr,rfl⟩)
   rwa [fO,List.length_map]at this
  ·rw[hG];exact h1 i _ j _ (ei i row e1) (gV row j d e2)
  ·rw[hG]at eu;exact ih i _ j _ u (ei i row e1) (gV row j d e2) eu d rfl (vn (Yt ok.2 e1) e2)
 |agg cells vs hl h1 _ ih=>
  intro d0 e ok
  cases d0<;>simp only[D.cW]at e<;>first|(split at e<;>cases e;done)|skip
  all_goals try (cases e;done)
  rename_i QI
  simp only[D.agg.injEq]at e
  subst e
  simp only[D.ok]at ok
  rw[fO]at hl ih
  refine .agg QI vs (by simpa using hl) h1 (fun i d v e1 e2=>ih i _ v (by rw[List.getElem?_map,e1];rfl) e2 d rfl (vn ok e1))
 |tuple ds vs hl _ ih=>
  intro d0 e ok
  cases d0<;>simp only[D.cW]at e<;>first|(split at e<;>cases e;done)|skip
  all_goals try (cases e;done)
  rename_i QI
  simp only[D.tuple.injEq]at e
  subst e
  simp only[D.ok]at ok
  rw[fO]at hl ih
  refine .tuple QI vs (by simpa using hl) (fun i d v e1 e2=>ih i _ v (by rw[List.getElem?_map,e1];rfl) e2 d rfl (vn ok e1))
theorem RD.cW (hG:M0.G=M.G) (jn : ∀ i,i<s0.ah.length→∃ o,os[i]? = some o∧o<s.ah.length∧M.loc o=M0.loc i)
 (kJ : ∀ i,i<s0.aw.length→∃ t,ts[i]? = some t∧t<s.aw.length∧s.aw[t]? = s0.aw[i]? ∧M.be t=M0.be i) {d:D} {v:Value} (h:RD M0 s0 d v):RD M s (d.cW os ts) v:=by
 have tag : ∀ {g:Tag} {z len cap:Nat} {base:Option (Nat×Nat)},iP M0 s0 g z len base cap→iP M s (g.cW ts) z len base cap:=by
  intro g z len cap base h
  cases g with
  |full=>exact h
  |shared=>exact h
  |tok t y=>
   obtain⟨h1,h2⟩:=h
   obtain⟨t',e,hD,IG,hb⟩:=kJ t h1
   simp only[Tag.cW,e]
   refine⟨hD,fun n hn=>?_⟩
   rw[hb]
   exact h2 n (IG ▸ hn)
 induction h with
 |junk v=>simp only[D.cW];exact .junk v
 |int k x=>simp only[D.cW];exact .int k x
 |bool b=>simp only[D.cW];exact .bool b
 |str l=>simp only[D.cW];exact .str l
 |dR=>simp only[D.cW];exact .dR
 |ptr o off ho hk=>
  obtain⟨o',e,hD,hm⟩:=jn o ho
  simp only[D.cW,e]
  have hb:M.ob o'=M0.ob o:=congrArg Prod.snd hm
  have hm:M.mu o'=M0.mu o:=congrArg Prod.fst hm
  rw[← hm]
  exact .ptr o' off hD (by rw[hb];exact hk)
 |fP o ho hk=>
  obtain⟨o',e,hD,hm⟩:=jn o ho
  simp only[D.cW,e]
  have hb:M.ob o'=M0.ob o:=congrArg Prod.snd hm
  have hm:M.mu o'=M0.mu o:=congrArg Prod.fst hm
  rw[← hm]
  exact .fP o' hD (by rw[hb];exact hk)
 |ew z a=>simp only[D.cW];exact .ew z a
 |eB z o g len b cap A ho hk ha hl=>
  obtain⟨o',e,hD,hm⟩:=jn o ho
  simp only[D.cW,e]
  exact .eB z o' g len b cap A hD ((congrArg Prod.snd hm).trans hk) ha hl
 |fu z o g off b cap A ho hk ha=>
  obtain⟨o',e,hD,hm⟩:=jn o ho
  simp only[D.cW,e]
  exact .fu z o' g off b cap A hD ((congrArg Prod.snd hm).trans hk) ha
 |gd f ds vs hl _ ih=>
  simp only[D.cW,fO]
  refine .gd f _ vs (by simpa using hl) (fun i d v e1 e2=>?_)
  simp only[List.getElem?_map,Option.map_eq_some_iff]at e1
  obtain⟨d',e1,rfl⟩:=e1
  exact ih i d' v e1 e2
 |val v hv=>simp only[D.cW];exact .val v hv
 |fq T o v ho ht hv=>
  obtain⟨o',e,hD,hm⟩:=jn o ho
  simp only[D.cW,e]
  have h1:M.mu o'=M0.mu o:=congrArg Prod.fst hm
  have h2:M.ty o'=M0.ty o:=congrArg (fun x=>x.2.ty?) hm
  exact .fq T o' v hD (by rw[h2];exact ht) (by rw[h1];exact hv)
 | dA row off b k h1 h2 ih=>
  simp only[D.cW,fO]
  refine .dA _ off b k (fun i d e=>?_) (fun i d u e eu=>?_)
  ·simp only [List.getElem?_map,Option.map_eq_some_iff]at e
   obtain⟨d',e,rfl⟩:=e
   rw[← hG];exact h1 i d' e
  ·simp only [List.getElem?_map,Option.map_eq_some_iff]at e
   obtain⟨d',e,rfl⟩:=e
   rw[← hG]at eu;exact ih i d' u e eu
 |iA g z cap hc ht=>simp only[D.cW,D.nT];exact .iA _ z cap hc (tag ht)
 |lC z a cap=>simp only[D.cW,D.nT,Tag.cW];exact .lC z a cap
 | slice g z rows b k cap hl hs h1 h2 ht ih=>
  simp only[D.cW,B7]
  have hlen:(rows.map (D.e9 os ts)).length=rows.length:=by simp
  have key:=RD.slice (M:=M) (s:=s) (g.cW ts) z (rows.map (D.e9 os ts)) b k cap (by rw[hlen];exact hl) (fun row hr=>by
   obtain⟨ko,h',rfl⟩:=List.mem_map.1 hr
   rw[fO,List.length_map];exact hs ko h')
   (fun i row j d e1 e2=>by
    simp only[List.getElem?_map,Option.map_eq_some_iff]at e1
    obtain⟨ko,e1,rfl⟩:=e1
    rw[fO]at e2
    simp only[List.getElem?_map,Option.map_eq_some_iff]at e2
    obtain⟨d',e2,rfl⟩:=e2
    rw[← hG];exact h1 i ko j d' e1 e2)
   (fun i row j d u e1 e2 eu=>by
    simp only[List.getElem?_map,Option.map_eq_some_iff]at e1
    obtain⟨ko,e1,rfl⟩:=e1
    rw[fO]at e2
    simp only[List.getElem?_map,Option.map_eq_some_iff]at e2
    obtain⟨d',e2,rfl⟩:=e2
    rw[← hG]at eu;exact ih i ko j d' u e1 e2 eu)
   (by rw[hlen];exact tag ht)
  rw[hlen]at key
  exact key
 |agg cells vs hl h1 _ ih=>
  simp only[D.cW,fO]
  refine .agg _ vs (by simpa using hl) h1 (fun i d v e1 e2=>?_)
  simp only[List.getElem?_map,Option.map_eq_some_iff]at e1
  obtain⟨d',e1,rfl⟩:=e1
  exact ih i d' v e1 e2
 |tuple ds vs hl _ ih=>
  simp only[D.cW,fO]
  refine .tuple _ vs (by simpa using hl) (fun i d v e1 e2=>?_)
  simp only[List.getElem?_map,Option.map_eq_some_iff]at e1
  obtain⟨d',e1,rfl⟩:=e1
  exact ih i d' v e1 e2
def kC {α:Type} : List Nat→List α→List α→List α
 | [],new,l=>l++new
 |_::_,[],l=>l
 |o::os,x::xs,l=>kC os xs (l.set o x)
def ky (os:List Nat) (n k:Nat):List Nat:=os++(List.range k).map (n + ·)
theorem xj {α:Type} : ∀ (os:List Nat) (xs l:List α),os.length≤xs.length→(kC os xs l).length=l.length+(xs.length - os.length)
 | [],xs,l,_=>by simp[kC]
 |o::os,[],l,h=>by simp at h
 |o::os,x::xs,l,h=>by
  simp only[kC]
  rw[xj os xs _ (by simpa using h)]
  simp
theorem Dp {α:Type} : ∀ (os:List Nat) (xs l:List α),os.length≤xs.length→os.Nodup→(∀ o∈os,o<l.length)→
 (∀ (i:Nat) (o:Nat),os[i]? = some o→(kC os xs l)[o]? = xs[i]?)∧(∀ o,o<l.length→o∉os→(kC os xs l)[o]? = l[o]?)∧
 (∀ k,(kC os xs l)[l.length+k]? = xs[os.length+k]?)
 | [],xs,l,_,_,_=>by
  refine⟨by simp,fun o ho _=>by simp only[kC];rw[List.getElem?_append_left ho],fun k=>by simp only[kC];rw[List.getElem?_append_right (by omega)];simp⟩
 |o::os,[],l,h,_,_=>by simp at h
 | o::os,x::xs,l,h,hn,hD=>by
  simp only[List.nodup_cons]at hn
  have Ah : ∀ q∈os,q<(l.set o x).length:=fun q hq=>by simpa using hD q (by simp[hq])
  obtain⟨h1,h2,h3⟩:=Dp os xs (l.set o x) (by simpa using h) hn.2 Ah
  have ho:o<l.length:=hD o (by simp)
  simp only[kC]
  refine⟨fun i q e=>?_,fun q hq Bh=>?_,fun k=>?_⟩
  ·cases i with
   |zero=>
    simp only[List.getElem?_cons_zero,Option.some.injEq]at e
    subst e
    rw[h2 o (by simpa using ho) hn.1]
    simp[ho]
   |succ i=>simpa using h1 i q (by simpa using e)
  ·have vk:q≠o:=fun e=>Bh (by simp [e])
   rw[h2 q (by simpa using hq) (fun h=>Bh (by simp[h])),List.getElem?_set_ne (Ne.symm vk)]
  ·have:=h3 k
   simp only[List.length_set]at this
   rw[this]
   simp only[List.length_cons]
   rw[show os.length+1+k=(os.length+k)+1 by omega];simp
theorem CX (os:List Nat) (n k i:Nat):(ky os n k)[i]? = if i<os.length then os[i]? else if i<os.length+k then some (n+(i - os.length))else none:=by
 unfold ky
 split
 ·rename_i h;rw[List.getElem?_append_left h]
 ·rename_i h
  rw[List.getElem?_append_right (by omega)]
  split
  ·rename_i h2
   rw[List.getElem?_map,List.getElem?_range (by omega)];rfl
  ·rename_i h2
   rw[List.getElem?_eq_none]
   simp;omega
def posOf:List Nat→Nat→Option Nat
 | [],_=>none
 |x::r,o=>if x=o then some 0 else(posOf r o).map (· + 1)
theorem iQ : ∀ {l:List Nat} {o i:Nat},posOf l o=some i→l[i]? = some o
 | x::r,o,i,h=>by
  simp only[posOf]at h
  split at h
  ·rename_i e;cases h;simp[e]
  ·cases hp:posOf r o with
   |none=>rw[hp]at h;cases h
   |some j=>rw[hp]at h;cases h;simpa using iQ hp
theorem mr : ∀ {l:List Nat} {o i:Nat},l.Nodup→l[i]? = some o→posOf l o=some i
 | x::r,o,i,hn,h=>by
  simp only[List.nodup_cons]at hn
  simp only[posOf]
  cases i with
  |zero=>simp at h;simp[h]
  |succ i=>
   simp at h
   have:x≠o:=fun e=>hn.1 (by rw[e];exact List.mem_of_getElem? h)
   rw[if_neg this,mr hn.2 h];rfl
end
end Go.Abs
namespace Go.Abs
theorem Ai {l:List Nat} {n k:Nat} (h:l.Nodup) (hl : ∀ o∈l,o<n):(ky l n k).Nodup:=by
 unfold ky
 rw[List.nodup_append]
 refine⟨h, ?_,fun a ha b hb=>?_⟩
 ·rw [List.nodup_iff_pairwise_ne,List.pairwise_map]
  exact List.Pairwise.imp (fun h=>by omega) (List.nodup_iff_pairwise_ne.1 List.nodup_range)
 ·obtain⟨c,hc,rfl⟩:=List.mem_map.1 hb
  have:=hl a ha
  omega
def gJ (M:Map) (os ts:List Nat):Map:=⟨M.G,fun i=>M.loc (os.getD i 0),fun i=>M.be (ts.getD i 0)⟩
def ye (M M0:Map) (os ts:List Nat):Map:=
 ⟨M0.G,fun o=>match posOf os o with|some i=>M0.loc i|none=>M.loc o,fun t=>match posOf ts t with|some i=>M0.be i|none=>M.be t⟩
section
variable {P:Program} {M:Map} {s s0:St} {w:World} {os ts:List Nat}
theorem u6 {l:List Nat} {i o:Nat} (h:l[i]? = some o):l.getD i 0=o:=by simp[List.getD,h]
theorem Rel.sub (r:Rel M s w) (uz:os.Nodup) (vq:ts.Nodup) (jk : ∀ o∈os,o<s.ah.length)
 (ho:s0.ah.length=os.length) (xk : ∀ (i o:Nat) (ds:List D),os[i]? = some o→s0.ah[i]? = some ds→s.ah[o]? = some (D.e9 os ts ds)∧D.bL os.length ts.length ds=true)
 (ht:s0.aw.length=ts.length) (tL : ∀ (i t:Nat),ts[i]? = some t→s0.aw[i]? = s.aw[t]?):Rel (gJ M os ts) s0 w:=by
 have nth : ∀ i,i<s0.ah.length→∃ o,os[i]? = some o∧o<s.ah.length:=fun i hi=>⟨os[i],List.getElem?_eq_getElem (by omega),jk _ (List.getElem_mem _)⟩
 have loc : ∀ (i:Nat) o,os[i]? = some o→(gJ M os ts).loc i=M.loc o:=fun i o h=>by simp only[gJ,u6 h]
 have mu : ∀ (i:Nat) o,os[i]? = some o→(gJ M os ts).mu i=M.mu o:=fun i o h=>congrArg Prod.fst (loc i o h)
 have be : ∀ (i:Nat) t,ts[i]? = some t→(gJ M os ts).be i=M.be t:=fun i t h=>by simp only[gJ,u6 h]
 have WI : ∀ t,s0.live t→∃ t',ts[t]? = some t'∧s.live t':=fun t ⟨n,hn⟩=>by
  have hD:=(List.getElem?_eq_some_iff.1 hn).1
  have e:ts[t]? = some ts[t]:=List.getElem?_eq_getElem (by omega)
  exact⟨_,e,n,by rw[← tL t _ e];exact hn⟩
 refine⟨r.comm,fun i ds e=>?_,fun i hi off=>?_,fun i i' hi ic e=>?_,fun t n e=>?_,fun t b c z i hl e hi=>?_,fun t t' b c z c' z' h h' e e'=>?_⟩
 ·obtain⟨o,h1,_⟩:=nth i (List.getElem?_eq_some_iff.1 e).1
  obtain⟨h2,h3⟩:=xk i o ds h1 e
  obtain⟨vs,T,g1,g2,g3,g4⟩:=r.obj o _ h2
  refine⟨vs,T,by rw[loc i o h1];exact g1,by rw[fO]at g2;simpa using g2,⟨g3.1,by rw[show(gJ M os ts).ty i=M.ty o from congrArg (fun x=>x.2.ty?) (loc i o h1)];exact g3.2⟩,fun j d v e1 e2=>?_⟩
  exact RD.B8 (M:=M) (M0:=gJ M os ts) (s:=s) rfl loc ho be tL ht (g4 j (d.cW os ts) v (by rw[fO,List.getElem?_map,e1];rfl) e2) d rfl (vn h3 e1)
 ·obtain⟨o,h1,h2⟩:=nth i hi
  rw[mu i o h1];exact r.jL o h2 off
 ·obtain⟨o,h1,h2⟩:=nth i hi
  obtain⟨o',rX,uA⟩:=nth i' ic
  rw[mu i o h1,mu i' o' rX]at e
  have:=r.inj o o' h2 uA e
  subst this
  have a:=mr uz h1
  have b:=mr uz rX
  rw[a]at b;cases b;rfl
 ·obtain⟨t',h1,h2⟩:=WI t ⟨n,e⟩
  rw[be t t' h1]
  exact r.tok t' n (by rw[← tL t t' h1];exact e)
 ·obtain⟨t',h1,h2⟩:=WI t hl
  obtain⟨o,h3,h4⟩:=nth i hi
  rw[be t t' h1]at e
  rw[mu i o h3]
  exact r.fh t' b c z o h2 e h4
 ·obtain⟨q,h1,h2⟩:=WI t h
  obtain⟨q',rX,uA⟩:=WI t' h'
  rw[be t q h1]at e
  rw[be t' q' rX]at e'
  have:=r.fQ q q' b c z c' z' h2 uA e e'
  subst this
  have a:=mr vq h1
  have b:=mr vq rX
  rw[a]at b;cases b;rfl
end
def St.back (s:St) (os ts:List Nat) (s':St):St:=
 ⟨kC os (s'.ah.map (D.e9 (ky os s.ah.length (s'.ah.length - os.length)) (ky ts s.aw.length (s'.aw.length - ts.length)))) s.ah,kC ts s'.aw s.aw⟩
def D.back (s:St) (os ts:List Nat) (s':St) (d:D):D:=
 d.cW (ky os s.ah.length (s'.ah.length - os.length)) (ky ts s.aw.length (s'.aw.length - ts.length))
theorem bM.frame {P:Program} {f:FuncId} {Nj args:List D} {s s0:St} {Q0 Q:D→St→Prop} (os ts:List Nat) (h:bM P f Nj s0 Q0) (uz:os.Nodup) (vq:ts.Nodup) (jk : ∀ o∈os,o<s.ah.length) (ux : ∀ t∈ts,t<s.aw.length)
 (ho:s0.ah.length=os.length) (xk : ∀ (i o:Nat) (ds:List D),os[i]? = some o→s0.ah[i]? = some ds→s.ah[o]? = some (D.e9 os ts ds)∧D.bL os.length ts.length ds=true)
 (ht:s0.aw.length=ts.length) (tL : ∀ (i t:Nat),ts[i]? = some t→s0.aw[i]? = s.aw[t]?)
 (ze:args=D.e9 os ts Nj) (pK:D.bL os.length ts.length Nj=true) (k : ∀ d s',Q0 d s'→Q (d.back s os ts s') (s.back os ts s')):bM P f args s Q:=by
 intro M w fJ r kx dO ha
 have r0:=r.sub uz vq jk ho xk ht tL
 have loc : ∀ (i:Nat) o,os[i]? = some o→(gJ M os ts).loc i=M.loc o:=fun i o h=>by simp only[gJ,u6 h]
 have mu : ∀ (i:Nat) o,os[i]? = some o→(gJ M os ts).mu i=M.mu o:=fun i o h=>congrArg Prod.fst (loc i o h)
 have be : ∀ (i:Nat) t,ts[i]? = some t→(gJ M os ts).be i=M.be t:=fun i t h=>by simp only[gJ,u6 h]
 subst ze
 have abf:Laid (gJ M os ts) s0 w:=by
  intro g cs hg
  obtain⟨h1,h2,h3⟩:=kx g cs hg
  refine⟨h1,fun o hD=>?_,fun t c z hl hb=>?_⟩
  ·obtain⟨o',nK⟩ : ∃ o',os[o]? = some o':=⟨_,List.getElem?_eq_getElem (by omega)⟩
   rw[mu o o' nK]
   exact h2 o' (jk o' (List.mem_of_getElem? nK))
  ·obtain⟨n,hn⟩:=hl
   have hD:=(List.getElem?_eq_some_iff.1 hn).1
   obtain⟨t',Eg⟩ : ∃ t',ts[t]? = some t':=⟨_,List.getElem?_eq_getElem (by omega)⟩
   rw[be t t' Eg]at hb
   exact h3 t' c z ⟨n,by rw[← tL t t' Eg];exact hn⟩ hb
 have hc:=h (gJ M os ts) w fJ r0 abf (by rw[dO,fO,List.length_map]) (fun i d v e1 e2=>
  RD.B8 (M:=M) (M0:=gJ M os ts) (s:=s) rfl loc ho be tL ht (ha i (d.cW os ts) v (by rw[fO,List.getElem?_map,e1];rfl) e2) d rfl (vn pK e1))
 refine hc.mono ?_
 rintro en w' ⟨yf,d,v,s',rfl,hq,e,r',hv⟩
 have IL:=e.le.n
 have D5:=e.le.t
 generalize Nk:ky os s.ah.length (s'.ah.length - os.length)=lR
 generalize Nl:ky ts s.aw.length (s'.aw.length - ts.length)=o4
 have nd:lR.Nodup:=by rw[← Nk];exact Ai uz jk
 have ndt:o4.Nodup:=by rw[← Nl];exact Ai vq ux
 have Nn : ∀ i,lR[i]? = if i<os.length then os[i]? else if i<s'.ah.length then some (s.ah.length+(i - os.length))else none:=fun i=>by
  rw[← Nk,CX];split
  ·rfl
  ·rw[show os.length+(s'.ah.length - os.length)=s'.ah.length by omega]
 have No : ∀ i,o4[i]? = if i<ts.length then ts[i]? else if i<s'.aw.length then some (s.aw.length+(i - ts.length))else none:=fun i=>by
  rw[← Nl,CX];split
  ·rfl
  ·rw[show ts.length+(s'.aw.length - ts.length)=s'.aw.length by omega]
 have hsb:s.back os ts s' = ⟨kC os (s'.ah.map (D.e9 lR o4)) s.ah,kC ts s'.aw s.aw⟩:=by simp only[St.back,Nk,Nl]
 have hdb:d.back s os ts s'=d.cW lR o4:=by simp only[D.back,Nk,Nl]
 have mL:=k d s' hq
 rw[hsb,hdb]at mL
 obtain⟨p1,p2,p3⟩:=Dp os (s'.ah.map (D.e9 lR o4)) s.ah (by simp;omega) uz jk
 obtain⟨q1,q2,q3⟩:=Dp ts s'.aw s.aw (by omega) vq ux
 have IS:=xj os (s'.ah.map (D.e9 lR o4)) s.ah (by simp;omega)
 have IT:=xj ts s'.aw s.aw (by omega)
 simp only[List.length_map]at IS
 generalize Ae:(⟨kC os (s'.ah.map (D.e9 lR o4)) s.ah,kC ts s'.aw s.aw⟩:St)=s2 at mL
 have so:s2.ah=kC os (s'.ah.map (D.e9 lR o4)) s.ah:=by rw[← Ae]
 have st:s2.aw=kC ts s'.aw s.aw:=by rw[← Ae]
 -- the framed objects
 have fo : ∀ (i o:Nat),lR[i]? = some o→o<s2.ah.length∧s2.ah[o]? = (s'.ah[i]?).map (D.e9 lR o4)∧i<s'.ah.length∧(i<os.length→o<s.ah.length∧os[i]? = some o)∧(os.length≤i→s.ah.length≤o):=by
  intro i o hi
  rw[Nn]at hi
  split at hi
  ·rename_i h1
   have hD:=jk o (List.mem_of_getElem? hi)
   refine⟨by rw[so,IS];omega,by rw[so,p1 i o hi,List.getElem?_map],by omega,fun _=>⟨hD,hi⟩,fun h=>by omega⟩
  ·split at hi
   ·rename_i h1 h2
    cases hi
    refine⟨by rw[so,IS];omega, ?_,h2,fun h=>by omega,fun _=>by omega⟩
    rw[so,p3,List.getElem?_map,show os.length+(i - os.length)=i by omega]
   ·cases hi
 have ft : ∀ (i t:Nat),o4[i]? = some t→t<s2.aw.length∧s2.aw[t]? = s'.aw[i]? ∧i<s'.aw.length∧(i<ts.length→t<s.aw.length∧ts[i]? = some t)∧(ts.length≤i→s.aw.length≤t):=by
  intro i t hi
  rw[No]at hi
  split at hi
  ·rename_i h1
   have hD:=ux t (List.mem_of_getElem? hi)
   refine⟨by rw[st,IT];omega,by rw[st,q1 i t hi],by omega,fun _=>⟨hD,hi⟩,fun h=>by omega⟩
  ·split at hi
   ·rename_i h1 h2
    cases hi
    refine⟨by rw[st,IT];omega, ?_,h2,fun h=>by omega,fun _=>by omega⟩
    rw[st,q3,show ts.length+(i - ts.length)=i by omega]
   ·cases hi
 -- all others
 have uo : ∀ o,o<s2.ah.length→posOf lR o=none→o<s.ah.length∧o∉os∧s2.ah[o]? = s.ah[o]? :=by
  intro o hD hp
  have nU : ∀ i,lR[i]? ≠some o:=fun i hi=>by rw[mr nd hi]at hp;cases hp
  have h1:o<s.ah.length:=by
   rcases Nat.lt_or_ge o s.ah.length with h|h
   ·exact h
   ·exfalso
    rw[so,IS]at hD
    refine nU (os.length+(o - s.ah.length)) ?_
    rw[Nn,if_neg (by omega),if_pos (by omega)]
    congr 1;omega
  have h2:o∉os:=fun hm=>by
   obtain⟨i,hi⟩:=List.mem_iff_getElem?.1 hm
   have qJ:=(List.getElem?_eq_some_iff.1 hi).1
   exact nU i (by rw[Nn,if_pos qJ];exact hi)
  exact⟨h1,h2,by rw[so,p2 o h1 h2]⟩
 have ut : ∀ t,t<s2.aw.length→posOf o4 t=none→t<s.aw.length∧t∉ts∧s2.aw[t]? = s.aw[t]? :=by
  intro t hD hp
  have nU : ∀ i,o4[i]? ≠some t:=fun i hi=>by rw[mr ndt hi]at hp;cases hp
  have h1:t<s.aw.length:=by
   rcases Nat.lt_or_ge t s.aw.length with h|h
   ·exact h
   ·exfalso
    rw[st,IT]at hD
    refine nU (ts.length+(t - s.aw.length)) ?_
    rw[No,if_neg (by omega),if_pos (by omega)]
    congr 1;omega
  have h2:t∉ts:=fun hm=>by
   obtain⟨i,hi⟩:=List.mem_iff_getElem?.1 hm
   have qJ:=(List.getElem?_eq_some_iff.1 hi).1
   exact nU i (by rw[No,if_pos qJ];exact hi)
  exact⟨h1,h2,by rw[st,q2 t h1 h2]⟩
 generalize QK:ye M yf lR o4=M2
 have mG:yf.G=M2.G:=by rw[← QK];rfl
 have lo : ∀ (i o:Nat),lR[i]? = some o→M2.loc o=yf.loc i:=fun i o hi=>by rw[← QK];simp only[ye,mr nd hi]
 have WJ : ∀ o,posOf lR o=none→M2.loc o=M.loc o:=fun o hp=>by rw[← QK];simp only[ye,hp]
 have mo : ∀ (i o:Nat),lR[i]? = some o→M2.mu o=yf.mu i:=fun i o hi=>congrArg Prod.fst (lo i o hi)
 have IU : ∀ o,posOf lR o=none→M2.mu o=M.mu o:=fun o hp=>congrArg Prod.fst (WJ o hp)
 have mt : ∀ (i t:Nat),o4[i]? = some t→M2.be t=yf.be i:=fun i t hi=>by rw[← QK];simp only[ye,mr ndt hi]
 have IV : ∀ t,posOf o4 t=none→M2.be t=M.be t:=fun t hp=>by rw[← QK];simp only[ye,hp]
 have le:Le M s M2 s2:=by
  refine⟨fun b o v hg=>by rw[← mG];exact e.le.G b o v hg,by rw[so,IS];omega,fun o hD=>?_,by rw[st,IT];omega,fun t n' hD qY=>?_⟩
  ·cases hp:posOf lR o with
   |none=>rw[WJ o hp];exact .refl _
   | some i=>
    have hi:=iQ hp
    rw[lo i o hi]
    obtain⟨_,_,_,h1,h2⟩:=fo i o hi
    have qJ:i<os.length:=by
     rcases Nat.lt_or_ge i os.length with h|h
     ·exact h
     ·have:=h2 h;omega
    have h3:=e.le.loc i (by omega)
    rw[loc i o (h1 qJ).2]at h3
    exact h3
  ·cases hp:posOf o4 t with
   |none=>
    obtain⟨_,_,h3⟩:=ut t (by rw[st,IT];omega) hp
    rw[h3]at qY
    exact⟨n',qY,Nat.le_refl _,fun _=>IV t hp⟩
   | some i=>
    have hi:=iQ hp
    obtain⟨_,g1,_,h1,h2⟩:=ft i t hi
    have qJ:i<ts.length:=by
     rcases Nat.lt_or_ge i ts.length with h|h
     ·exact h
     ·have:=h2 h;omega
    rw[g1]at qY
    obtain⟨n,h3,h4,h5⟩:=e.le.tk i n' (by omega) qY
    refine⟨n,by rw[← tL i t (h1 qJ).2];exact h3,h4,fun eq=>?_⟩
    rw[mt i t hi,h5 eq,be i t (h1 qJ).2]
 have abg : ∀ {d:D} {v:Value},RD yf s' d v→RD M2 s2 (d.cW lR o4) v:=fun hd=>RD.cW mG
  (fun i hi=>by
   obtain⟨o,ho⟩ : ∃ o,lR[i]? = some o:=by
    rw[Nn];split
    ·rename_i h1;exact⟨_,List.getElem?_eq_getElem h1⟩
    ·exact⟨_,rfl⟩
   exact⟨o,ho,(fo i o ho).1,lo i o ho⟩)
  (fun i hi=>by
   obtain⟨t,ht⟩ : ∃ t,o4[i]? = some t:=by
    rw[No];split
    ·rename_i h1;exact⟨_,List.getElem?_eq_getElem h1⟩
    ·exact⟨_,rfl⟩
   exact⟨t,ht,(ft i t ht).1,(ft i t ht).2.1,mt i t ht⟩) hd
 -- blocks that the callee did not know
 have H3 : ∀ i,s0.live i→∃ t,ts[i]? = some t∧s.live t:=fun i ⟨n,hn⟩=>by
  have hD:=(List.getElem?_eq_some_iff.1 hn).1
  have e1:ts[i]? = some ts[i]:=List.getElem?_eq_getElem (by omega)
  exact⟨_,e1,n,by rw[← tL i _ e1];exact hn⟩
 have Np : ∀ b,b<w.heap.size→(∀ (i o:Nat),os[i]? = some o→M.mu o≠b)→(∀ (i t:Nat) c z,ts[i]? = some t→s.live t→M.be t≠some (b,c,z))→
  w'.heap[b]? = w.heap[b]? ∧∀ off,yf.G b off=M.G b off:=by
  intro b hb h1 h2
  refine⟨e.kept b hb (fun i hi=>?_) (fun i c z hl=>?_),fun off=>?_⟩
  ·have e1:os[i]? = some os[i]:=List.getElem?_eq_getElem (by omega)
   rw[mu i _ e1];exact h1 i _ e1
  ·obtain⟨t,e1,hD⟩:=H3 i hl
   rw[be i t e1];exact h2 i t c z e1 hD
  ·apply Classical.byContradiction
   intro eO
   rcases e.sb b off eO with h3|⟨i,c,z,hl,h3⟩
   ·omega
   ·obtain⟨t,e1,hD⟩:=H3 i hl
    rw[be i t e1]at h3
    exact h2 i t c z e1 hD h3
 have WK : ∀ o,o<s.ah.length→o∉os→w'.heap[M.mu o]? = w.heap[M.mu o]? ∧∀ off,yf.G (M.mu o) off=M.G (M.mu o) off:=fun o hD nU=>
  Np _ (r.qg hD) (fun i o' h1 h2=>nU (by rw[← r.inj o' o (jk o' (List.mem_of_getElem? h1)) hD h2];exact List.mem_of_getElem? h1))
   (fun i t c z _ hl h2=>r.fh t _ c z o hl h2 hD rfl)
 have afp : ∀ t b c z,s.live t→t∉ts→M.be t=some (b,c,z)→w'.heap[b]? = w.heap[b]? ∧∀ off,yf.G b off=M.G b off:=fun t b c z hl nU hb=>
  Np b (r.sD hl hb) (fun i o h1=>r.fh t b c z o hl hb (jk o (List.mem_of_getElem? h1)))
   (fun i t' c' z' h1 l8 h2=>nU (by rw[r.fQ t t' b c z c' z' hl l8 hb h2];exact List.mem_of_getElem? h1))
 have lv : ∀ t,s2.live t→(∃ i,o4[i]? = some t∧s'.live i)∨(posOf o4 t=none∧s.live t∧t∉ts):=by
  rintro t ⟨n,hn⟩
  cases hp:posOf o4 t with
  |none=>
   obtain⟨h1,h2,h3⟩:=ut t (List.getElem?_eq_some_iff.1 hn).1 hp
   exact .inr ⟨rfl,⟨n,by rw[← h3];exact hn⟩,h2⟩
  |some i=>
   have hi:=iQ hp
   exact .inl ⟨i,hi,n,by rw[← (ft i t hi).2.1];exact hn⟩
 -- where a framed object lies
 have WL : ∀ (i o:Nat),lR[i]? = some o→(o<s.ah.length∧o∈os∧yf.mu i=M.mu o)∨w.heap.size≤yf.mu i:=by
  intro i o hi
  obtain⟨_,_,h1,h2,h3⟩:=fo i o hi
  rcases e.mo h1 with ⟨h4,h5⟩|h4
  ·have h:i<os.length:=by omega
   exact .inl ⟨(h2 h).1,List.mem_of_getElem? (h2 h).2,by rw[h5,mu i o (h2 h).2]⟩
  ·exact .inr h4
 have WM : ∀ (i t b c z:Nat),o4[i]? = some t→s'.live i→yf.be i=some (b,c,z)→(s.live t∧t∈ts∧∃ c' z',M.be t=some (b,c',z'))∨w.heap.size≤b:=by
  intro i t b c z hi hl hb
  rcases e.qo i b c z hl hb with ⟨h1,c',z',h2⟩|h1
  ·obtain⟨t',e1,hD⟩:=H3 i h1
   have qJ:=(List.getElem?_eq_some_iff.1 e1).1
   obtain⟨_,_,_,h3,_⟩:=ft i t hi
   have:=(h3 qJ).2
   rw[e1]at this;cases this
   rw[be i _ e1]at h2
   exact .inl ⟨hD,List.mem_of_getElem? e1,c',z',h2⟩
  ·exact .inr h1
 refine⟨M2,d.cW lR o4,v,s2,rfl,mL, ?_, ?_,abg hv⟩
 ·-- Ext
  refine⟨le,fun b hb h1 h2=>?_,fun o h1 h2=>?_,fun t b c z hl hb=>?_,fun b off eO=>?_,e.size,e.os,e.tape,e.output⟩
  ·exact(Np b hb (fun i o h3=>h1 o (jk o (List.mem_of_getElem? h3))) (fun i t c z _ hl=>h2 t c z hl)).1
  ·cases hp:posOf lR o with
   |none=>
    have:=(uo o h2 hp).1
    rcases h1 with h1|h1
    ·omega
    ·exact(h1 (IU o hp)).elim
   | some i=>
    have hi:=iQ hp
    rw[mo i o hi]at h1 ⊢
    rcases WL i o hi with ⟨h3,_,h5⟩|h3
    ·rcases h1 with h1 | h1
     ·omega
     ·exact(h1 h5).elim
    ·exact h3
  ·rcases lv t hl with ⟨i,hi,l8⟩ | ⟨hp,l8,_⟩
   ·rw [mt i t hi]at hb
    rcases WM i t b c z hi l8 hb with ⟨h1,_,h2⟩|h1
    ·exact .inl ⟨h1,h2⟩
    ·exact .inr h1
   ·rw [IV t hp]at hb
    exact .inl ⟨l8,c,z,hb⟩
  ·rw [← mG]at eO
   rcases e.sb b off eO with h1|⟨i,c,z,hl,hb⟩
   ·exact .inl h1
   ·obtain⟨t,e1,hD⟩:=H3 i hl
    rw[be i t e1]at hb
    exact .inr ⟨t,c,z,hD,hb⟩
 ·-- Rel
  refine⟨fun b o v hg=>r'.comm b o v (by rw[mG];exact hg),fun o ds Ba=>?_,fun o hD off=>?_,fun o o' hD Ah heq=>?_,fun t n hn=>?_,fun t b c z o hl hb hD=>?_,fun t t' b c z c' z' hl l8 hb rV=>?_⟩
  ·cases hp:posOf lR o with
   |some i=>
    have hi:=iQ hp
    obtain⟨_,g1,_⟩:=fo i o hi
    rw[g1]at Ba
    obtain⟨nJ,h1,rfl⟩:=Option.map_eq_some_iff.1 Ba
    obtain⟨vs,T,h2,h3,h4,h5⟩:=r'.obj i nJ h1
    refine⟨vs,T,by rw[lo i o hi];exact h2,by rw[fO];simpa using h3,⟨h4.1,by rw[show M2.ty o=yf.ty i from congrArg (fun x=>x.2.ty?) (lo i o hi)];exact h4.2⟩,fun j d v e1 e2=>?_⟩
    rw[fO]at e1
    simp only[List.getElem?_map,Option.map_eq_some_iff]at e1
    obtain⟨d',e1,rfl⟩:=e1
    exact abg (h5 j d' v e1 e2)
   |none=>
    obtain⟨h1,h2,h3⟩:=uo o (List.getElem?_eq_some_iff.1 Ba).1 hp
    rw[h3]at Ba
    obtain⟨vs,T,g1,g2,g3,g4⟩:=r.obj o ds Ba
    exact⟨vs,T,by rw[WJ o hp];exact g1.keep (WK o h1 h2).1,g2,⟨g3.1,by rw[show M2.ty o=M.ty o from congrArg (fun x=>x.2.ty?) (WJ o hp)];exact g3.2⟩,fun j d v e1 e2=>(g4 j d v e1 e2).mono le⟩
  ·cases hp:posOf lR o with
   |some i=>
    have hi:=iQ hp
    rw[mo i o hi, ← mG];exact r'.jL i (fo i o hi).2.2.1 off
   |none=>
    obtain⟨h1,h2,h3⟩:=uo o hD hp
    rw[IU o hp, ← mG,(WK o h1 h2).2 off];exact r.jL o h1 off
  ·cases hp:posOf lR o with
   | some i=>
    have hi:=iQ hp
    rw[mo i o hi]at heq
    cases mU:posOf lR o' with
    |some i'=>
     have ic:=iQ mU
     rw[mo i' o' ic]at heq
     have:=r'.inj i i' (fo i o hi).2.2.1 (fo i' o' ic).2.2.1 heq
     subst this
     rw[hi]at ic;cases ic;rfl
    | none=>
     obtain⟨h1,h2,_⟩:=uo o' Ah mU
     rw[IU o' mU]at heq
     rcases WL i o hi with ⟨h3,h4,h5⟩|h3
     ·rw [h5]at heq
      have:=r.inj o o' h3 h1 heq
      subst this;exact(h2 h4).elim
     ·have:=r.qg h1;omega
   | none=>
    obtain⟨h1,h2,_⟩:=uo o hD hp
    rw[IU o hp]at heq
    cases mU:posOf lR o' with
    | some i'=>
     have ic:=iQ mU
     rw[mo i' o' ic]at heq
     rcases WL i' o' ic with ⟨h3,h4,h5⟩|h3
     ·rw [h5]at heq
      have:=r.inj o o' h1 h3 heq
      subst this;exact(h2 h4).elim
     ·have:=r.qg h1;omega
    |none=>
     obtain⟨rX,_,_⟩:=uo o' Ah mU
     rw[IU o' mU]at heq
     exact r.inj o o' h1 rX heq
  ·rcases lv t ⟨n,hn⟩with ⟨i,hi,hl⟩ | ⟨hp,hl,nU⟩
   ·rw [mt i t hi, ← mG]
    exact r'.tok i n (by rw[← (ft i t hi).2.1];exact hn)
   ·obtain⟨_,_,h3⟩:=ut t (List.getElem?_eq_some_iff.1 hn).1 hp
    rw[h3]at hn
    rw[IV t hp]
    rcases r.tok t n hn with h4|⟨b,cap,size,vs,T,g1,g2,g3,g4,g5⟩
    ·exact .inl h4
    ·obtain⟨k1,k2⟩:=afp t b cap size hl nU g1
     exact .inr ⟨b,cap,size,vs,T,g1,by rw[k1];exact g2,g3,g4,fun off ho=>by rw[← mG,k2 off];exact g5.1 off ho,g5.2⟩
  ·rcases lv t hl with ⟨i,hi,l8⟩ | ⟨hp,l8,nU⟩
   ·rw [mt i t hi]at hb
    cases IW:posOf lR o with
    |some j=>
     have hj:=iQ IW
     rw[mo j o hj]
     exact r'.fh i b c z j l8 hb (fo j o hj).2.2.1
    |none=>
     obtain⟨h1,h2,_⟩:=uo o hD IW
     rw[IU o IW]
     rcases WM i t b c z hi l8 hb with ⟨h3,_,c',z',h4⟩|h3
     ·exact r.fh t b c' z' o h3 h4 h1
     ·have:=r.qg h1;omega
   ·rw [IV t hp]at hb
    cases IW:posOf lR o with
    |some j=>
     have hj:=iQ IW
     rw[mo j o hj]
     rcases WL j o hj with ⟨h3,_,h5⟩|h3
     ·rw[h5];exact r.fh t b c z o l8 hb h3
     ·have:=r.sD l8 hb;omega
    |none=>
     obtain⟨h1,_,_⟩:=uo o hD IW
     rw[IU o IW];exact r.fh t b c z o l8 hb h1
  ·rcases lv t hl with ⟨i,hi,Aj⟩ | ⟨hp,hD,nU⟩
   ·rw [mt i t hi]at hb
    rcases lv t' l8 with ⟨i',ic,TK⟩|⟨mU,Ah,WN⟩
    ·rw [mt i' t' ic]at rV
     have:=r'.fQ i i' b c z c' z' Aj TK hb rV
     subst this
     rw[hi]at ic;cases ic;rfl
    ·rw [IV t' mU]at rV
     rcases WM i t b c z hi Aj hb with ⟨h3,h4,c2,z2,h5⟩|h3
     ·have:=r.fQ t t' b c2 z2 c' z' h3 Ah h5 rV
      subst this;exact(WN h4).elim
     ·have:=r.sD Ah rV;omega
   ·rw [IV t hp]at hb
    rcases lv t' l8 with ⟨i',ic,TK⟩|⟨mU,Ah,WN⟩
    ·rw [mt i' t' ic]at rV
     rcases WM i' t' b c' z' ic TK rV with ⟨h3,h4,c2,z2,h5⟩|h3
     ·have:=r.fQ t t' b c z c2 z2 hD h3 hb h5
      subst this;exact(nU h4).elim
     ·have:=r.sD hD hb;omega
    ·rw [IV t' mU]at rV
     exact r.fQ t t' b c z c' z' hD Ah hb rV
end Go.Abs
namespace Go.Abs
def Wk (d d':D):Prop:=∀ (M:Map) (s:St) (v:Value),RD M s d v→RD M s d' v
inductive jr:List D→List D→Prop where
 |nil:jr [] []
 |cons {d d':D} {l l':List D} (h:Wk d d') (t:jr l l'):jr (d::l) (d'::l')
inductive gD:List (List D)→List (List D)→Prop where
 |nil:gD [] []
 |cons {r r':List D} {l l':List (List D)} (h:jr r r') (t:gD l l'):gD (r::l) (r'::l')
theorem Wk.refl (d:D):Wk d d:=fun _ _ _ h=>h
theorem Wk.trans {a b c:D} (h:Wk a b) (k:Wk b c):Wk a c:=fun M s v r=>k M s v (h M s v r)
theorem Wk.junk (d:D):Wk d .junk:=fun _ _ v _=> .junk v
theorem jr.refl : ∀ l,jr l l
 | []=> .nil
 |d::l=> .cons (Wk.refl d) (jr.refl l)
theorem gD.refl : ∀ l,gD l l
 | []=> .nil
 |d::l=> .cons (jr.refl d) (gD.refl l)
theorem jr.len {l l':List D} (h:jr l l'):l.length=l'.length:=by
 induction h with
 |nil=>rfl
 |cons _ _ ih=>simp[ih]
theorem gD.len {l l':List (List D)} (h:gD l l'):l.length=l'.length:=by
 induction h with
 |nil=>rfl
 |cons _ _ ih=>simp[ih]
theorem jr.get {l l':List D} (h:jr l l') : ∀ {i:Nat} {d':D},l'[i]? = some d'→∃ d,l[i]? = some d∧Wk d d':=by
 induction h with
 |nil=>intro i d' e;simp at e
 |cons hd _ ih=>
  intro i d' e
  cases i with
  |zero=>simp at e;subst e;exact⟨_,rfl,hd⟩
  |succ i=>simp at e;simpa using ih e
theorem gD.get {l l':List (List D)} (h:gD l l') : ∀ {i:Nat} {d':List D},l'[i]? = some d'→∃ d,l[i]? = some d∧jr d d':=by
 induction h with
 |nil=>intro i d' e;simp at e
 |cons hd _ ih=>
  intro i d' e
  cases i with
  |zero=>simp at e;subst e;exact⟨_,rfl,hd⟩
  |succ i=>simp at e;simpa using ih e
theorem jr.append {a a' b b':List D} (h:jr a a') (k:jr b b'):jr (a++b) (a'++b'):=by
 induction h with
 |nil=>exact k
 |cons hd _ ih=>exact .cons hd ih
theorem gD.append {a a' b b':List (List D)} (h:gD a a') (k:gD b b'):gD (a++b) (a'++b'):=by
 induction h with
 |nil=>exact k
 |cons hd _ ih=>exact .cons hd ih
theorem Wk.agg {l l':List D} (h:jr l l'):Wk (.agg l) (.agg l'):=by
 intro M s v r
 cases r with
 |agg _ vs hl h1 hr=>
  refine .agg _ vs (by rw[← hl,h.len]) h1 fun i d' u e e2=>?_
  obtain⟨d,e1,hw⟩:=h.get e
  exact hw M s u (hr i d u e1 e2)
theorem Wk.tuple {l l':List D} (h:jr l l'):Wk (.tuple l) (.tuple l'):=by
 intro M s v r
 cases r with
 |tuple _ vs hl hr=>
  refine .tuple _ vs (by rw[← hl,h.len]) fun i d' u e e2=>?_
  obtain⟨d,e1,hw⟩:=h.get e
  exact hw M s u (hr i d u e1 e2)
theorem Wk.rows {g:Tag} {z:Nat} {l l':List (List D)} (h:gD l l'):Wk (.slice g z l) (.slice g z l'):=by
 intro M s v r
 cases r with
 |iA _ _ cap hc ht=>cases h;exact .iA _ _ _ hc ht
 |lC _ a cap=>cases h;exact .lC _ a cap
 | slice _ _ _ b k cap hl hs h1 h2 ht=>
  rw[h.len]
  refine .slice g z l' b k cap (by rw[← h.len];exact hl) (fun row hm=>?_) (fun i row j d e e2=>?_) (fun i row j d u e e2 eu=>?_) (by rw[← h.len];exact ht)
  ·obtain⟨i,hi,he⟩:=List.mem_iff_getElem.1 hm
   obtain⟨r0,g1,g2⟩:=h.get (i:=i) (by rw[List.getElem?_eq_getElem hi,he])
   rw[← g2.len];exact hs r0 (List.mem_of_getElem? g1)
  ·obtain⟨r0,g1,g2⟩:=h.get e
   obtain⟨d0,g3,_⟩:=g2.get e2
   exact h1 i r0 j d0 g1 g3
  ·obtain⟨r0,g1,g2⟩:=h.get e
   obtain⟨d0,g3,g4⟩:=g2.get e2
   exact g4 M s u (h2 i r0 j d0 u g1 g3 eu)
theorem Wk.shared (g:Tag) (z:Nat) (l:List (List D)):Wk (.slice g z l) (.slice .shared z l):=by
 intro M s v r
 cases r with
 |iA _ _ cap hc ht=>exact .iA _ _ _ hc trivial
 |lC _ a cap=>exact .lC _ a cap
 |slice _ _ _ b k cap hl hs h1 h2 ht=>exact .slice _ _ _ b k cap hl hs h1 h2 trivial
theorem Wk.slice {g:Tag} {z:Nat} {l l':List (List D)} (h:gD l l'):Wk (.slice g z l) (.slice .shared z l'):=(Wk.shared g z l).trans (Wk.rows h)
theorem Wk.nil (g:Tag) (z z':Nat):Wk (.slice g z []) (.slice .shared z' []):=by
 intro M s v r
 cases r with
 |iA _ _ cap hc ht=>exact .iA _ _ _ hc trivial
 |lC _ a cap=>exact .lC _ a cap
 |slice _ _ _ b k cap hl hs h1 h2 ht=>exact .slice _ _ [] b k cap hl (by simp) (by simp) (by simp) trivial
theorem Wk.ajF (z z':Nat):Wk (.slice .full z []) (.slice .full z' []):=by
 intro M s v r
 cases r with
 |iA _ _ cap hc ht=>exact .iA _ _ _ hc ht
 |slice _ _ _ b k cap hl hs h1 h2 ht=>exact .slice _ _ [] b k cap hl (by simp) (by simp) (by simp) ht
theorem Rel.qu {M:Map} {s:St} {w:World} {ah:List (List D)} (r:Rel M s w) (h:gD s.ah ah):Rel M ⟨ah,s.aw⟩ w∧Le M s M ⟨ah,s.aw⟩:=by
 have le:Le M s M ⟨ah,s.aw⟩:=⟨fun _ _ _ h=>h,Nat.le_of_eq h.len,fun _ _=> .refl _,Nat.le_refl _,fun t n' _ e=>⟨n',e,Nat.le_refl _,fun _=>rfl⟩⟩
 have hl:=h.len
 refine⟨⟨r.comm,fun o ds e=>?_,fun o ho=>r.jL o (by rw[hl];exact ho),fun o o' ho nK=>r.inj o o' (by rw[hl];exact ho) (by rw[hl];exact nK),r.tok,
  fun t b c z o hv e ho=>r.fh t b c z o hv e (by rw[hl];exact ho),r.fQ⟩,le⟩
 obtain⟨ds0,g1,g2⟩:=h.get e
 obtain⟨vs,T,h1,h2,h3,h4⟩:=r.obj o ds0 g1
 refine⟨vs,T,h1,by rw[h2,g2.len],h3,fun i d v e1 e2=>?_⟩
 obtain⟨d0,k1,k2⟩:=g2.get e1
 exact(k2 _ _ _ (h4 i d0 v k1 e2)).mono le
theorem Rel.blank {M:Map} {s:St} {w:World} (r:Rel M s w) :
 Rel (M.e7 s.aw.length none) {s with aw:=s.aw++ [some 0]} w∧Le M s (M.e7 s.aw.length none) {s with aw:=s.aw++ [some 0]}:=by
 have iF : ∀ t,St.live {s with aw:=s.aw++ [some 0]} t→s.live t∨t=s.aw.length:=by
  rintro t ⟨k,hk⟩
  rcases Nat.lt_or_ge t s.aw.length with h|h
  ·rw[List.getElem?_append_left h]at hk;exact .inl ⟨k,hk⟩
  ·have:=(List.getElem?_eq_some_iff.1 hk).1
   simp at this;exact .inr (by omega)
 have hD : ∀ t,s.live t→t<s.aw.length:=fun t ⟨k,hk⟩=>(List.getElem?_eq_some_iff.1 hk).1
 have hold : ∀ t,t<s.aw.length→(M.e7 s.aw.length none).be t=M.be t:=fun t h=>by simp[Map.e7];omega
 have dh:(M.e7 s.aw.length none).be s.aw.length=none:=by simp[Map.e7]
 have le:Le M s (M.e7 s.aw.length none) {s with aw:=s.aw++ [some 0]}:=
  ⟨fun _ _ _ h=>h,Nat.le_refl _,fun _ _=> .refl _,by simp,fun t k h e=>by
   rw[List.getElem?_append_left h]at e
   exact⟨k,e,Nat.le_refl _,fun _=>hold t h⟩⟩
 refine⟨⟨r.comm,fun o ds e=>?_,r.jL,r.inj,fun t k e=>?_,fun t b' c z o hl e nK=>?_,fun t t' b' c z c' z' h h' e e'=>?_⟩,le⟩
 ·obtain⟨fF,T',h3,h4,h5,h6⟩:=r.obj o ds e
  exact⟨fF,T',h3,h4,h5,fun i d v e1 e2=>(h6 i d v e1 e2).mono le⟩
 ·rcases Nat.lt_or_ge t s.aw.length with h | h
  ·rw [List.getElem?_append_left h]at e
   rw[hold t h];exact r.tok t k e
  ·have:=(List.getElem?_eq_some_iff.1 e).1
   simp at this
   have:t=s.aw.length:=by omega
   subst this
   simp at e;subst e
   exact .inl ⟨dh,rfl⟩
 ·rcases iF t hl with h | h
  ·rw[hold t (hD t h)]at e;exact r.fh t b' c z o h e nK
  ·subst h;rw[dh]at e;cases e
 ·rcases iF t h with h | h <;> rcases iF t' h' with h' | h'
  ·rw[hold t (hD t h)]at e;rw[hold t' (hD t' h')]at e';exact r.fQ t t' b' c z c' z' h h' e e'
  ·subst h';rw[dh]at e';cases e'
  ·subst h;rw[dh]at e;cases e
  ·omega
theorem RD.own {M:Map} {s:St} {z z':Nat} {v:Value} (h:RD M s (.slice .full z []) v):RD (M.e7 s.aw.length none) {s with aw:=s.aw++ [some 0]} (.slice (.tok s.aw.length) z' []) v:=by
 have key : ∀ base:Option (Nat×Nat),iP (M.e7 s.aw.length none) {s with aw:=s.aw++ [some 0]} (.tok s.aw.length) z' 0 base 0:=by
  intro base
  refine⟨by simp,fun n e=>?_⟩
  simp at e
  subst e
  exact⟨Nat.le_refl _,fun _=> .inl ⟨by simp[Map.e7],rfl,fun h=>by cases h⟩⟩
 cases h with
 |iA _ _ cap hc ht=>subst hc;exact .iA _ _ _ rfl (key none)
 |slice _ _ _ b k cap hl hs h1 h2 ht=>
  have:cap=0:=ht
  subst this
  exact .slice _ _ [] b k 0 (Nat.le_refl _) (by simp) (by simp) (by simp) (key _)
section
variable {P:Program} {B:fU} {nt:Nat} {Q:Exit→Tm→St→Prop} {tm:Tm} {s:St}
theorem Sem.wkO {ac:AC} (ah:List (List D)) (hw:gD s.ah ah) (h:Sem P B nt ac Q tm ⟨ah,s.aw⟩):Sem P B nt ac Q tm s:=by
 intro c hc act w ⟨M,e,r,ht,h1,h2⟩
 obtain⟨r',le⟩:=r.qu hw
 refine h c hc act w ⟨M,e.trans ⟨le,fun _ _ _ _=>rfl,fun o h1 h2=>?_,fun t b c z hl e=> .inl ⟨hl,c,z,e⟩,fun _ _ h=>(h rfl).elim,Nat.le_refl _,rfl,rfl,rfl⟩,r',fun k=>(ht k).mono le,h1,h2⟩
 simp only[← hw.len]at h2
 exact h1.elim (fun h1=>absurd h2 (Nat.not_lt.2 h1)) fun h1=>(h1 rfl).elim
theorem Gz {M0 M:Map} {s0 s:St} {w0 w:World} (e:Ext M0 s0 w0 M s w) (le:Le M s (M.e7 s.aw.length none) {s with aw:=s.aw++ [some 0]}) :
 Ext M0 s0 w0 (M.e7 s.aw.length none) {s with aw:=s.aw++ [some 0]} w:=by
 refine e.trans ⟨le,fun _ _ _ _=>rfl,fun o h1 h2=>h1.elim (fun h1=>absurd h2 (Nat.not_lt.2 h1)) (fun h1=>(h1 rfl).elim),fun t b c z hl eq=>?_,fun _ _ h=>(h rfl).elim,Nat.le_refl _,rfl,rfl,rfl⟩
 obtain⟨k,hk⟩:=hl
 rcases Nat.lt_or_ge t s.aw.length with h|h
 ·refine .inl ⟨⟨k,by rw [List.getElem?_append_left h]at hk;exact hk⟩,c,z, ?_⟩
  have:(M.e7 s.aw.length none).be t=M.be t:=by simp[Map.e7];omega
  rw[← this];exact eq
 ·have:=(List.getElem?_eq_some_iff.1 hk).1
  simp at this
  have:t=s.aw.length:=by omega
  subst this
  simp[Map.e7]at eq
end
def aF (P:Program) (f:Nat) (args:List D) (s:St) (d:D) (s':St):Prop:=bM P f args s fun x y=>x=d∧y=s'
def pR (n m:Nat) (res:List (Nat×Option (Bool×Nat))) (d:D) (s':St):Exit→Tm→St→Prop
 | .normal,tm,s| .ret,tm,s=>∃ l,aV res tm s=some l∧Wk ((aX l).fg n m) d∧gD (s.cut n m).ah s'.ah∧(s.cut n m).aw=s'.aw
 |_,_,_=>False
theorem bM.qu {P:Program} {f:FuncId} {args Ei:List D} {s:St} {Q:D→St→Prop} (ha:jr args Ei) (h:bM P f Ei s Q):bM P f args s Q:=
 fun M w fJ r kx hl hr=>h M w fJ r kx (by rw[hl,ha.len]) fun i d v e1 e2=>by
  obtain⟨d0,g1,g2⟩:=ha.get e1
  exact g2 _ _ _ (hr i d0 v g1 e2)
theorem bM.H4 {P:Program} {f:FuncId} {args:List D} {s:St} {Q Q':D→St→Prop} (h:bM P f args s Q) (hq : ∀ d s1,Q d s1→∃ d' s',Wk d d'∧gD s1.ah s'.ah∧s1.aw=s'.aw∧Q' d' s'):bM P f args s Q':=
 fun M w fJ r kx hl ha=>(h M w fJ r kx hl ha).mono fun _ _ ⟨M',d,v,s1,h1,h2,h3,h4,h5⟩=>by
  obtain⟨d',s',g1,g2,g3,g4⟩:=hq d s1 h2
  obtain⟨r',le⟩:=h4.qu g2
  have hs:(⟨s'.ah,s1.aw⟩:St)=s':=by rw[g3]
  rw[hs]at r' le
  refine⟨M',d',v,s',h1,g4,h3.trans ⟨le,fun _ _ _ _=>rfl,fun o h1 h2=>?_,fun t b c z hl e=> .inl ⟨by obtain⟨n,hn⟩:=hl;exact⟨n,by rw[g3];exact hn⟩,c,z,e⟩,fun _ _ h=>(h rfl).elim,Nat.le_refl _,rfl,rfl,rfl⟩,r',(g1 _ _ _ h5).mono le⟩
  rw[← g2.len]at h2
  exact h1.elim (fun h1=>absurd h2 (Nat.not_lt.2 h1)) fun h1=>(h1 rfl).elim
theorem aF.intro {P:Program} {f:FuncId} {af:AF} {args:List D} {s:St} {d:D} {s':St} (h0 : ∃ fn,P.funcs[f]? = some fn∧cF P fn=some af) (hl:args.length≤af.ntmps)
 (h : ∀ B:fU,B.s=s→Sem P B af.ntmps af.body (pR s.ah.length s.aw.length af.results d s') (mS 0 args) s):aF P f args s d s':=by
 obtain⟨fn,hf,hc⟩:=h0
 refine bM.H4 (bM.intro (Q:=fun d1 s1=>Wk d1 d∧gD s1.ah s'.ah∧s1.aw=s'.aw) hf hc hl fun B hB=>(h B hB).mono fun e tm s1 hr=>?_) fun d1 s1 ⟨h1,h2,h3⟩=>⟨d,s',h1,h2,h3,rfl,rfl⟩
 subst hB
 cases e with
 |normal=>obtain⟨l,h1,h2,h3,h4⟩:=hr;exact⟨l,h1,_,_,Nat.le_refl _,Nat.le_refl _,h2,h3,h4⟩
 |ret=>obtain⟨l,h1,h2,h3,h4⟩:=hr;exact⟨l,h1,_,_,Nat.le_refl _,Nat.le_refl _,h2,h3,h4⟩
 |exit id=>exact hr.elim
 |goto l=>exact hr.elim
 |panic ch=>exact hr.elim
 |outgrown=>exact hr.elim
theorem aF.use {P:Program} {f:FuncId} {args:List D} {s:St} {d:D} {s':St} {Q:D→St→Prop} (h:aF P f args s d s') (hq:Q d s'):bM P f args s Q:=
 bM.mono h fun x y ⟨h1,h2⟩=>by subst h1;subst h2;exact hq
mutual
theorem qv (os ts:List Nat) : ∀ d,D.ok 0 0 d=true→D.cW os ts d=d
 | .junk,_=>by simp[D.cW]
 | .int k n,_=>by simp[D.cW]
 | .bool b,_=>by simp[D.cW]
 | .str l,_=>by simp[D.cW]
 | .dR,_=>by simp[D.cW]
 | .val v,_=>by simp[D.cW]
 | .fq T o,h=>by simp[D.ok]at h
 | .fP o,h=>by simp[D.ok]at h
 | .eB z o g len,h=>by simp[D.ok]at h
 | .fu o g off,h=>by simp[D.ok]at h
 | .ew z,_=>by simp[D.cW]
 | .gd f cs,h=>by
  simp only[D.ok]at h
  simp only[D.cW,fC os ts cs h]
 | .ptr o f,h=>by simp[D.ok]at h
 | .dA r f,h=>by
  simp only[D.ok]at h
  simp only[D.cW,fC os ts r h]
 | .slice g z rows,h=>by
  simp only[D.ok,Bool.and_eq_true]at h
  simp only[D.cW,jl os ts rows h.2]
  cases g with
  |tok t y=>simp[Tag.ok]at h
  |full=>rfl
  |shared=>rfl
 | .agg cs,h=>by
  simp only[D.ok]at h
  simp only[D.cW,fC os ts cs h]
 | .tuple cs,h=>by
  simp only[D.ok]at h
  simp only[D.cW,fC os ts cs h]
theorem fC (os ts:List Nat) : ∀ l,D.bL 0 0 l=true→D.e9 os ts l=l
 | [],_=>by simp[D.e9]
 |d::r,h=>by
  simp only[D.bL,Bool.and_eq_true]at h
  simp only[D.e9,qv os ts d h.1,fC os ts r h.2]
theorem jl (os ts:List Nat) : ∀ l,D.gS 0 0 l=true→D.nT os ts l=l
 | [],_=>by simp[D.nT]
 |d::r,h=>by
  simp only[D.gS,Bool.and_eq_true]at h
  simp only[D.nT,fC os ts d h.1,jl os ts r h.2]
end
mutual
theorem FE {n m n' m':Nat} (hn:n≤n') (hm:m≤m') : ∀ d,D.ok n m d=true→D.ok n' m' d=true
 | .junk,_=>rfl
 | .int k n,_=>rfl
 | .bool b,_=>rfl
 | .str l,_=>rfl
 | .dR,_=>rfl
 | .val v,_=>rfl
 | .fq T o,h=>by simp[D.ok]at h ⊢;omega
 | .fP o,h=>by simp[D.ok]at h ⊢;omega
 | .eB z o g len,h=>by simp[D.ok]at h ⊢;omega
 | .fu o g off,h=>by simp[D.ok]at h ⊢;omega
 | .ew z,_=>rfl
 | .gd f cs,h=>by
  simp only[D.ok]at h ⊢
  exact iB hn hm cs h
 | .ptr o f,h=>by simp only[D.ok,decide_eq_true_eq]at h ⊢;omega
 | .dA r f,h=>by
  simp only[D.ok]at h ⊢
  exact iB hn hm r h
 | .slice g z rows,h=>by
  simp only[D.ok,Bool.and_eq_true]at h ⊢
  refine⟨?_,mD hn hm rows h.2⟩
  cases g with
  |tok t y=>simp only[Tag.ok,decide_eq_true_eq]at h ⊢;omega
  |full=>rfl
  |shared=>rfl
 | .agg cs,h=>by
  simp only[D.ok]at h ⊢
  exact iB hn hm cs h
 | .tuple cs,h=>by
  simp only[D.ok]at h ⊢
  exact iB hn hm cs h
theorem iB {n m n' m':Nat} (hn:n≤n') (hm:m≤m') : ∀ l,D.bL n m l=true→D.bL n' m' l=true
 | [],_=>rfl
 |d::r,h=>by
  simp only[D.bL,Bool.and_eq_true]at h ⊢
  exact⟨FE hn hm d h.1,iB hn hm r h.2⟩
theorem mD {n m n' m':Nat} (hn:n≤n') (hm:m≤m') : ∀ l,D.gS n m l=true→D.gS n' m' l=true
 | [],_=>rfl
 |d::r,h=>by
  simp only[D.gS,Bool.and_eq_true]at h ⊢
  exact⟨iB hn hm d h.1,mD hn hm r h.2⟩
end
def S0:St:=⟨[],[]⟩
section
variable {P:Program} {f:Nat}
theorem aF.pure {args:List D} {d:D} (h:aF P f args S0 d S0) (ha:D.bL 0 0 args=true) (hd:D.ok 0 0 d=true) (s:St):aF P f args s d s:=by
 refine bM.frame [] [] h List.nodup_nil List.nodup_nil (by simp) (by simp) rfl (by simp) rfl (by simp) (by rw[fC _ _ _ ha]) ha ?_
 rintro _ _ ⟨rfl,rfl⟩
 refine⟨qv _ _ _ hd, ?_⟩
 simp[St.back,kC,S0]
theorem aF.TL {args row ko:List D} {d:D} (h:aF P f (.ptr 0 0::args) ⟨[row],[]⟩ d ⟨[ko],[]⟩) (ha:D.bL 0 0 args=true) (hr:D.bL 0 0 row=true) (Qp:D.bL 0 0 ko=true) (hd:D.ok 0 0 d=true)
 {s:St} {o:Nat} (ho:s.ah[o]? = some row):aF P f (.ptr o 0::args) s d ⟨s.ah.set o ko,s.aw⟩:=by
 refine bM.frame [o] [] h (by simp) List.nodup_nil (by simpa using (List.getElem?_eq_some_iff.1 ho).1) (by simp) rfl (fun i o' ds e1 e2=>?_) rfl (by simp) (by simp[D.e9,D.cW,fC _ _ _ ha])
  (by simp[D.bL,D.ok,iB (Nat.zero_le 1) (Nat.le_refl 0) _ ha]) ?_
 ·cases i with
  |zero=>simp at e1 e2;subst e1;subst e2;exact⟨by rw[fC _ _ _ hr];exact ho,iB (Nat.zero_le 1) (Nat.le_refl 0) _ hr⟩
  |succ i=>simp at e1
 ·rintro _ _ ⟨rfl,rfl⟩
  refine⟨qv _ _ _ hd, ?_⟩
  simp[St.back,kC,fC _ _ _ Qp]
end
end Go.Abs
namespace Go.Abs
theorem X.bZ {x:X} {tm bx:Tm} (h : ∀ t∈x.reads,tm.get t=bx.get t):x.ev tm=x.ev bx:=by
 cases x with
 |s t=>exact h t (by simp[X.reads])
 |k d=>rfl
theorem rf {t:Nat} {x:X} : ∀ {l:List X},x∈l→t∈x.reads→t∈n8 l
 | [],h,_=>by cases h
 |y::r,h,ht=>by
  simp only[n8,List.mem_append]
  rcases List.mem_cons.1 h with rfl|h
  ·exact .inl ht
  ·exact .inr (rf h ht)
theorem wy {x:Option X} {tm bx:Tm} (h : ∀ t∈AT x,tm.get t=bx.get t):x.map (·.ev tm)=x.map (·.ev bx):=by
 cases x with
 |none=>rfl
 |some y=>simp only[Option.map_some];rw[X.bZ h]
theorem CY {o:AO} {tm bx:Tm} {s:St} (h : ∀ t∈o.reads,tm.get t=bx.get t):aJ o tm s=aJ o bx s:=by
 cases o with
 |mv x=>
  have hx:x.ev tm=x.ev bx:=X.bZ fun t ht=>h t (by simp[AO.reads,ht])
  simp only[aJ,hx]
 |pick c a b=>
  have hc:c.ev tm=c.ev bx:=X.bZ fun t ht=>h t (by simp[AO.reads,ht])
  have ha:a.ev tm=a.ev bx:=X.bZ fun t ht=>h t (by simp[AO.reads,ht])
  have hb:b.ev tm=b.ev bx:=X.bZ fun t ht=>h t (by simp[AO.reads,ht])
  simp only[aJ,hc,ha,hb]
 |alloc z=>
  rfl
 |sV z T=>rfl
 |AQ x T=>
  have hx:x.ev tm=x.ev bx:=X.bZ fun t ht=>h t (by simp[AO.reads,ht])
  simp only[aJ,hx]
 |AR x y=>
  have hx:x.ev tm=x.ev bx:=X.bZ fun t ht=>h t (by simp[AO.reads,ht])
  have hy:y.ev tm=y.ev bx:=X.bZ fun t ht=>h t (by simp[AO.reads,ht])
  simp only[aJ,hx,hy]
 |apps x y=>
  have hx:x.ev tm=x.ev bx:=X.bZ fun t ht=>h t (by simp[AO.reads,ht])
  have hy:y.ev tm=y.ev bx:=X.bZ fun t ht=>h t (by simp[AO.reads,ht])
  simp only[aJ,hx,hy]
 |box x=>
  have hx:x.ev tm=x.ev bx:=X.bZ fun t ht=>h t (by simp[AO.reads,ht])
  simp only[aJ,hx]
 |AN x=>
  have hx:x.ev tm=x.ev bx:=X.bZ fun t ht=>h t (by simp[AO.reads,ht])
  simp only[aJ,hx]
 |load x g n=>
  have hx:x.ev tm=x.ev bx:=X.bZ fun t ht=>h t (by simp[AO.reads,ht])
  simp only[aJ,hx]
 |store p x n=>
  have hp:p.ev tm=p.ev bx:=X.bZ fun t ht=>h t (by simp[AO.reads,ht])
  have hx:x.ev tm=x.ev bx:=X.bZ fun t ht=>h t (by simp[AO.reads,ht])
  simp only[aJ,hp,hx]
 |bW x=>
  have hx:x.ev tm=x.ev bx:=X.bZ fun t ht=>h t (by simp[AO.reads,ht])
  simp only[aJ,hx]
 |bin op x y=>
  have hx:x.ev tm=x.ev bx:=X.bZ fun t ht=>h t (by simp[AO.reads,ht])
  have hy:y.ev tm=y.ev bx:=X.bZ fun t ht=>h t (by simp[AO.reads,ht])
  simp only[aJ,hx,hy]
 |Gk n x y=>
  have hx:x.ev tm=x.ev bx:=X.bZ fun t ht=>h t (by simp[AO.reads,ht])
  have hy:y.ev tm=y.ev bx:=X.bZ fun t ht=>h t (by simp[AO.reads,ht])
  simp only[aJ,hx,hy]
 |eqs n ks x y=>
  have hx:x.ev tm=x.ev bx:=X.bZ fun t ht=>h t (by simp[AO.reads,ht])
  have hy:y.ev tm=y.ev bx:=X.bZ fun t ht=>h t (by simp[AO.reads,ht])
  simp only[aJ,hx,hy]
 |Gl n x y=>
  have hx:x.ev tm=x.ev bx:=X.bZ fun t ht=>h t (by simp[AO.reads,ht])
  have hy:y.ev tm=y.ev bx:=X.bZ fun t ht=>h t (by simp[AO.reads,ht])
  simp only[aJ,hx,hy]
 |un op x=>
  have hx:x.ev tm=x.ev bx:=X.bZ fun t ht=>h t (by simp[AO.reads,ht])
  simp only[aJ,hx]
 |conv k x=>
  have hx:x.ev tm=x.ev bx:=X.bZ fun t ht=>h t (by simp[AO.reads,ht])
  simp only[aJ,hx]
 |DZ x=>
  have hx:x.ev tm=x.ev bx:=X.bZ fun t ht=>h t (by simp[AO.reads,ht])
  simp only[aJ,hx]
 |xP x=>
  have hx:x.ev tm=x.ev bx:=X.bZ fun t ht=>h t (by simp[AO.reads,ht])
  simp only[aJ,hx]
 |aq x n=>
  have hx:x.ev tm=x.ev bx:=X.bZ fun t ht=>h t (by simp[AO.reads,ht])
  simp only[aJ,hx]
 |CM x n g m=>
  have hx:x.ev tm=x.ev bx:=X.bZ fun t ht=>h t (by simp[AO.reads,ht])
  simp only[aJ,hx]
 |cf x i n=>
  have hx:x.ev tm=x.ev bx:=X.bZ fun t ht=>h t (by simp[AO.reads,ht])
  have hi:i.ev tm=i.ev bx:=X.bZ fun t ht=>h t (by simp[AO.reads,ht])
  simp only[aJ,hx,hi]
 |AP x i=>
  have hx:x.ev tm=x.ev bx:=X.bZ fun t ht=>h t (by simp[AO.reads,ht])
  have hi:i.ev tm=i.ev bx:=X.bZ fun t ht=>h t (by simp[AO.reads,ht])
  simp only[aJ,hx,hi]
 |ext x i=>
  have hx:x.ev tm=x.ev bx:=X.bZ fun t ht=>h t (by simp[AO.reads,ht])
  simp only[aJ,hx]
 |len x=>
  have hx:x.ev tm=x.ev bx:=X.bZ fun t ht=>h t (by simp[AO.reads,ht])
  simp only[aJ,hx]
 |va x=>
  have hx:x.ev tm=x.ev bx:=X.bZ fun t ht=>h t (by simp[AO.reads,ht])
  simp only[aJ,hx]
 |app a b x y=>
  have hx:x.ev tm=x.ev bx:=X.bZ fun t ht=>h t (by simp[AO.reads,ht])
  have hy:y.ev tm=y.ev bx:=X.bZ fun t ht=>h t (by simp[AO.reads,ht])
  simp only[aJ,hx,hy]
 |mm b x y=>
  have hx:x.ev tm=x.ev bx:=X.bZ fun t ht=>h t (by simp[AO.reads,ht])
  have hy:y.ev tm=y.ev bx:=X.bZ fun t ht=>h t (by simp[AO.reads,ht])
  simp only[aJ,hx,hy]
 | build z ps=>
  have hp:(ps.map fun p=>(p.1,p.2.1,p.2.2.ev tm))=ps.map fun p=>(p.1,p.2.1,p.2.2.ev bx):=List.map_congr_left fun p hp=>by
   have:p.2.2.ev tm=p.2.2.ev bx:=X.bZ fun t ht=>h t (by simp only[AO.reads];exact rf (List.mem_map_of_mem hp) ht)
   rw[this]
  simp only[aJ,hp]
 | du z m n ps=>
  have hp:(ps.map fun p=>(p.1,p.2.ev tm))=ps.map fun p=>(p.1,p.2.ev bx):=List.map_congr_left fun p hp=>by
   have:p.2.ev tm=p.2.ev bx:=X.bZ fun t ht=>h t (by simp only[AO.reads];exact rf (List.mem_map_of_mem hp) ht)
   rw[this]
  simp only[aJ,hp]
 | u9 z m n ps=>
  have hp:(ps.map fun p=>(p.1,p.2.ev tm))=ps.map fun p=>(p.1,p.2.ev bx):=List.map_congr_left fun p hp=>by
   have:p.2.ev tm=p.2.ev bx:=X.bZ fun t ht=>h t (by simp only[AO.reads];exact rf (List.mem_map_of_mem hp) ht)
   rw[this]
  simp only[aJ,hp]
 |CK n x lo hi=>
  have hx:x.ev tm=x.ev bx:=X.bZ fun t ht=>h t (by simp[AO.reads,ht])
  have hl:lo.map (·.ev tm)=lo.map (·.ev bx):=wy fun t ht=>h t (by simp[AO.reads,ht])
  have hh:hi.map (·.ev tm)=hi.map (·.ev bx):=wy fun t ht=>h t (by simp[AO.reads,ht])
  simp only[aJ,hx,hl,hh]
 |Ik x lo hi=>
  have hx:x.ev tm=x.ev bx:=X.bZ fun t ht=>h t (by simp[AO.reads,ht])
  have hl:lo.map (·.ev tm)=lo.map (·.ev bx):=wy fun t ht=>h t (by simp[AO.reads,ht])
  have hh:hi.map (·.ev tm)=hi.map (·.ev bx):=wy fun t ht=>h t (by simp[AO.reads,ht])
  simp only[aJ,hx,hl,hh]
 |uK f xs=>
  have hp:(xs.map fun x=>x.ev tm)=xs.map fun x=>x.ev bx:=List.map_congr_left fun x hx=>X.bZ fun t ht=>h t (by simp only[AO.reads];exact rf hx ht)
  simp only[aJ,hp]
 |uL=>rfl
 |yN m k v=>
  have hm:m.ev tm=m.ev bx:=X.bZ fun t ht=>h t (by simp[AO.reads,ht])
  have hk:k.ev tm=k.ev bx:=X.bZ fun t ht=>h t (by simp[AO.reads,ht])
  have hv:v.ev tm=v.ev bx:=X.bZ fun t ht=>h t (by simp[AO.reads,ht])
  simp only[aJ,hm,hk,hv]
 |AS a b z l c=>
  have hl:l.ev tm=l.ev bx:=X.bZ fun t ht=>h t (by simp[AO.reads,ht])
  have hk:c.ev tm=c.ev bx:=X.bZ fun t ht=>h t (by simp[AO.reads,ht])
  simp only[aJ,hl,hk]
 |qP o x y=>
  have hx:x.ev tm=x.ev bx:=X.bZ fun t ht=>h t (by simp[AO.reads,ht])
  have hy:y.ev tm=y.ev bx:=X.bZ fun t ht=>h t (by simp[AO.reads,ht])
  simp only[aJ,hx,hy]
 |wh m k z=>
  have hm:m.ev tm=m.ev bx:=X.bZ fun t ht=>h t (by simp[AO.reads,ht])
  have hk:k.ev tm=k.ev bx:=X.bZ fun t ht=>h t (by simp[AO.reads,ht])
  simp only[aJ,hm,hk]
theorem KT {x d:D} {agg:Bool} {size:Nat} {s s':St} (h:yP x agg size s=some (d,s')):s'=s:=by
 unfold yP at h
 (repeat' (split at h))<;>first|(cases h;rfl)|cases h
theorem KU {o:AO} (ho:gI o.kind=false) {tm:Tm} {s s':St} {d:D} (h:aJ o tm s=some (d,s')):s'=s:=by
 cases o<;>simp only[AO.kind,gI]at ho<;>first|cases ho|skip
 all_goals
  simp only[aJ]at h
  first
   |(cases h;rfl)
   |(repeat' (split at h))<;>first|exact KT h|(cases h;rfl)|cases h
theorem Nq {o:AO} (ho:o.kind = .pure) {tm:Tm} {s s':St} : (aJ o tm s).map (·.1)=(aJ o tm s').map (·.1):=by
 cases o<;>simp only[AO.kind]at ho<;>first|cases ho|skip
 all_goals
  simp only[aJ]
  first
   |rfl
   |(repeat' split)<;>rfl
def jT (ai:AI) (tm:Tm) (s:St):Option D:=
 match ai with
 | .op _ none o=>(aJ o tm s).map (·.1)
 | .op _ (some (t,want)) o=>
  match tm.get t with
  | .bool b=>if b=want then(aJ o tm s).map (·.1)else some (.tuple [])
  | .tuple _=>some (.tuple [])
  |_=>none
 |_=>none
def sH (P:Program) (ai:AI) (tm:Tm) (s:St) (d:D) (s':St):Prop:=
 match ai with
 | .op _ g o=>guarded g tm (aJ o tm s=some (d,s')) (d = .tuple []∧s'=s)
 | .call _ g f xs=>guarded g tm (bM P f (xs.map (·.ev tm)) s fun x y=>x=d∧y=s') (d = .tuple []∧s'=s)
 | .nil .. =>False
 | .jt .. =>False
def kQ (P:Program) (is:List AI) (K:Tm→St→Prop):List (Nat×Nat)→List St→Tm→St→Prop
 | [],_,tm,s=>K tm s
 | (q,b)::r,bG,tm,s=>
  match is[q]? with
  |none=>False
  |some ai=>
   match gI ai.kind with
   |true=>∃ d s',sH P ai tm s d s'∧kQ P is K r (s::bG) (tm.put ai.dst d) s'
   |false=>∃ d,jT ai tm s=some d∧(ai.kind = .load→∀ s'∈bG.take b,jT ai tm s'=some d)∧kQ P is K r bG (tm.put ai.dst d) s
def Tm.eqv (a b:Tm):Prop:=∀ t,a.get t=b.get t
theorem Tm.lz (tm:Tm) (dst:Option Nat) (d:D) (t:Nat):(tm.put dst d).get t=if dst=some t then d else tm.get t:=by
 cases dst with
 |none=>simp[Tm.put]
 |some u=>
  simp only[Tm.put,Tm.Fy,Option.some.injEq]
  by_cases h:t=u
  ·subst h;simp
  ·rw[if_neg h,if_neg (fun e=>h e.symm)]
theorem Tm.eqv.put {a b:Tm} (h:a.eqv b) (dst:Option Nat) (d:D):(a.put dst d).eqv (b.put dst d):=fun t=>by
 rw[Tm.lz,Tm.lz,h t]
theorem Tm.IX (tm:Tm) {x y:Option Nat} (h : ∀ t,x=some t→y≠some t) (d e:D):((tm.put x d).put y e).eqv ((tm.put y e).put x d):=fun t=>by
 simp only[Tm.lz]
 by_cases h1:x=some t
 ·simp only[h1,h t h1,if_true,if_false]
 ·simp only[h1,if_false]
theorem Ak {g:Option (Nat×Bool)} {tm bx:Tm} {A A' C:Prop} (h : ∀ t∈vb g,tm.get t=bx.get t) (ha:A→A') (hh:guarded g tm A C):guarded g bx A' C:=by
 cases g with
 |none=>exact ha hh
 | some p=>
  obtain⟨t,want⟩:=p
  unfold guarded at *
  simp only at *
  rw[← h t (by simp[vb])]
  split
  ·rename_i b hb
   rw[hb]at hh
   exact⟨fun e=>ha (hh.1 e),hh.2⟩
  ·rename_i hb
   rw[hb]at hh
   exact hh
  ·rename_i x h1 h2
   split at hh
   ·exact h1 _ ‹_›
   ·exact h2 _ ‹_›
   ·exact hh
theorem GC {tm bx:Tm} : ∀ {l:List X},(∀ t∈n8 l,tm.get t=bx.get t)→l.map (·.ev tm)=l.map (·.ev bx)
 | [],_=>rfl
 |x::r,h=>by
  simp only[List.map_cons]
  rw[X.bZ fun t ht=>h t (by simp[n8,ht]),GC (l:=r) fun t ht=>h t (by simp[n8,ht])]
theorem xl {P:Program} {ai:AI} {tm bx:Tm} {s s':St} {d:D} (h : ∀ t∈ai.reads,tm.get t=bx.get t) (hh:sH P ai tm s d s'):sH P ai bx s d s':=by
 cases ai with
 |op dst g o=>
  simp only[AI.reads,List.mem_append]at h
  exact Ak (fun t ht=>h t (.inl ht)) (fun e=>by rw[← CY fun t ht=>h t (.inr ht)];exact e) hh
 |call dst g f xs=>
  simp only[AI.reads,List.mem_append]at h
  exact Ak (fun t ht=>h t (.inl ht)) (fun e=>by rw[← GC fun t ht=>h t (.inr ht)];exact e) hh
 |nil dst g n x=>exact hh
 |jt dst g t xs=>exact hh
theorem qK {ai:AI} {tm bx:Tm} {s:St} (h : ∀ t∈ai.reads,tm.get t=bx.get t):jT ai tm s=jT ai bx s:=by
 cases ai with
 | op dst g o=>
  simp only[AI.reads,List.mem_append]at h
  have he:=CY (s:=s) fun t ht=>h t (.inr ht)
  cases g with
  |none=>simp only[jT,he]
  |some p=>
   obtain⟨t,want⟩:=p
   simp only[jT,he,h t (.inl (by simp[vb]))]
 |call dst g f xs=>rfl
 |nil dst g n x=>rfl
 |jt dst g t xs=>rfl
theorem LJ {dst:Option Nat} {g:Option (Nat×Bool)} {o:AO} (h:gI (AI.op dst g o).kind=false):(AI.op dst g o).kind=o.kind:=by
 unfold AI.kind at *
 split at h
 ·cases h
 ·rename_i heq;cases heq;rfl
 ·cases h
theorem TN {ai:AI} (hk:ai.kind = .pure) {tm:Tm} {s s':St} : jT ai tm s=jT ai tm s':=by
 cases ai with
 |op dst g o=>
  have ho:o.kind = .pure:=by rw[← hk];exact(LJ (by rw[hk];rfl)).symm
  have he:=Nq ho (tm:=tm) (s:=s) (s':=s')
  cases g with
  |none=>simp only[jT,he]
  |some p=>simp only[jT,he]
 |call dst g f xs=>rfl
 |nil dst g n x=>rfl
 |jt dst g t xs=>rfl
theorem apart_spec {a q:AI} (h:a.apart q=true):(∀ t,a.dst=some t→t∉q.reads)∧(∀ t,q.dst=some t→t∉a.reads)∧(∀ t,a.dst=some t→q.dst≠some t):=by
 unfold AI.apart at h
 simp only[Bool.and_eq_true]at h
 obtain⟨⟨h1,h2⟩,h3⟩:=h
 refine⟨fun t e=>?_,fun t e=>?_,fun t e e'=>?_⟩
 ·rw[e]at h1;simpa[D1]using h1
 ·rw[e]at h2;simpa[D1]using h2
 ·rw[e,e']at h3;simp at h3
theorem sI {tm:Tm} {dst:Option Nat} {d:D} {l:List Nat} (h : ∀ t,dst=some t→t∉l) : ∀ t∈l,tm.get t=(tm.put dst d).get t:=fun t ht=>by
 rw[Tm.lz,if_neg fun e=>h t e ht]
section
variable {P:Program} {is:List AI} {K:Tm→St→Prop}
theorem sJ (hK : ∀ tm bx s,Tm.eqv tm bx→K tm s→K bx s) : ∀ (R:List (Nat×Nat)) (bG:List St) (tm bx:Tm) (s:St),tm.eqv bx→kQ P is K R bG tm s→kQ P is K R bG bx s
 | [],_,tm,bx,s,e,h=>hK tm bx s e h
 | (q,b)::R,bG,tm,bx,s,e,h=>by
  unfold kQ at *
  split at h
  ·exact h.elim
  ·rename_i ai wx
   split at h
   ·rename_i hc
    obtain⟨d,s',h1,h2⟩:=h
    exact⟨d,s',xl (fun t _=>e t) h1,sJ hK R _ _ _ _ (e.put _ d) h2⟩
   ·rename_i hc
    obtain⟨d,h1,h2,h3⟩:=h
    refine⟨d, ?_,fun hl s' na=>?_,sJ hK R _ _ _ _ (e.put _ d) h3⟩
    ·rw[← qK fun t _=>e t];exact h1
    ·rw[← qK fun t _=>e t];exact h2 hl s' na
theorem IY (i:Nat) (l:List Nat):jG is (i::l)=(if gI (ju is i)then 1 else 0)+jG is l:=by
 unfold jG
 rw[List.filter_cons]
 split<;>simp<;>omega
theorem xm (hK : ∀ tm bx s,Tm.eqv tm bx→K tm s→K bx s) {q b:Nat} {ai:AI} (hq:is[q]? = some ai) (hm:gI ai.kind=false) (Y:List (Nat×Nat)) :
 ∀ (X:List (Nat×Nat)) (bG:List St) (tm:Tm) (s:St),(∀ a∈X,ln is a.1 q=true)→(ai.kind = .load→jG is (X.map (·.1))≤b)→
  kQ P is K (X++(q,b)::Y) bG tm s→
  ∃ d,jT ai tm s=some d∧(ai.kind = .load→∀ s'∈bG.take (b - jG is (X.map (·.1))),jT ai tm s'=some d)∧kQ P is K (X++Y) bG (tm.put ai.dst d) s
 | [],bG,tm,s,_,_,h=>by
  simp only[List.nil_append,kQ,hq,hm]at h
  obtain⟨d,h1,h2,h3⟩:=h
  exact⟨d,h1,fun hl s' na=>h2 hl s' (by simpa[jG]using na),h3⟩
 | (a,c)::X,bG,tm,s,eQ,hb,h=>by
  have Nr:=eQ (a,c) (by simp)
  unfold ln at Nr
  split at Nr
  ·rename_i ia iq hia uB
   rw[hq]at uB
   cases uB
   obtain⟨p1,p2,p3⟩:=apart_spec Nr
   have Qy:ju is a=ia.kind:=by simp[ju,hia]
   have H2 : ∀ x∈X,ln is x.1 q=true:=fun x hx=>eQ x (List.mem_cons_of_mem _ hx)
   rw[List.map_cons,IY,Qy]at hb ⊢
   simp only[List.cons_append,kQ,hia]at h ⊢
   cases hc:gI ia.kind
   ·simp only [hc,Bool.false_eq_true,if_false,Nat.zero_add]at h hb ⊢
    obtain⟨d,h1,h2,h3⟩:=h
    obtain⟨e,g1,g2,g3⟩:=xm hK hq hm Y X bG _ s H2 hb h3
    have cg : ∀ s,jT ai tm s=jT ai (tm.put ia.dst d) s:=fun s=>qK (sI p1)
    have cg' : ∀ s,jT ia tm s=jT ia (tm.put ai.dst e) s:=fun s=>qK (sI p2)
    refine⟨e,by rw[cg];exact g1,fun hl s' na=>by rw[cg];exact g2 hl s' na,d,by rw[← cg'];exact h1,fun hl s' na=>by rw[← cg'];exact h2 hl s' na, ?_⟩
    exact sJ hK _ _ _ _ _ (Tm.IX tm p3 d e) g3
   ·simp only [hc,if_true]at h hb ⊢
    obtain⟨d,s1,h1,h3⟩:=h
    obtain⟨e,g1,g2,g3⟩:=xm hK hq hm Y X (s::bG) _ s1 H2 (fun hl=>by have:=hb hl;omega) h3
    have cg : ∀ s,jT ai tm s=jT ai (tm.put ia.dst d) s:=fun s=>qK (sI p1)
    have qi:jT ai tm s=some e:=by
     cases hk:ai.kind with
     |pure=>rw[cg,TN hk (s':=s1)];exact g1
     |load=>
      have:=hb hk
      rw[cg]
      refine g2 hk s ?_
      rw[show b - jG is (X.map (·.1))=(b - (1+jG is (X.map (·.1))))+1 by omega,List.take_succ_cons]
      exact List.mem_cons_self
     |alloc=>rw[hk]at hm;cases hm
     |core=>rw[hk]at hm;cases hm
    refine⟨e,qi,fun hl s' na=>?_,d,s1,xl (sI p2) h1,sJ hK _ _ _ _ _ (Tm.IX tm p3 d e) g3⟩
    have:=hb hl
    rw[cg]
    refine g2 hl s' ?_
    rw[show b - jG is (X.map (·.1))=(b - (1+jG is (X.map (·.1))))+1 by omega,List.take_succ_cons]
    exact List.mem_cons_of_mem _ na
  ·cases Nr
end
end Go.Abs
namespace Go.Abs
section
variable {P:Program}
theorem QM {o:Oper} {z:List D} (h:D3 P o=some (.alloc z)) : ∃ t,o.op = .alloc t∧zeroOf P t=some z:=by
 obtain⟨dst,op,type,pos,after,guard⟩:=o
 unfold D3 at h
 simp only at h
 split at h
 case h_4 t=>
  split at h
  ·obtain⟨z',h1,h2⟩:=map_some h;cases h2
  ·obtain⟨z',h1,h2⟩:=map_some h;cases h2;exact⟨t,rfl,h1⟩
 all_goals
  first
   |(rw[Option.map_eq_some_iff]at h;obtain⟨_,_,h⟩:=h;cases h)
   |skip
 all_goals
  (repeat' (split at h))<;>first|(cases h;done)|(rw[Option.map_eq_some_iff]at h;obtain⟨_,_,h⟩:=h;cases h)
theorem Bi {nt:Nat} {ops:Array Oper} {o:Oper} {ai:AI} (h:cI P nt ops o=some ai) :
 ∃ g,ve ops o.guard=some g∧(∀ t,o.dst=some t→t<nt)∧sC P ops o g=some ai:=by
 have h2:=yc h
 unfold cI at h
 split at h
 ·cases h
 ·rename_i g hg
  split at h
  ·exact⟨g,hg,h2,h⟩
  ·cases h
theorem ta {ops:Array Oper} {o:Oper} {g:Option (Nat×Bool)} {ai:AI} (h:sC P ops o g=some ai):ai.dst=o.dst:=by
 unfold sC at h
 split at h
 ·split at h
  ·obtain⟨xs,_,rfl⟩:=map_some h;rfl
  ·cases h
 ·obtain⟨xs,_,rfl⟩:=map_some h;rfl
 ·split at h
  ·cases h;rfl
  ·split at h
   ·cases h;rfl
   ·cases h;rfl
   ·cases h
theorem tc {nt:Nat} {ops:Array Oper} {o:Oper} {ai:AI} (h:cI P nt ops o=some ai):ai.dst=o.dst:=by
 obtain⟨g,_,_,h⟩:=Bi h
 exact ta h
theorem xn {nt:Nat} {ops:Array Oper} {i:Nat} {o:Oper} {ai:AI} (hi:ops[i]? = some o) (hc:cI P nt ops o=some ai)
 {M:Map} {s:St} {w:World} {tm:Tm} {act:Act} (r:Rel M s w) (kx:Laid M s w) (ht:l7 M s tm act.tmps) {K':Tm→St→Prop} (h:iY P [ai] K' tm s)
 {K:Act→World→Prop} {Q:Exit→Act→World→Prop}
 (hK : ∀ d v s1 w1 M1,K' (tm.put ai.dst d) s1→Ext M s w M1 s1 w1→Rel M1 s1 w1→RD M1 s1 d v→K (act.put o.dst v) w1):wpOp P ops Q i K act w:=by
 obtain⟨g,hg,_,hb⟩:=Bi hc
 rw[ta hb]at hK
 simp only[wpOp,hi]
 have skip:K' (tm.put o.dst (.tuple [])) s→K (act.put o.dst Go.undef) w:=fun hk=>hK _ _ _ _ _ hk (Ext.refl M s w) r .undef
 unfold sC at hb
 split at hb
 ·rename_i f args mN mM
  split at hb
  ·rename_i za
   obtain⟨xs,oM,rfl⟩:=map_some hb
   simp only[iY]at h
   rcases ki hg ht h with ⟨hw,hA⟩|⟨hw,hB⟩
   ·simp only [hw,if_true]
    left
    have hex:(execOp act.eval o).run P w = .ok (.enter f (args.map act.eval)) w:=by
     obtain⟨dst,op,type,pos,after,guard⟩:=o
     simp only at mM
     subst mM
     exact xi act.eval dst f args mN type pos after guard rfl za w
    obtain⟨c1,c2⟩:=wv ht oM
    unfold Oper.wp
    rw[hex,Oper.upon_enter]
    refine(hA M w (args.map act.eval) r kx (by simp[c1]) (fun i d v e1 e2=>c2 i d v e1 (by simpa using e2))).mono ?_
    rintro en w' ⟨M',d,v,s',rfl,hk,e',r',hv⟩
    exact hK _ _ _ _ _ hk e' r' hv
   ·simp only [hw]
    exact skip hB
  ·cases hb
 ·rename_i t args mN mM
  obtain⟨xs,oM,rfl⟩:=map_some hb
  simp only[iY]at h
  rcases ki hg ht h with ⟨hw,hA⟩|⟨hw,hB⟩
  ·simp only [hw,if_true]
   left
   split at hA
   ·rename_i f nN oK
    obtain⟨za,hA⟩:=hA
    have QB:=ht t
    rw[oK]at QB
    obtain⟨vs,oY,hlen,Ee⟩:=QB.LD
    have hex:(execOp act.eval o).run P w = .ok (.enter f (args.map act.eval++vs)) w:=by
     obtain⟨dst,op,type,pos,after,guard⟩:=o
     simp only at mM
     subst mM
     exact Bd act.eval dst (.tmp t) f vs args mN type pos after guard oY za w
    have cc:=Gx oM ht hlen Ee
    unfold Oper.wp
    rw[hex,Oper.upon_enter]
    refine(hA M w (args.map act.eval++vs) r kx cc.1 cc.2).mono ?_
    rintro en w' ⟨M',d,v,s',rfl,hk,e',r',hv⟩
    exact hK _ _ _ _ _ hk e' r' hv
   ·exact hA.elim
  ·simp only [hw]
   exact skip hB
 ·split at hb
  ·rename_i neg x Dm
   cases hb
   simp only[iY]at h
   rcases ki hg ht h with ⟨hw,hA⟩|⟨hw,hB⟩
   ·simp only [hw,if_true]
    left
    split at hA
    ·rename_i g' z rows hx
     obtain⟨b,hb,hex⟩:=Ag (w:=w) Dm ht hx
     unfold Oper.wp
     rw[hex,Oper.upon_value]
     exact hK _ _ _ _ _ (hA b hb) (Ext.refl M s w) r (.bool _)
    ·exact hA.elim
   ·simp only [hw]
    exact skip hB
  ·have fin : ∀ ao,ai = .op o.dst g ao→(∀ d s',aJ ao tm s=some (d,s')→cR P M s w (execOp act.eval o) d s')→
    (if Region.wanted o (yielded ops act.tmps)=true then o.wp P act w K Q∨(o.asks P act w∧LetsOut Q)else K (act.put o.dst Go.undef) w):=by
    intro ao wx hdo
    subst wx
    simp only[iY]at h
    rcases ki hg ht h with ⟨hw,hA⟩|⟨hw,hB⟩
    ·simp only [hw,if_true]
     left
     split at hA
     ·rename_i d s' qI
      obtain⟨v,w',M',dH,r',hv,e'⟩:=hdo d s' qI
      unfold Oper.wp
      rcases dH with dH|⟨dH,rfl⟩
      ·rw [dH,Oper.upon_value]
       exact hK _ _ _ _ _ hA e' r' hv
      ·rw [dH,Oper.upon_skip]
       exact hK _ _ _ _ _ hA e' r' hv
     ·exact hA.elim
    ·simp only [hw]
     exact skip hB
   split at hb
   ·rename_i z k n ps oc
    cases hb
    refine fin _ rfl (fun d s' qI=>?_)
    split at qI
    ·exact yZ oc r ht qI
    ·exact sG oc r ht qI
   ·rename_i ao oc
    cases hb
    exact fin _ rfl (fun d s' qI=>sG oc r ht qI)
   ·cases hb
structure LK (M:Map) (s:St) (b:Nat):Prop where
 o : ∀ o,o<s.ah.length→M.mu o≠b
 t : ∀ t c z,s.live t→M.be t≠some (b,c,z)
 g : ∀ off,M.G b off=none
theorem LK.mono {M M':Map} {s s':St} {w w':World} {b:Nat} (h:LK M s b) (e:Ext M s w M' s' w') (hb:b<w.heap.size):LK M' s' b:=by
 refine⟨fun o ho=>?_,fun t c z hl he=>?_,fun off=>?_⟩
 ·rcases e.mo ho with ⟨h1,h2⟩ | h1
  ·rw[h2];exact h.o o h1
  ·omega
 ·rcases e.qo t b c z hl he with ⟨h1,c',z',h2⟩ | h1
  ·exact h.t t c' z' h1 h2
  ·omega
 ·by_cases hg:M'.G b off=M.G b off
  ·rw[hg];exact h.g off
  ·rcases e.sb b off hg with h1 | ⟨t,c,z,h1,h2⟩
   ·omega
   ·exact(h.t t c z h1 h2).elim
theorem Rel.idle {M:Map} {s:St} {w:World} (r:Rel M s w) (x:Obj):Rel M s (w.alloc x)∧Ext M s w M s (w.alloc x)∧LK M s w.heap.size:=by
 refine⟨⟨fun b o v e=>?_,fun o ds e=>?_,r.jL,r.inj,fun t n e=>?_,r.fh,r.fQ⟩, ?_,⟨fun o ho=>?_,fun t c z hl e=>?_,fun off=>r.MJ (Nat.le_refl _) off⟩⟩
 ·obtain⟨h3,h4⟩:=r.comm b o v e
  refine⟨?_,h4⟩
  rw[World.cell?_alloc_lt]
  ·exact h3
  ·exact r.AY e
 ·obtain⟨vs,T,h3,h4,h5,h6⟩:=r.obj o ds e
  exact⟨vs,T,h3.keep (heap_alloc_old w _ _ h3.lt),h4,h5,h6⟩
 ·rcases r.tok t n e with h3 | ⟨b,cap,size,fF,T',h3,h4,h5⟩
  ·exact .inl h3
  ·exact .inr ⟨b,cap,size,fF,T',h3,by rw[heap_alloc_old w _ _ (ke h4)];exact h4,h5⟩
 ·exact⟨Le.refl M s,fun b hb _ _=>heap_alloc_old w _ b hb,fun o h3 h4=>by rcases h3 with h3|h3;omega;exact(h3 rfl).elim,fun t b c z h e=> .inl ⟨h,c,z,e⟩,fun _ _ h=>(h rfl).elim,by simp,rfl,rfl,rfl⟩
 ·have:=r.qg ho;omega
 ·have:=r.sD hl e;omega
theorem Rel.afq {M:Map} {s:St} {w:World} (r:Rel M s w) {B:fU} (e:Ext B.M B.s B.w M s w) {b:Nat} (u:LK M s b) (hb:B.w.heap.size≤b)
 (ds:List D) (vs:Array Value) (T:TypeId) (hh:w.heap[b]? = some (.cells vs T (0,0))) (hl:vs.size=ds.length) (h1 : ∀ v∈vs,v.oneCell'=true)
 (h2 : ∀ (i:Nat) (d:D) (v:Value),ds[i]? = some d→vs[i]? = some v→RD M s d v) :
 Rel (M.dN s.ah.length b) {s with ah:=s.ah++ [ds]} w∧Ext B.M B.s B.w (M.dN s.ah.length b) {s with ah:=s.ah++ [ds]} w∧
 Le M s (M.dN s.ah.length b) {s with ah:=s.ah++ [ds]}:=by
 have le:=se (M:=M) s b ds
 have mX : ∀ o,o<s.ah.length→(M.dN s.ah.length b).mu o=M.mu o:=fun o ho=>congrArg Prod.fst (sY M b .any ho)
 have dh:(M.dN s.ah.length b).mu s.ah.length=b:=by simp[Map.dN,Map.mu]
 refine⟨⟨r.comm,fun o nJ e'=>?_,fun o ho off=>?_,fun o o' ho nK e'=>?_,r.tok,fun t b' c z o hl e' ho=>?_,r.fQ⟩, ?_,le⟩
 ·rcases Nat.lt_or_ge o s.ah.length with ho | ho
  ·rw [List.getElem?_append_left ho]at e'
   obtain⟨fF,T',h3,h4,h5,h6⟩:=r.obj o nJ e'
   refine⟨fF,T', ?_,h4,⟨h5.1,by rw[le.ty o ho];exact h5.2⟩,fun i d v e1 e2=>(h6 i d v e1 e2).mono le⟩
   rw[sY M b .any ho];exact h3
  ·rw [List.getElem?_append_right ho]at e'
   have:o=s.ah.length:=by
    have:=(List.getElem?_eq_some_iff.1 e').1
    simp at this;omega
   subst this
   simp at e';subst e'
   refine⟨vs,T, ?_,hl,⟨h1,fun T' h=>by simp[Map.dN,Map.ty,Ob.ty?]at h⟩,fun i d v e1 e2=>(h2 i d v e1 e2).mono le⟩
   have hl:(M.dN s.ah.length b).loc s.ah.length=(b, .any):=by simp[Map.dN]
   rw[hl];exact iE.of hh trivial
 ·simp at ho
  rcases Nat.lt_or_ge o s.ah.length with h3|h3
  ·rw[mX o h3];exact r.jL o h3 off
  ·have:o=s.ah.length:=by omega
   subst this
   rw[dh];exact u.g off
 ·simp at ho nK
  rcases Nat.lt_or_ge o s.ah.length with h3|h3<;>rcases Nat.lt_or_ge o' s.ah.length with h4|h4
  ·rw[mX o h3,mX o' h4]at e';exact r.inj o o' h3 h4 e'
  ·have:o'=s.ah.length:=by omega
   subst this
   rw[mX o h3,dh]at e'
   exact(u.o o h3 e').elim
  ·have:o=s.ah.length:=by omega
   subst this
   rw[mX o' h4,dh]at e'
   exact(u.o o' h4 e'.symm).elim
  ·omega
 ·simp at ho
  rcases Nat.lt_or_ge o s.ah.length with h3|h3
  ·rw[mX o h3];exact r.fh t b' c z o hl e' h3
  ·have:o=s.ah.length:=by omega
   subst this
   rw[dh]
   intro he
   subst he
   exact u.t t c z hl e'
 ·refine⟨e.le.trans le,e.kept,fun o h3 h4=> ?_,e.qo,e.sb,e.size,e.os,e.tape,e.output⟩
  simp at h4
  rcases Nat.lt_or_ge o s.ah.length with h5|h5
  ·rw[mX o h5]at h3 ⊢;exact e.tH o h3 h5
  ·have:o=s.ah.length:=by omega
   subst this
   rw[dh];exact hb
theorem KV {nt:Nat} {ops:Array Oper} {i:Nat} {o:Oper} {t:Nat} {z:List D} (hi:ops[i]? = some o) (hc:cI P nt ops o=some (.op (some t) none (.alloc z)))
 {w:World} {act:Act} {K:Act→World→Prop} {Q:Exit→Act→World→Prop}
 (hK : ∀ vs T,vs.size=z.length→(∀ v∈vs,v.oneCell'=true)→(∀ (M:Map) (s:St) (i:Nat) (d:D) (v:Value),z[i]? = some d→vs[i]? = some v→RD M s d v)→
  K (act.put (some t) (.pointer (some ⟨w.heap.size,0,none⟩))) (w.alloc (.cells vs T))):wpOp P ops Q i K act w:=by
 obtain⟨g,hg,_,hb⟩:=Bi hc
 have qt:=ta hb
 simp only[AI.dst]at qt
 simp only[wpOp,hi]
 have mM:g=none∧D3 P o=some (.alloc z):=by
  unfold sC at hb
  split at hb
  ·split at hb
   ·obtain⟨xs,_,h⟩:=map_some hb;cases h
   ·cases hb
  ·obtain⟨xs,_,h⟩:=map_some hb;cases h
  ·split at hb
   ·cases hb
   ·split at hb
    ·rename_i oc
     simp only[Option.some.injEq,AI.op.injEq]at hb
     obtain⟨_,_,h⟩:=hb
     split at h<;>cases h
    ·rename_i ao oc
     simp only[Option.some.injEq,AI.op.injEq]at hb
     obtain⟨_,h1,h2⟩:=hb
     subst h2
     exact⟨h1,oc⟩
    ·cases hb
 obtain⟨rfl,oc⟩:=mM
 obtain⟨T,hT,hz⟩:=QM oc
 have hw:Region.wanted o (yielded ops act.tmps)=true:=by
  have:o.guard=none:=by
   cases Gp:o.guard with
   |none=>rfl
   |some p=>
    obtain⟨j,b⟩:=p
    rw[Gp]at hg
    unfold ve at hg
    simp only at hg
    split at hg<;>cases hg
  simp[Region.wanted,this]
 simp only[hw,if_true]
 left
 unfold zeroOf at hz
 split at hz
 ·rename_i inf Nh
  split at hz
  ·rename_i v hv
   split at hz
   ·have dH:(execOp act.eval o).run P w = .ok (.value (.pointer (some ⟨w.heap.size,0,none⟩))) (w.alloc (.cells v.cells T)):=by
     obtain⟨dst,op,type,pos,after,guard⟩:=o
     simp only at hT
     subst hT
     simp[execOp,Instr.alloc,zeroValue,fS P Nh,hv,newVar,newRow]
    have h3:=fun M s=>lu (M:=M) (s:=s) hz
    obtain⟨h1,h2,_⟩:=h3 ⟨fun _ _=>none,fun _=>(0, .any),fun _=>none⟩ ⟨[],[]⟩
    unfold Oper.wp
    rw[dH,Oper.upon_value, ← qt]
    exact hK _ _ (by rw[h1];simp) (fun u hu=>h2 u (by simpa using hu)) (fun M s i d u e1 e2=>(h3 M s).2.2 i d u e1 (by simpa using e2))
   ·cases hz
  ·cases hz
 ·cases hz
end
end Go.Abs
namespace Go.Abs
section
variable {is:List AI} {af pt:List (List Nat)}
theorem Al {pq:List Nat} {l l':List Nat} (h:l'.Sublist l) (hb:la is pq l=true):la is pq l'=true:=by
 induction h with
 |slnil=>rfl
 |cons a h ih=>
  simp only[la,Bool.and_eq_true]at hb
  exact ih hb.2
 |cons_cons a h ih=>
  simp only[la,Bool.and_eq_true,Bool.or_eq_true]at hb ⊢
  refine⟨hb.1.imp id fun h1=>?_,ih hb.2⟩
  rw[List.all_eq_true]at h1 ⊢
  exact fun x hx=>h1 x (h.subset hx)
theorem B9 {f:Nat→Bool} {l l':List Nat} (h:l'.Sublist l) (ha:l.all f=true):l'.all f=true:=by
 rw[List.all_eq_true]at ha ⊢
 exact fun x hx=>ha x (h.subset hx)
theorem KW {l l':List Nat} (h:l'.Sublist l):jG is l'≤jG is l:=(h.filter _).length_le
theorem Ns {pre FF:List Nat} {q b:Nat} (h:FF.Sublist pre) (hs:oV is pt pre q b=true):oV is pt FF q b=true:=by
 unfold oV at *
 split at hs
 ·exact B9 h hs
 ·exact B9 h hs
 ·simp only [Bool.and_eq_true]at hs ⊢
  exact⟨B9 h hs.1,Al h hs.2⟩
 ·simp only [Bool.and_eq_true,decide_eq_true_eq]at hs ⊢
  exact⟨⟨B9 h hs.1.1,Al h hs.1.2⟩,Nat.le_trans (KW (h.filter _)) hs.2⟩
theorem IZ : ∀ {R:List (Nat×Nat)} {pre FF:List Nat},FF.Sublist pre→uw is af pt pre R=true→uw is af pt FF R=true
 | [],_,_,_,_=>rfl
 |(q,b)::R,pre,FF,h,ho=>by
  simp only[uw,Bool.and_eq_true,Bool.not_eq_true']at ho ⊢
  obtain⟨⟨⟨h1,h2⟩,h3⟩,h4⟩:=ho
  refine⟨⟨⟨Ns h h1, ?_⟩,h3⟩,IZ (h.cons_cons q) h4⟩
  rw[← Bool.not_eq_true,List.contains_iff_mem]at h2 ⊢
  exact fun hm=>h2 (h.subset hm)
theorem FG : ∀ {X:List (Nat×Nat)} {e:Nat×Nat} {Y:List (Nat×Nat)} {pre:List Nat},uw is af pt pre (X++e::Y)=true→uw is af pt pre (X++Y)=true
 | [],(q,b),Y,pre,h=>by
  simp only[List.nil_append,uw,Bool.and_eq_true]at h
  exact IZ (List.sublist_cons_self q pre) h.2
 |(a,c)::X,e,Y,pre,h=>by
  simp only[List.cons_append,uw,Bool.and_eq_true]at h ⊢
  obtain⟨⟨⟨h1,h2⟩,h3⟩,h4⟩:=h
  refine⟨⟨⟨h1,h2⟩, ?_⟩,FG h4⟩
  rw[List.all_eq_true]at h3 ⊢
  intro j hj
  have:=h3 j hj
  simp only[Bool.and_eq_true,Bool.not_eq_true']at this ⊢
  refine⟨this.1, ?_⟩
  have h5:=this.2
  rw[← Bool.not_eq_true,List.contains_iff_mem]at h5 ⊢
  refine fun hm=>h5 ?_
  simp only[List.map_append,List.map_cons,List.mem_append,List.mem_cons]at hm ⊢
  exact hm.imp id .inr
theorem td : ∀ {X:List (Nat×Nat)} {q b:Nat} {Y:List (Nat×Nat)} {pre:List Nat},uw is af pt pre (X++(q,b)::Y)=true→
 oV is pt ((X.map (·.1)).reverse++pre) q b=true∧q∉X.map (·.1)∧q∉pre∧(∀ j∈gX af q,j≠q∧j∉Y.map (·.1))∧uw is af pt (q::((X.map (·.1)).reverse++pre)) Y=true
 | [],q,b,Y,pre,h=>by
  simp only[List.nil_append,uw,Bool.and_eq_true,Bool.not_eq_true']at h
  obtain⟨⟨⟨h1,h2⟩,h3⟩,h4⟩:=h
  rw[← Bool.not_eq_true,List.contains_iff_mem]at h2
  refine⟨h1,by simp,h2,fun j hj=>?_,h4⟩
  rw[List.all_eq_true]at h3
  have:=h3 j hj
  simp only[Bool.and_eq_true,bne_iff_ne,Bool.not_eq_true', ← Bool.not_eq_true,List.contains_iff_mem]at this
  exact this
 |(a,c)::X,q,b,Y,pre,h=>by
  simp only[List.cons_append,uw,Bool.and_eq_true]at h
  obtain⟨_,h4⟩:=h
  obtain⟨g1,g2,g3,g4,g5⟩:=td h4
  simp only[List.map_cons,List.reverse_cons,List.append_assoc,List.singleton_append]
  refine⟨g1, ?_,fun h=>g3 (List.mem_cons_of_mem _ h),g4,g5⟩
  intro hm
  rcases List.mem_cons.1 hm with rfl|hm
  ·exact g3 (by simp)
  ·exact g2 hm
theorem Ca : ∀ {Y:List (Nat×Nat)} {pre:List Nat},uw is af pt pre Y=true→∀ x∈Y,x.1∉pre∧(ju is x.1 = .alloc→∀ a∈pre,ln is a x.1=true)
 | [],_,_,x,hx=>by cases hx
 | (q,b)::Y,pre,h,x,hx=>by
  simp only[uw,Bool.and_eq_true,Bool.not_eq_true']at h
  obtain⟨⟨⟨h1,h2⟩,_⟩,h4⟩:=h
  rw[← Bool.not_eq_true,List.contains_iff_mem]at h2
  rcases List.mem_cons.1 hx with rfl|hx
  ·refine⟨h2,fun hk a ha=> ?_⟩
   unfold oV at h1
   simp only[hk]at h1
   rw[List.all_eq_true]at h1
   exact h1 a ha
  ·obtain⟨g1,g2⟩:=Ca h4 x hx
   exact⟨fun h=>g1 (List.mem_cons_of_mem _ h),fun hk a ha=>g2 hk a (List.mem_cons_of_mem _ ha)⟩
theorem CZ : ∀ {n:Nat},xQ af pt n=true→∀ i,i<n→∀ j∈gX pt i,j∈gX af i∨∃ k∈gX af i,j∈gX pt k
 | 0,_,i,hi=>by omega
 | n+1,h,i,hi=>by
  simp only[xQ,Bool.and_eq_true]at h
  rcases Nat.lt_or_ge i n with h1|h1
  ·exact CZ h.2 i h1
  ·have:i=n:=by omega
   subst this
   intro j hj
   have:=h.1
   rw[List.all_eq_true]at this
   have:=this j hj
   simp only[Bool.or_eq_true,List.contains_iff_mem,List.any_eq_true]at this
   exact this
theorem yh {pq:List Nat} : ∀ {l:List Nat},la is pq l=true→∀ (x:Nat) (l1 l2:List Nat),l=l1++x::l2→ju is x = .alloc→x∈pq→∀ y∈l2,y∈pq
 | [],_,x,l1,l2,h=>by simp at h
 | a::l,hb,x,l1,l2,h=>by
  simp only[la,Bool.and_eq_true,Bool.or_eq_true,Bool.not_eq_true',Bool.and_eq_false_iff]at hb
  intro hk hx y hy
  cases l1 with
  | nil=>
   simp only[List.nil_append,List.cons.injEq]at h
   obtain⟨rfl,rfl⟩:=h
   rcases hb.1 with h1|h1
   ·rcases h1 with h1 | h1
    ·simp[hk]at h1
    ·rw [← Bool.not_eq_true,List.contains_iff_mem]at h1
     exact(h1 hx).elim
   ·rw [List.all_eq_true]at h1
    have:=h1 y hy
    rwa [List.contains_iff_mem]at this
  |cons b l1=>
   simp only[List.cons_append,List.cons.injEq]at h
   exact yh hb.2 x l1 l2 h.2 hk hx y hy
end
structure Pd where
 q:Nat
 t:Nat
 z:List D
 b:Nat
structure abh (is:List AI) (R:List (Nat×Nat)) (B:fU) (M:Map) (s:St) (act:Act) (w:World) (p:Pd):Prop where
 mem:p.q∈R.map (·.1)
 ai:is[p.q]? = some (.op (some p.t) none (.alloc p.z))
 cells : ∃ (vs:Array Value) (T:TypeId),w.heap[p.b]? = some (.cells vs T (0,0))∧vs.size=p.z.length∧(∀ v∈vs,v.oneCell'=true)∧
  ∀ (M:Map) (s:St) (i:Nat) (d:D) (v:Value),p.z[i]? = some d→vs[i]? = some v→RD M s d v
 unk:LK M s p.b
 base:B.w.heap.size≤p.b
 slot:act.tmps.getD p.t Go.undef = .pointer (some ⟨p.b,0,none⟩)
def zf (P:Program) (is:List AI) (K:Tm→St→Prop) (B:fU) (nt:Nat) (R:List (Nat×Nat)) (ej:List Pd) (act:Act) (w:World):Prop:=
 ∃ (M:Map) (s:St) (tm tf:Tm) (bG:List St),Ext B.M B.s B.w M s w∧Rel M s w∧l7 M s tf act.tmps∧(∀ t,(∀ p∈ej,p.t≠t)→tf.get t=tm.get t)∧
  act.tmps.size=nt∧act.defers = []∧kQ P is K R bG tm s∧(∀ p∈ej,abh is R B M s act w p)∧
  (∀ p∈ej,∀ p'∈ej,p.q=p'.q∨p.t=p'.t∨p.b=p'.b→p=p')
structure rh (is:List AI) (af pt:List (List Nat)) (dv:Array Bool) (R:List (Nat×Nat)) (ej:List Pd):Prop where
 ok:uw is af pt [] R=true
 GD : ∀ i,i<is.length→(dv.getD i false=true↔(i∉R.map (·.1)∨∃ p∈ej,p.q=i))
 cl : ∀ i,i<is.length→dv.getD i false=true→∀ j∈gX pt i,dv.getD j false=true
 size:dv.size=is.length
 lt : ∀ x∈R,x.1<is.length
section
variable {P:Program} {is:List AI} {af pt:List (List Nat)} {K:Tm→St→Prop} {B:fU} {nt:Nat}
theorem abi {dv:Array Bool} {q b:Nat} {R:List (Nat×Nat)} {ej:List Pd} {act:Act} {w:World} (hs:rh is af pt dv ((q,b)::R) ej) (h:zf P is K B nt ((q,b)::R) ej act w)
 {p:Pd} (hp:p∈ej) (uC:p.q=q) :
 rh is af pt dv R (ej.filter fun p'=>decide (p'.q≠q))∧zf P is K B nt R (ej.filter fun p'=>decide (p'.q≠q)) act w:=by
 have gE : ∀ p',p'∈(ej.filter fun p'=>decide (p'.q≠q))↔p'∈ej∧p'.q≠q:=fun p'=>by simp
 constructor
 ·have pK:=hs.ok
  have Dq:=td (X:= []) pK
  refine⟨FG (X:= []) pK,fun i hi=>?_,hs.cl,hs.size,fun x hx=>hs.lt x (List.mem_cons_of_mem _ hx)⟩
  rw[hs.GD i hi]
  simp only[List.map_cons,List.mem_cons,not_or]
  have hqR:q∉R.map (·.1):=fun hm=>by
   obtain⟨x,hx,rfl⟩:=List.mem_map.1 hm
   exact(Ca Dq.2.2.2.2 x hx).1 (by simp)
  constructor
  ·rintro(⟨h1,h2⟩ | ⟨p',h1,h2⟩)
   ·exact .inl h2
   ·by_cases hq:i=q
    ·subst hq;exact .inl hqR
    ·exact .inr ⟨p',(gE p').2 ⟨h1,by rw[h2];exact hq⟩,h2⟩
  ·rintro(h1 | ⟨p',h1,h2⟩)
   ·by_cases hq:i=q
    ·subst hq;exact .inr ⟨p,hp,uC⟩
    ·exact .inl ⟨hq,h1⟩
   ·exact .inr ⟨p',((gE p').1 h1).1,h2⟩
 ·obtain⟨M,s,tm,tf,bG,e,r,ht,qi,hn,hd,hg,wz,sK⟩:=h
  have hk:=wz p hp
  obtain⟨vs,T,hh,hl,h1,h2⟩:=hk.cells
  have wx:=hk.ai
  rw[uC]at wx
  simp only[kQ,wx,AI.kind,gI]at hg
  obtain⟨d,s',ji,hg⟩:=hg
  have qI:aJ (.alloc p.z) tm s=some (d,s'):=ji
  simp only[aJ,Option.some.injEq,Prod.mk.injEq]at qI
  obtain⟨rfl,rfl⟩:=qI
  obtain⟨r',e',le⟩:=r.afq e hk.unk hk.base p.z vs T hh hl h1 (h2 M s)
  refine⟨_,_,_,tf.put (some p.t) (.ptr s.ah.length 0),_,e',r',fun u=>?_,fun t LL=>?_,hn,hd,hg,fun p' mU=>?_,fun p1 h1 p2 h2=>sK p1 ((gE p1).1 h1).1 p2 ((gE p2).1 h2).1⟩
  ·rw [Tm.lz]
   split
   ·rename_i heq
    cases heq
    rw[hk.slot]
    have:(M.dN s.ah.length p.b).mu s.ah.length=p.b:=by simp[Map.dN,Map.mu]
    have h5:=RD.ptr (M:=M.dN s.ah.length p.b) (s:= {s with ah:=s.ah++ [p.z]}) s.ah.length 0 (by simp) (by simp[Map.dN,Map.ob,Ob.plain])
    rw[this]at h5
    exact h5
   ·exact(ht u).mono le
  ·simp only [AI.dst]
   rw[Tm.lz,Tm.lz]
   split
   ·rfl
   ·rename_i eO
    refine qi t fun p' mU=>?_
    by_cases hq:p'.q=q
    ·have:=sK p' mU p hp (.inl (hq.trans uC.symm))
     subst this
     exact fun h=>eO (by rw[h])
    ·exact LL p' ((gE p').2 ⟨mU,hq⟩)
  ·obtain⟨hp1,hp2⟩:=(gE p').1 mU
   have uv:=wz p' hp1
   refine⟨?_,uv.ai,uv.cells,⟨fun o ho=>?_,uv.unk.t,uv.unk.g⟩,uv.base,uv.slot⟩
   ·have:=uv.mem
    simp only[List.map_cons,List.mem_cons]at this
    exact this.resolve_left hp2
   ·simp at ho
    rcases Nat.lt_or_ge o s.ah.length with h5|h5
    ·rw[show(M.dN s.ah.length p.b).mu o=M.mu o from congrArg Prod.fst (sY M p.b .any h5)];exact uv.unk.o o h5
    ·have:o=s.ah.length:=by omega
     subst this
     have:(M.dN s.ah.length p.b).mu s.ah.length=p.b:=by simp[Map.dN,Map.mu]
     rw[this]
     intro hb
     have:=sK p hp p' hp1 (.inr (.inr hb))
     subst this
     exact hp2 uC
theorem norm {dv:Array Bool} {act:Act} {w:World} : ∀ (R:List (Nat×Nat)) (ej:List Pd),rh is af pt dv R ej→zf P is K B nt R ej act w→
 ∃ R' wA,rh is af pt dv R' wA∧zf P is K B nt R' wA act w∧∀ x l,R'=x::l→∀ p∈wA,p.q≠x.1
 | [],ej,hs,h=>⟨[],ej,hs,h,fun _ _ he=>by cases he⟩
 | (q,b)::R,ej,hs,h=>by
  by_cases hp : ∃ p∈ej,p.q=q
  ·obtain⟨p,hp,uC⟩:=hp
   obtain⟨h1,h2⟩:=abi hs h hp uC
   exact norm R _ h1 h2
  ·refine⟨(q,b)::R,ej,hs,h,fun x l he p hpm uC=>hp ⟨p,hpm, ?_⟩⟩
   cases he
   exact uC
theorem WO {ops:Array Oper} {q:Nat} {o:Oper} {ai:AI} (hi:ops[q]? = some o) (hc:cI P nt ops o=some ai) {R R':List (Nat×Nat)} {ej:List Pd} {act:Act} {w:World} {M:Map} {s s1:St} {tm tf:Tm} {d:D} {WQ:List St}
 (e:Ext B.M B.s B.w M s w) (r:Rel M s w) (ht:l7 M s tf act.tmps) (qi : ∀ t,(∀ p∈ej,p.t≠t)→tf.get t=tm.get t) (hn:act.tmps.size=nt) (hd:act.defers = [])
 (wz : ∀ p∈ej,abh is R B M s act w p) (sK : ∀ p∈ej,∀ p'∈ej,p.q=p'.q∨p.t=p'.t∨p.b=p'.b→p=p')
 (hv:iY P [ai] (fun a b=>a=tf.put ai.dst d∧b=s1) tf s) (hg:kQ P is K R' WQ (tm.put ai.dst d) s1)
 (gE : ∀ p∈ej,p.q∈R'.map (·.1)) (qt : ∀ p∈ej,ai.dst≠some p.t) {Q:Exit→Act→World→Prop} :
 wpOp P ops Q q (zf P is K B nt R' ej) act w:=by
 refine xn hi hc r (B.laid.ext e) ht hv fun d' v s2 w1 M1 hk e1 r1 ib=>?_
 obtain⟨wk,rfl⟩:=hk
 have hde:=tc hc
 have hD : ∀ t,o.dst=some t→t<act.tmps.size:=fun t h=>by rw[hn];exact yc hc t h
 refine⟨M1,s2,tm.put ai.dst d,tf.put ai.dst d,WQ,e.trans e1,r1, ?_,fun t LL=>?_, ?_, ?_,hg,fun p hp=>?_,sK⟩
 ·rw [← wk,hde]
  exact(ht.mono e1.le).put hD ib
 ·rw[Tm.lz,Tm.lz,qi t LL]
 ·cases ho:o.dst<;>simp[Act.put,hn]
 ·cases ho:o.dst<;>simp[Act.put,hd]
 ·have hk:=wz p hp
  obtain⟨vs,T,hh,hl,h1,h2⟩:=hk.cells
  have hb:=ke hh
  refine⟨gE p hp,hk.ai,⟨vs,T,by rw[e1.kept p.b hb hk.unk.o hk.unk.t];exact hh,hl,h1,h2⟩,hk.unk.mono e1 hb,hk.base, ?_⟩
  rw[← hk.slot]
  have:=qt p hp
  rw[hde]at this
  cases ho:o.dst with
  |none=>rfl
  |some t=>
   rw[ho]at this
   have eO:t≠p.t:=fun h=>this (by rw[h])
   simp[Act.put,Array.getElem?_setIfInBounds_ne eO]
theorem Nt {ai:AI} (hm:gI ai.kind=false) {tm:Tm} {s:St} {d:D} (h:jT ai tm s=some d):iY P [ai] (fun a b=>a=tm.put ai.dst d∧b=s) tm s:=by
 cases ai with
 | op dst g o=>
  have hko:=LJ hm
  have key : ∀ {d},(aJ o tm s).map (·.1)=some d→aJ o tm s=some (d,s):=by
   intro d h
   cases he:aJ o tm s with
   |none=>rw[he]at h;cases h
   |some p=>
    obtain⟨d',s'⟩:=p
    rw[he]at h
    simp only[Option.map_some,Option.some.injEq]at h
    subst h
    rw[KU (by rw[← hko];exact hm) he]
  simp only[iY,AI.dst]
  cases g with
  |none=>
   simp only[jT]at h
   simp only[guarded,key h,and_self]
  | some p=>
   obtain⟨t,want⟩:=p
   simp only[jT]at h
   simp only[guarded]
   split at h
   ·rename_i b hb
    simp only[hb]
    split at h
    ·rename_i heq
     refine⟨fun _=>by simp only[key h,and_self],fun eO=>?_⟩
     subst heq
     cases b<;>cases eO
    ·rename_i eO
     cases h
     exact⟨fun heq=>(eO heq).elim,fun _=>by simp⟩
   ·rename_i ds hb
    cases h
    simp only[hb,and_self]
   ·cases h
 |call dst g f xs=>cases hm
 |nil dst g n x=>cases hm
 |jt dst g t xs=>cases hm
theorem Bj {g:Option (Nat×Bool)} {tm:Tm} {A A' C C':Prop} (ha:A→A') (hc:C→C') (hh:guarded g tm A C):guarded g tm A' C':=by
 cases g with
 |none=>exact ha hh
 | some p=>
  obtain⟨t,want⟩:=p
  unfold guarded at *
  simp only at *
  split
  ·rename_i b hb;rw[hb]at hh;exact⟨fun e=>ha (hh.1 e),fun e=>hc (hh.2 e)⟩
  ·rename_i hb;rw[hb]at hh;exact hc hh
  ·rename_i x h1 h2
   split at hh
   ·exact h1 _ ‹_›
   ·exact h2 _ ‹_›
   ·exact hh
theorem I0 {ai:AI} {tm:Tm} {s s1:St} {d:D} (h:sH P ai tm s d s1):iY P [ai] (fun a b=>a=tm.put ai.dst d∧b=s1) tm s:=by
 cases ai with
 |op dst g o=>
  refine Bj (fun e=>?_) (fun e=>?_) h
  ·rw[e];exact⟨rfl,rfl⟩
  ·obtain⟨rfl,rfl⟩:=e;exact⟨rfl,rfl⟩
 |call dst g f xs=>
  refine Bj (fun e=>?_) (fun e=>?_) h
  ·exact e.mono fun x y hxy=>by obtain⟨rfl,rfl⟩:=hxy;exact⟨rfl,rfl⟩
  ·obtain⟨rfl,rfl⟩:=e;exact⟨rfl,rfl⟩
 |nil dst g n x=>exact h.elim
 |jt dst g t xs=>exact h.elim
end
end Go.Abs
namespace Go.Abs
section
variable {P:Program} {is:List AI} {af pt:List (List Nat)} {K:Tm→St→Prop} {B:fU} {nt:Nat}
theorem Cb {ops:Array Oper} : ∀ {ol:List Oper} {is:List AI},qS P nt ops ol=some is→is.length=ol.length∧∀ (i:Nat) (o:Oper),ol[i]? = some o→∃ ai,is[i]? = some ai∧cI P nt ops o=some ai
 | [],is,h=>by cases h;exact⟨rfl,by simp⟩
 | o::ol,is,h=>by
  unfold qS at h
  split at h
  ·rename_i ai QA h1 h2
   cases h
   obtain⟨g1,g2⟩:=Cb h2
   refine⟨by simp[g1],fun i o' ho=>?_⟩
   cases i with
   |zero=>simp at ho;subst ho;exact⟨ai,rfl,h1⟩
   |succ i=>exact g2 i o' (by simpa using ho)
  ·cases h
theorem sL {dv:Array Bool} {i:Nat} (h:i<dv.size):dv.getD i true=dv.getD i false:=by
 simp[h]
theorem rh.done {dv:Array Bool} {X Y:List (Nat×Nat)} {q b:Nat} {ej:List Pd} (hs:rh is af pt dv (X++(q,b)::Y) ej) (hq:q<is.length)
 (GF : ∀ j∈gX pt q,dv.getD j false=true):rh is af pt (dv.setIfInBounds q true) (X++Y) ej:=by
 obtain⟨g1,g2,g3,g4,g5⟩:=td hs.ok
 have hqY:q∉Y.map (·.1):=fun hm=>by
  obtain⟨x,hx,rfl⟩:=List.mem_map.1 hm
  exact(Ca g5 x hx).1 (by simp)
 refine⟨FG hs.ok,fun i hi=>?_,fun i hi hl j hj=>?_,by simp[hs.size],fun x hx=>hs.lt x (by simp at hx ⊢;exact hx.imp id .inr)⟩
 ·by_cases uB:i=q
  ·subst uB
   have:i<dv.size:=by rw[hs.size];exact hq
   simp only[List.map_append,List.mem_append,g2,hqY,or_self,not_false_eq_true,true_or,iff_true]
   simp[this]
  ·rw [getD_set_ne false (Ne.symm uB),hs.GD i hi]
   simp[uB]
 ·by_cases uB:i=q
  ·subst uB;exact getD_set_true (GF j hj)
  ·rw [getD_set_ne false (Ne.symm uB)]at hl
   exact getD_set_true (hs.cl i hi hl j hj)
theorem rh.flag {dv:Array Bool} {R:List (Nat×Nat)} {ej:List Pd} (hs:rh is af pt dv R ej) {p:Pd} (hq:p.q<is.length)
 (GF : ∀ j∈gX pt p.q,dv.getD j false=true):rh is af pt (dv.setIfInBounds p.q true) R (p::ej):=by
 refine⟨hs.ok,fun i hi=>?_,fun i hi hl j hj=>?_,by simp[hs.size],hs.lt⟩
 ·by_cases uB:i=p.q
  ·subst uB
   have:p.q<dv.size:=by rw[hs.size];exact hq
   simp[this]
  ·rw [getD_set_ne false (Ne.symm uB),hs.GD i hi]
   have eO:p.q≠i:=fun h=>uB h.symm
   simp[eO]
 ·by_cases uB:i=p.q
  ·subst uB;exact getD_set_true (GF j hj)
  ·rw [getD_set_ne false (Ne.symm uB)]at hl
   exact getD_set_true (hs.cl i hi hl j hj)
theorem Nu {ai:AI} (h:ai.kind = .alloc) : ∃ t z,ai = .op (some t) none (.alloc z):=by
 cases ai with
 | op dst g o=>
  unfold AI.kind at h
  split at h
  ·rename_i heq;cases heq;exact⟨_,_,rfl⟩
  ·rename_i heq
   cases heq
   exfalso
   revert h
   cases o<;>simp[AO.kind]
  ·cases h
 |call dst g f xs=>cases h
 |nil dst g n x=>cases h
 |jt dst g t xs=>cases h
theorem Nv {ops:Array Oper} (xo:qS P nt ops ops.toList=some is) (Nw:xQ af pt is.length=true)
 (hK : ∀ tm bx s,Tm.eqv tm bx→K tm s→K bx s) {dv:Array Bool} {R:List (Nat×Nat)} {ej:List Pd} {act:Act} {w:World} (hs:rh is af pt dv R ej) (h:zf P is K B nt R ej act w)
 (afs : ∀ x l,R=x::l→∀ p∈ej,p.q≠x.1) {q:Nat} (hq:q<is.length) (Ek:dv.getD q false=false) (ib : ∀ j∈gX af q,j<is.length∧dv.getD j false=true)
 {Q:Exit→Act→World→Prop} {K2:Act→World→Prop} (hK2 : ∀ R' wA a' w',rh is af pt (dv.setIfInBounds q true) R' wA→zf P is K B nt R' wA a' w'→K2 a' w'):wpOp P ops Q q K2 act w:=by
 obtain⟨hlen,hY⟩:=Cb xo
 have vk:q<ops.size:=by rw[hlen]at hq;simpa using hq
 obtain⟨ai,wx,QO⟩:=hY q ops[q] (by simp[vk])
 have hi:ops[q]? = some ops[q]:=by simp[vk]
 have GF : ∀ j∈gX pt q,dv.getD j false=true:=fun j hj=>by
  rcases CZ Nw q hq j hj with h1|⟨k,h1,h2⟩
  ·exact(ib j h1).2
  ·exact hs.cl k (ib k h1).1 (ib k h1).2 j h2
 have QP : ∀ p∈ej,p.q≠q:=fun p hp uC=>by
  have:=(hs.GD q hq).2 (.inr ⟨p,hp,uC⟩)
  rw[Ek]at this;cases this
 have hqR:q∈R.map (·.1):=by
  by_cases hm:q∈R.map (·.1)
  ·exact hm
  ·have:=(hs.GD q hq).2 (.inl hm)
   rw[Ek]at this;cases this
 obtain⟨⟨q',b⟩,hx,hqq⟩:=List.mem_map.1 hqR
 simp only at hqq
 subst hqq
 obtain⟨X,Y,rfl⟩:=List.append_of_mem hx
 obtain⟨g1,g2,g3,g4,g5⟩:=td hs.ok
 rw[List.append_nil]at g1 g5
 obtain⟨M,s,tm,tf,bG,e,r,ht,qi,hn,hd,hg,wz,sK⟩:=h
 have QQ:ju is q'=ai.kind:=by simp[ju,wx]
 -- what must have come up ahead of it, is not here any more, but for what was allocated early
 have WR : ∀ a∈X.map (·.1),a∈gX pt q'→∃ p∈ej,p.q=a:=fun a ha eQ=>by
  have h1:=GF a eQ
  obtain⟨x,hxX,rfl⟩:=List.mem_map.1 ha
  rcases(hs.GD x.1 (hs.lt x (by simp[hxX]))).1 h1 with h2|h2
  ·exact(h2 (by simp;exact .inl ⟨x.2,hxX⟩)).elim
  ·exact h2
 have WS : ∀ x l,X=x::l→x.1∉gX pt q':=fun x l hX hxp=>by
  obtain⟨p,hp,uC⟩:=WR x.1 (by simp[hX]) hxp
  exact afs x (l++(q',b)::Y) (by simp[hX]) p hp uC
 have hpk : ∀ p∈ej,ju is p.q = .alloc:=fun p hp=>by simp[ju,(wz p hp).ai,AI.kind]
 have Dq : ∀ p∈ej,(p.q∈X.map (·.1)→ln is p.q q'=true)→(∀ t,ai.dst=some t→t≠p.t)∧p.t∉ai.reads:=fun p hp hX=>by
  have hk:=wz p hp
  have hm:=hk.mem
  simp only[List.map_append,List.map_cons,List.mem_append,List.mem_cons]at hm
  rcases hm with hm|hm|hm
  ·have:=hX hm
   simp only[ln,hk.ai,wx]at this
   obtain⟨p1,p2,p3⟩:=apart_spec this
   exact⟨fun t ht he=>p3 p.t rfl (by rw[ht,he]),p1 p.t rfl⟩
  ·exact(QP p hp hm).elim
  ·obtain⟨x,hxY,WT⟩:=List.mem_map.1 hm
   have:=(Ca g5 x hxY).2 (by rw[WT];exact hpk p hp) q' (by simp)
   rw[WT]at this
   simp only[ln,hk.ai,wx]at this
   obtain⟨p1,p2,p3⟩:=apart_spec this
   exact⟨fun t ht he=>p3 t ht (by rw[he];rfl),p2 p.t rfl⟩
 have QR:(∀ p∈ej,p.t∉ai.reads)→∀ t∈ai.reads,tm.get t=tf.get t:=fun hp t ht=>(qi t fun p hpm he=>hp p hpm (by rw[he];exact ht)).symm
 have WU : ∀ p∈ej,p.q∈(X++Y).map (·.1):=fun p hp=>by
  have hm:=(wz p hp).mem
  have:=QP p hp
  simp only[List.map_append,List.map_cons,List.mem_append,List.mem_cons]at hm ⊢
  rcases hm with hm|hm|hm
  ·exact .inl hm
  ·exact(this hm).elim
  ·exact .inr hm
 by_cases yi:ai.kind = .alloc
 ·-- an allocation
  obtain⟨t,z,rfl⟩:=Nu yi
  have eQ : ∀ a∈X.map (·.1),ln is a q'=true:=fun a ha=>by
   unfold oV at g1
   rw[QQ,yi]at g1
   simp only[List.all_reverse,List.all_eq_true]at g1
   exact g1 a ha
  have rY:=fun p hp=>Dq p hp (eQ p.q)
  refine KV hi QO fun vs T hl h1 h2=>?_
  obtain⟨r1,e1,u1⟩:=r.idle (.cells vs T)
  have abn:t<act.tmps.size:=by
   rw[hn]
   exact yc QO t (by rw[← tc QO];rfl)
  have:=hs.flag (p:=⟨q',t,z,w.heap.size⟩) hq GF
  refine hK2 _ _ _ _ this ⟨M,s,tm,tf.put (some t) .junk,bG,e.trans e1,r1,l7.put ht (dst:=some t) (fun u hu=>by cases hu;exact abn) (.junk _),fun u hu=>?_,by simp[Act.put,hn],by simp[Act.put,hd],hg,fun p hp=>?_,fun p hp p' mU he=>?_⟩
  ·have h3:=hu ⟨q',t,z,w.heap.size⟩ (by simp)
   rw[Tm.lz,if_neg (by simpa using h3)]
   exact qi u fun p hp=>hu p (List.mem_cons_of_mem _ hp)
  ·rcases List.mem_cons.1 hp with rfl | hp
   ·refine⟨by simp,wx,⟨vs,T,heap_alloc_new w _,hl,h1,h2⟩,u1,e.size, ?_⟩
    simp[Act.put,abn]
   ·have hk:=wz p hp
    obtain⟨fF,T',j9,l8,rX,uA⟩:=hk.cells
    refine⟨hk.mem,hk.ai,⟨fF,T',by rw[heap_alloc_old w _ _ (ke j9)];exact j9,l8,rX,uA⟩,hk.unk,hk.base, ?_⟩
    rw[← hk.slot]
    have eO:t≠p.t:=(rY p hp).1 t rfl
    simp[Act.put,Array.getElem?_setIfInBounds_ne eO]
  ·have dh : ∀ p∈ej,¬ (q'=p.q∨t=p.t∨w.heap.size=p.b):=fun p hp h=>by
    rcases h with h|h|h
    ·exact QP p hp h.symm
    ·exact(rY p hp).1 t rfl h
    ·obtain⟨fF,T',j9,_⟩:=(wz p hp).cells
     have:=ke j9
     omega
   rcases List.mem_cons.1 hp with rfl|hp<;>rcases List.mem_cons.1 mU with rfl|mU
   ·rfl
   ·exact(dh p' mU he).elim
   ·exact(dh p hp (he.imp Eq.symm (Or.imp Eq.symm Eq.symm))).elim
   ·exact sK p hp p' mU he
 ·by_cases oc:gI ai.kind=true
  ·-- a step that changes something: it stands first
   have hkc:ai.kind = .core:=by
    cases hk:ai.kind<;>simp_all [gI]
   have hX:X = []:=by
    cases X with
    |nil=>rfl
    |cons x l=>
     refine(WS x l rfl ?_).elim
     unfold oV at g1
     rw[QQ,hkc]at g1
     simp only[List.all_reverse,List.all_eq_true]at g1
     have:=g1 x.1 (by simp)
     rwa [List.contains_iff_mem]at this
   subst hX
   have rY:=fun p hp=>Dq p hp (fun h=>by simp at h)
   simp only[List.nil_append,kQ,wx,oc]at hg
   obtain⟨d,s1,ji,hg⟩:=hg
   have ajG:=xl (QR fun p hp=>(rY p hp).2) ji
   refine wpOp_mono (fun a' w' hr=>hK2 _ _ _ _ (hs.done hq GF) hr) ?_
   exact WO hi QO e r ht qi hn hd wz sK (I0 ajG) hg WU (fun p hp he=>(rY p hp).1 _ he rfl)
  ·-- a step that changes nothing
   have hm:gI ai.kind=false:=by simpa using oc
   have nU : ∀ a∈X.map (·.1),a∉gX pt q':=fun a ha eQ=>by
    obtain⟨p,hp,uC⟩:=WR a ha eQ
    have Qy:ju is a = .alloc:=by rw[← uC];exact hpk p hp
    have kJ:la is (gX pt q') (X.map (·.1)).reverse=true:=by
     unfold oV at g1
     rw[QQ]at g1
     cases hk:ai.kind with
     |pure=>simp only[hk,Bool.and_eq_true]at g1;exact g1.2
     |load=>simp only[hk,Bool.and_eq_true]at g1;exact g1.1.2
     |alloc=>exact(yi hk).elim
     |core=>rw[hk]at hm;cases hm
    cases X with
    |nil=>simp at ha
    | cons x l=>
     have ha2:a∈((x::l).map (·.1)).reverse:=List.mem_reverse.2 ha
     obtain⟨l1,l2,C0⟩:=List.append_of_mem ha2
     have vr:=yh kJ a l1 l2 C0 Qy eQ
     refine WS x l rfl ?_
     cases iX:l2.reverse with
     |nil=>
      have h3:l2 = []:=by simpa using iX
      subst h3
      have:=congrArg List.reverse C0
      simp at this
      rw[this.1];exact eQ
     |cons y l3=>
      have:=congrArg List.reverse C0
      simp only[List.reverse_reverse,List.map_cons,List.reverse_append,List.reverse_cons,List.reverse_nil,List.append_assoc,iX,List.cons_append,List.nil_append,List.cons.injEq]at this
      rw[this.1]
      exact vr y (by rw[← List.mem_reverse,iX];simp)
   have eQ : ∀ a∈X,ln is a.1 q'=true:=fun a ha=>by
    have h3 : ∀ x∈(X.map (·.1)).reverse,((gX pt q').contains x ||ln is x q')=true:=by
     unfold oV at g1
     rw[QQ]at g1
     cases hk:ai.kind with
     |pure=>simp only[hk,Bool.and_eq_true]at g1;exact List.all_eq_true.1 g1.1
     |load=>simp only[hk,Bool.and_eq_true]at g1;exact List.all_eq_true.1 g1.1.1
     |alloc=>exact(yi hk).elim
     |core=>rw[hk]at hm;cases hm
    have:=h3 a.1 (List.mem_reverse.2 (List.mem_map_of_mem ha))
    simp only[Bool.or_eq_true,List.contains_iff_mem]at this
    exact this.resolve_left (nU a.1 (List.mem_map_of_mem ha))
   have abo:ai.kind = .load→jG is (X.map (·.1))≤b:=fun hk=>by
    unfold oV at g1
    rw[QQ,hk]at g1
    simp only[Bool.and_eq_true,decide_eq_true_eq]at g1
    have h3:=g1.2
    have h4:(X.map (·.1)).reverse.filter (fun a=> !(gX pt q').contains a)=(X.map (·.1)).reverse:=by
     rw[List.filter_eq_self]
     intro a ha
     have:=nU a (List.mem_reverse.1 ha)
     simpa using this
    rw[h4]at h3
    unfold jG at h3 ⊢
    rw[List.filter_reverse,List.length_reverse]at h3
    exact h3
   have rY:=fun p hp=>Dq p hp (fun h=>by
    obtain⟨x,hx,WT⟩:=List.mem_map.1 h
    rw[← WT];exact eQ x hx)
   obtain⟨d,h1,_,CT⟩:=xm hK wx hm Y X bG tm s eQ abo hg
   have rX:jT ai tf s=some d:=by rw[← qK (QR fun p hp=>(rY p hp).2)];exact h1
   refine wpOp_mono (fun a' w' hr=>hK2 _ _ _ _ (hs.done hq GF) hr) ?_
   exact WO hi QO e r ht qi hn hd wz sK (Nt hm rX) CT WU (fun p hp he=>(rY p hp).1 _ he rfl)
theorem C1 {o:Oper} {j:Nat} : j∈mV o↔∃ e∈o.after,Region.binds .any e=true∧e.on=j:=by
 simp only[mV,List.mem_map,List.mem_filter,Array.mem_toList_iff]
 constructor
 ·rintro⟨e,⟨h1,h2⟩,h3⟩;exact⟨e,h1,h2,h3⟩
 ·rintro⟨e,h1,h2,h3⟩;exact⟨e,⟨h1,h2⟩,h3⟩
theorem Nx {ops:Array Oper} (xo:qS P nt ops ops.toList=some is) (Nw:xQ (ops.toList.map mV) pt is.length=true)
 (abp : ∀ i,i<is.length→∀ j∈gX (ops.toList.map mV) i,j<is.length) {Q:Exit→Tm→St→Prop} (hK : ∀ tm bx s,Tm.eqv tm bx→K tm s→K bx s)
 (hKQ : ∀ tm s act w,K tm s→Holds B nt tm s act w→pQ B nt Q .normal act w) :
 ∀ (fuel:Nat) (dv:Array Bool) (R:List (Nat×Nat)) (ej:List Pd) (act:Act) (w:World) (U:List Nat),U.length≤fuel→(∀ j,j<is.length→dv.getD j false=false→j∈U)→
  rh is (ops.toList.map mV) pt dv R ej→zf P is K B nt R ej act w→wpAny P .any ops (pQ B nt Q) fuel dv act w:=by
 obtain⟨hlen,_⟩:=Cb xo
 have sF:is.length=ops.size:=by rw[hlen];simp
 have abq : ∀ (j:Nat) (o:Oper),ops[j]? = some o→gX (ops.toList.map mV) j=mV o:=fun j o h=>by
  simp[gX,List.getD,h]
 have fin : ∀ {dv:Array Bool} {ej:List Pd} {act:Act} {w:World},zf P is K B nt [] ej act w→pQ B nt Q .normal act w:=by
  intro dv ej act w h
  obtain⟨M,s,tm,tf,bG,e,r,ht,qi,hn,hd,hg,wz,sK⟩:=h
  have Dm : ∀ p∈ej,False:=fun p hp=>by have:=(wz p hp).mem;simp at this
  exact hKQ tf s act w (hK tm tf s (fun t=>(qi t fun p hp=>(Dm p hp).elim).symm) hg) ⟨M,e,r,ht,hn,hd⟩
 have QS : ∀ {dv:Array Bool} {R:List (Nat×Nat)} {ej:List Pd} {x:Nat×Nat} {l:List (Nat×Nat)},rh is (ops.toList.map mV) pt dv R ej→R=x::l→(∀ p∈ej,p.q≠x.1)→
  x.1∈Region.ready .any ops dv:=by
  intro dv R ej x l hs hR QP
  subst hR
  have hx:=hs.lt x (by simp)
  rw[mem_ready]
  have Ek:dv.getD x.1 false=false:=by
   cases hl:dv.getD x.1 false with
   |false=>rfl
   |true=>
    rcases(hs.GD x.1 hx).1 hl with h1|⟨p,hp,uC⟩
    ·exact(h1 (by simp)).elim
    ·exact(QP p hp uC).elim
  have hxo:x.1<ops.size:=by rw[← sF];exact hx
  refine⟨by rw[sL (by rw[hs.size];exact hx)];exact Ek,ops[x.1],by simp[hxo],fun e he hb=>?_⟩
  have hm:e.on∈gX (ops.toList.map mV) x.1:=by rw[abq x.1 ops[x.1] (by simp[hxo])];exact C1.2 ⟨e,he,hb,rfl⟩
  obtain⟨_,_,_,g4,_⟩:=td (X:= []) (q:=x.1) (b:=x.2) hs.ok
  obtain⟨h1,h2⟩:=g4 _ hm
  refine(hs.GD e.on (abp x.1 hx _ hm)).2 (.inl ?_)
  simp only[List.map_cons,List.mem_cons,not_or]
  exact⟨h1,h2⟩
 intro fuel
 induction fuel with
 | zero=>
  intro dv R ej act w U hU Ek hs h
  obtain⟨R',wA,na,h',hn⟩:=norm R ej hs h
  have hUn:U = []:=List.length_eq_zero_iff.1 (by omega)
  have vr : ∀ j,j<is.length→dv.getD j false=true:=fun j hj=>by
   cases hl:dv.getD j false with
   |true=>rfl
   |false=>have:=Ek j hj hl;rw[hUn]at this;cases this
  have hR:R' = []:=by
   cases hR:R' with
   |nil=>rfl
   |cons x l=>
    have hx:=na.lt x (by simp[hR])
    have:=QS na hR (hn x l hR)
    rw[mem_ready,sL (by rw[na.size];exact hx),vr x.1 hx]at this
    cases this.1
  subst hR
  refine⟨?_,fin (dv:=dv) h'⟩
  cases hr:Region.ready .any ops dv with
  |nil=>rfl
  |cons j js=>
   have hj:j∈Region.ready .any ops dv:=by rw[hr];simp
   rw[mem_ready]at hj
   obtain⟨h1,o,ho,_⟩:=hj
   have WV:j<is.length:=by rw[sF];exact(Array.getElem?_eq_some_iff.1 ho).1
   rw[sL (by rw[hs.size];exact WV),vr j WV]at h1
   cases h1
 | succ fuel ih=>
  intro dv R ej act w U hU Ek hs h
  obtain⟨R',wA,na,h',hn⟩:=norm R ej hs h
  refine⟨fun hr=>?_,fun i hi=>?_⟩
  ·cases hR:R' with
   |nil=>subst hR;exact fin (dv:=dv) h'
   |cons x l=>
    have:=QS na hR (hn x l hR)
    rw[hr]at this
    cases this
  ·rw [mem_ready]at hi
   obtain⟨h1,o,ho,ajH⟩:=hi
   have qJ:i<is.length:=by rw[sF];exact(Array.getElem?_eq_some_iff.1 ho).1
   rw[sL (by rw[hs.size];exact qJ)]at h1
   refine Nv xo Nw hK na h' hn qJ h1 (fun j hj=>⟨abp i qJ j hj, ?_⟩) fun R2 afv a2 w2 Ae h2=>?_
   ·rw [abq i o ho]at hj
    obtain⟨e,he,hb,rfl⟩:=C1.1 hj
    exact ajH e he hb
   ·refine ih _ R2 afv a2 w2 (U.erase i) ?_ (fun j hj hl=> ?_) Ae h2
    ·have:=List.length_erase_of_mem (Ek i qJ h1)
     omega
    ·have hji:j≠i:=fun e=>by
      subst e
      have:j<dv.size:=by rw[hs.size];exact qJ
      simp[this]at hl
     rw[getD_set_ne false (Ne.symm hji)]at hl
     exact(List.mem_erase_of_ne hji).2 (Ek j hj hl)
theorem Sem.par {is:List AI} {lS:List (Nat×Nat)} {Q:Exit→Tm→St→Prop} {tm:Tm} {s:St} (h:kQ P is (Q .normal) lS [] tm s):Sem P B nt (.par is lS) Q tm s:=by
 intro c hc act w hh
 obtain⟨id,ops,rfl,hi,hm,pt,hp⟩:=lH hc
 simp only[Il,Bool.and_eq_true,List.all_eq_true,List.mem_range,List.contains_iff_mem,decide_eq_true_eq]at hp
 obtain⟨⟨⟨⟨h1,h2⟩,h3⟩,h4⟩,h5⟩:=hp
 obtain⟨hlen,_⟩:=Cb hi
 have sF:is.length=ops.size:=by rw[hlen];simp
 refine wp_region_any hm ?_
 obtain⟨M,e,r,ht,hn,hd⟩:=hh
 have key : ∀ (R:List (Nat×Nat)) (bG:List St) (tm:Tm) (s:St),kQ P is (Q .normal) R bG tm s→kQ P is (fun tm s=>∃ bx,tm.eqv bx∧Q .normal bx s) R bG tm s:=by
  intro R
  induction R with
  |nil=>intro bG tm s h;exact⟨tm,fun _=>rfl,h⟩
  | cons x R ih=>
   obtain⟨q,b⟩:=x
   intro bG tm s h
   unfold kQ at h ⊢
   split at h
   ·exact h.elim
   ·split at h
    ·obtain⟨d,s',h1,h2⟩:=h;exact⟨d,s',h1,ih _ _ _ h2⟩
    ·obtain⟨d,h1,h2,h3⟩:=h;exact⟨d,h1,h2,ih _ _ _ h3⟩
 have hg:=key _ _ _ _ h
 refine Nx (K:=fun tm s=>∃ bx,tm.eqv bx∧Q .normal bx s) hi h1 h5 (fun tm bx s he ⟨t2,h3,h4⟩=>⟨t2,fun t=>(he t).symm.trans (h3 t),h4⟩)
  (fun tm s act w ⟨t2,h3,h4⟩ ⟨M,e,r,ht,hn,hd⟩=>⟨t2,s,h4,M,e,r,fun t=>by rw[← h3 t];exact ht t,hn,hd⟩) ops.size _ lS [] act _ (List.range is.length) (by simp[sF]) (fun j hj _=>by simpa using hj)
  ⟨h2,fun i hi=>?_,fun i hi hl=>?_,by simp[sF],h4⟩ ⟨M,s,tm,tm,[],⟨e.le,e.kept,e.tH,e.qo,e.sb,e.size,e.os,e.tape,e.output⟩,r.of_heap rfl,ht,fun _ _=>rfl,hn,hd,hg,by simp,by simp⟩
 ·have:i<ops.size:=by rw [← sF];exact hi
  have h6:=h3 i hi
  simp only[List.not_mem_nil,false_and,exists_false,or_false]
  rw[show(Array.replicate ops.size false).getD i false=false by simp[this]]
  simp[h6]
 ·have:i<ops.size:=by rw [← sF];exact hi
  rw[show(Array.replicate ops.size false).getD i false=false by simp[this]]at hl
  cases hl
end
end Go.Abs
namespace Go.Abs
theorem Yy (k:IntKind) (n:Int):D.row (.int k n)=some [.int k n]:=rfl
theorem TO (b:Bool):D.row (.bool b)=some [.bool b]:=rfl
theorem Yz (l:List UInt8):D.row (.str l)=some [.str l]:=rfl
theorem TP:D.row .dR=some [.dR]:=rfl
theorem YA (o f:Nat):D.row (.ptr o f)=some [.ptr o f]:=rfl
theorem TQ (r:List D) (f:Nat):D.row (.dA r f)=some [.dA r f]:=rfl
theorem QT (g:Tag) (z:Nat) (r:List (List D)):D.row (.slice g z r)=some [.slice g z r]:=rfl
theorem YB (cs:List D):D.row (.agg cs)=some cs:=rfl
theorem YC (v:Value):D.row (.val v)=some [.val v]:=rfl
theorem QU (T:TypeId) (o:Nat):D.row (.fq T o)=some [.fq T o]:=rfl
theorem YD (f:Nat) (cs:List D):D.row (.gd f cs)=some [.gd f cs]:=rfl
theorem TR (o:Nat):D.row (.fP o)=some [.fP o]:=rfl
theorem TS (w:Bool):Tag.cut .full w=if w then .full else .shared:=rfl
theorem Ny (w:Bool):Tag.cut .shared w = .shared:=rfl
theorem TT (t:Nat) (y:Bool) (w:Bool):Tag.cut (.tok t y) w = .tok t y:=rfl
section
variable {P:Program}
def KC (P:Program) (r:List AI) (K:Tm→St→Prop) (tm:Tm) (dst:Option Nat) (d:D) (s:St):Prop:=iY P r K (tm.put dst d) s
def GI (P:Program) (g:D) (want:Bool) (i:AI) (r:List AI) (K:Tm→St→Prop) (tm:Tm) (s:St):Prop:=
 match g with
 | .bool b=>(b=want→iY P (i::r) K tm s)∧(b=(!want)→iY P r K (tm.put i.dst (.tuple [])) s)
 | .tuple _=>iY P r K (tm.put i.dst (.tuple [])) s
 |_=>False
def NI (P:Program) (dst:Option Nat) (neg:Bool) (x:D) (r:List AI) (K:Tm→St→Prop) (tm:Tm) (s:St):Prop:=
 match x with
 | .slice _ _ rows=>∀ b:Bool,(rows≠ []→b=false)→iY P r K (tm.put dst (.bool (if neg then !b else b))) s
 |_=>False
def uO (d:D) (A C:Prop):Prop:=
 match d with
 | .bool b=>(b=true→A)∧(b=false→C)
 |_=>False
theorem Sem.afw {B:fU} {nt:Nat} {Q:Exit→Tm→St→Prop} {tm:Tm} {s:St} {x:X} {a b:AC} (h:uO (x.ev tm) (Sem P B nt a Q tm s) (Sem P B nt b Q tm s)):Sem P B nt (.cond x a b) Q tm s:=by
 unfold uO at h
 split at h
 ·rename_i t ht
  exact Sem.cond ht h.1 h.2
 ·exact h.elim
def gK (P:Program) (K:Tm→St→Prop):List (AI×Nat)→List St→Tm→St→Prop
 | [],_,tm,s=>K tm s
 |(ai,b)::r,bG,tm,s=>
  match gI ai.kind with
  |true=>∃ d s',sH P ai tm s d s'∧gK P K r (s::bG) (tm.put ai.dst d) s'
  |false=>∃ d,jT ai tm s=some d∧(ai.kind = .load→∀ s'∈bG.take b,jT ai tm s'=some d)∧gK P K r bG (tm.put ai.dst d) s
def ng (is:List AI):List (Nat×Nat)→Option (List (AI×Nat))
 | []=>some []
 |(q,b)::r=>match is[q]?,ng is r with
  |some ai,some l=>some ((ai,b)::l)
  |_,_=>none
theorem FH {is:List AI} {K:Tm→St→Prop} : ∀ {lS:List (Nat×Nat)} {items:List (AI×Nat)} {bG:List St} {tm:Tm} {s:St},ng is lS=some items→gK P K items bG tm s→kQ P is K lS bG tm s
 | [],items,bG,tm,s,h,g=>by cases h;exact g
 | (q,b)::r,items,bG,tm,s,h,g=>by
  simp only[ng]at h
  split at h
  ·rename_i ai l h1 h2
   cases h
   simp only[gK]at g
   simp only[kQ,h1]
   split at g
   ·rename_i hk
    obtain⟨d,s',g1,g2⟩:=g
    try simp only[hk]
    exact⟨d,s',g1,FH h2 g2⟩
   ·rename_i hk
    obtain⟨d,g1,g2,g3⟩:=g
    try simp only[hk]
    exact⟨d,g1,g2,FH h2 g3⟩
  ·cases h
theorem Sem.ajI {B:fU} {nt:Nat} {Q:Exit→Tm→St→Prop} {tm:Tm} {s:St} {is:List AI} {lS:List (Nat×Nat)} {items:List (AI×Nat)} (hi:ng is lS=some items) (h:gK P (Q .normal) items [] tm s):Sem P B nt (.par is lS) Q tm s:=
 Sem.par (FH hi h)
def AI.free:AI→AI
 | .op d _ o=> .op d none o
 | .call d _ f xs=> .call d none f xs
 | .nil d _ n x=> .nil d none n x
 | .jt d _ t xs=> .jt d none t xs
def GL (P:Program) (g:D) (want:Bool) (i:AI) (b:Nat) (r:List (AI×Nat)) (K:Tm→St→Prop) (bG:List St) (tm:Tm) (s:St):Prop:=
 match g with
 | .bool v=>(v=want→gK P K ((i,b)::r) bG tm s)∧(v=(!want)→gK P K r (if gI i.kind then s::bG else bG) (tm.put i.dst (.tuple [])) s)
 | .tuple _=>gK P K r (if gI i.kind then s::bG else bG) (tm.put i.dst (.tuple [])) s
 |_=>False
def CL (one:Bool) (P:Program) (f:Nat) (args:List D) (s:St) (K:D→St→Prop):Prop:=
 match one with
 |true=>∃ d s',aF P f args s d s'∧K d s'
 |false=>bM P f args s K
def KL (P:Program) (K:Tm→St→Prop) (r:List (AI×Nat)) (bG:List St) (tm:Tm) (dst:Option Nat) (d:D) (s:St):Prop:=gK P K r bG (tm.put dst d) s
def od (i:AI) (tm:Tm) (d:D):List St→Prop
 | []=>True
 |s::r=>jT i tm s=some d∧od i tm d r
theorem El {i:AI} {tm:Tm} {d:D} : ∀ {l:List St},od i tm d l→∀ s∈l,jT i tm s=some d
 | [],_,s,h=>by cases h
 |a::l,h,s,hs=>by
  rcases List.mem_cons.1 hs with rfl|hs
  ·exact h.1
  ·exact El h.2 s hs
def PL (P:Program) (o:AO) (dst:Option Nat) (b:Nat) (r:List (AI×Nat)) (K:Tm→St→Prop) (bG:List St) (tm:Tm) (s:St):Prop:=
 match aJ o tm s with
 |some (d,_)=>od (.op dst none o) tm d (bG.take b)∧gK P K r bG (tm.put dst d) s
 |none=>False
def ML (P:Program) (o:AO) (dst:Option Nat) (r:List (AI×Nat)) (K:Tm→St→Prop) (bG:List St) (tm:Tm) (s:St):Prop:=
 match aJ o tm s with
 |some (d,s')=>gK P K r (s::bG) (tm.put dst d) s'
 |none=>False
def AO.core:AO→Bool
 | .alloc _=>true
 | .box _=>true
 | .u9 .. =>true
 | .AN _=>true
 | .store .. =>true
 | .app .. =>true
 | .sV .. =>true
 | .AQ .. =>true
 | .AR .. =>true
 | .apps .. =>true
 | .uL=>true
 | .yN .. =>true
 | .AS .. =>true
 |_=>false
theorem tj (dst:Option Nat) (g:Option (Nat×Bool)) (o:AO):gI (AI.op dst g o).kind=o.core:=by
 cases dst<;>cases g<;>cases o<;>rfl
def OL (P:Program) (o:AO) (dst:Option Nat) (b:Nat) (r:List (AI×Nat)) (K:Tm→St→Prop) (bG:List St) (tm:Tm) (s:St):Prop:=
 match o.core with
 |true=>ML P o dst r K bG tm s
 |false=>PL P o dst b r K bG tm s
theorem I1 {K:Tm→St→Prop} {dst:Option Nat} {o:AO} {b:Nat} {r:List (AI×Nat)} {bG:List St} {tm:Tm} {s:St} (h:OL P o dst b r K bG tm s) :
 gK P K ((.op dst none o,b)::r) bG tm s:=by
 unfold OL at h
 simp only[gK,tj]
 cases hc:o.core with
 | true=>
  simp only[hc,ML]at h
  simp only[]
  split at h
  ·rename_i d s' he
   exact⟨d,s',by simpa[sH,guarded]using he,h⟩
  ·exact h.elim
 | false=>
  simp only[hc,PL]at h
  simp only[]
  split at h
  ·rename_i d s' he
   exact⟨d,by simp[jT,he],fun _=>El h.1,h.2⟩
  ·exact h.elim
theorem Nz {K:Tm→St→Prop} {dst:Option Nat} {f:Nat} {xs:List X} {b:Nat} {r:List (AI×Nat)} {bG:List St} {tm:Tm} {s:St} (h:CL true P f (xs.map (·.ev tm)) s (KL P K r (s::bG) tm dst)) :
 gK P K ((.call dst none f xs,b)::r) bG tm s:=by
 obtain⟨d,s',h1,h2⟩:=h
 exact⟨d,s',h1,h2⟩
theorem abr {K:Tm→St→Prop} {i:AI} {t:Nat} {w:Bool} {b:Nat} {r:List (AI×Nat)} {bG:List St} {tm:Tm} {s:St} {j:AI} (hf:(∃ d o,i = .op d none o∧j = .op d (some (t,w)) o)∨(∃ d f xs,i = .call d none f xs∧j = .call d (some (t,w)) f xs))
 (hg:tm.get t = .bool w) (h:gK P K ((i,b)::r) bG tm s):gK P K ((j,b)::r) bG tm s:=by
 rcases hf with ⟨d,o,rfl,rfl⟩|⟨d,f,xs,rfl,rfl⟩
 ·simp only [gK,tj]at h ⊢
  cases hc:o.core<;>simp only[hc]at h ⊢
  ·obtain⟨x,h1,h2,h3⟩:=h
   refine⟨x,by simpa[jT,hg]using h1,fun hk s' na=>?_,h3⟩
   have uv:(AI.op d none o).kind = .load:=by
    cases d<;>cases o<;>first|exact hk|(cases hc;done)|(cases hk;done)
   simpa[jT,hg]using h2 uv s' na
  ·obtain⟨x,s',h1,h2⟩:=h
   exact⟨x,s',by simpa[sH,guarded,hg]using h1,h2⟩
 ·obtain⟨x,s',h1,h2⟩:=h
  exact⟨x,s',by simpa[sH,guarded,hg]using h1,h2⟩
theorem QV {K:Tm→St→Prop} {i:AI} {t:Nat} {w:Bool} {b:Nat} {r:List (AI×Nat)} {bG:List St} {tm:Tm} {s:St} {j:AI} (hf:(∃ d o,i = .op d none o∧j = .op d (some (t,w)) o)∨(∃ d f xs,i = .call d none f xs∧j = .call d (some (t,w)) f xs))
 (hg:tm.get t = .bool (!w)∨∃ l,tm.get t = .tuple l) (h:gK P K r (if gI i.kind then s::bG else bG) (tm.put i.dst (.tuple [])) s):gK P K ((j,b)::r) bG tm s:=by
 rcases hf with ⟨d,o,rfl,rfl⟩|⟨d,f,xs,rfl,rfl⟩
 ·simp only [gK,tj]at h ⊢
  cases hc:o.core<;>simp only[hc]at h ⊢
  ·refine⟨.tuple [], ?_,fun hk s' na=> ?_,h⟩
   ·rcases hg with hg|⟨l,hg⟩<;>simp[jT,hg]
   ·rcases hg with hg|⟨l,hg⟩<;>simp[jT,hg]
  ·refine⟨.tuple [],s, ?_,h⟩
   rcases hg with hg|⟨l,hg⟩<;>simp[sH,guarded,hg]
 ·refine⟨.tuple [],s, ?_,h⟩
  rcases hg with hg|⟨l,hg⟩<;>simp[sH,guarded,hg]
theorem LM {K:Tm→St→Prop} {i j:AI} {t:Nat} {w:Bool} {b:Nat} {r:List (AI×Nat)} {bG:List St} {tm:Tm} {s:St} (hf:(∃ d o,i = .op d none o∧j = .op d (some (t,w)) o)∨(∃ d f xs,i = .call d none f xs∧j = .call d (some (t,w)) f xs))
 (h:GL P (tm.get t) w i b r K bG tm s):gK P K ((j,b)::r) bG tm s:=by
 unfold GL at h
 split at h
 ·rename_i v hv
  by_cases e:v=w
  ·exact abr hf (by rw[hv,e]) (h.1 e)
  ·exact QV hf (.inl (by rw[hv];cases v<;>cases w<;>simp_all)) (h.2 (by cases v<;>cases w<;>simp_all))
 ·rename_i l hl
  exact QV hf (.inr ⟨l,hl⟩) h
 ·exact h.elim
theorem GG {K:Tm→St→Prop} {dst:Option Nat} {o:AO} {t:Nat} {w:Bool} {b:Nat} {r:List (AI×Nat)} {bG:List St} {tm:Tm} {s:St} (h:GL P (tm.get t) w (.op dst none o) b r K bG tm s) :
 gK P K ((.op dst (some (t,w)) o,b)::r) bG tm s:=LM (.inl ⟨dst,o,rfl,rfl⟩) h
theorem KX {K:Tm→St→Prop} {dst:Option Nat} {f:Nat} {xs:List X} {t:Nat} {w:Bool} {b:Nat} {r:List (AI×Nat)} {bG:List St} {tm:Tm} {s:St} (h:GL P (tm.get t) w (.call dst none f xs) b r K bG tm s) :
 gK P K ((.call dst (some (t,w)) f xs,b)::r) bG tm s:=LM (.inr ⟨dst,f,xs,rfl,rfl⟩) h
theorem CL.use {one:Bool} {f:Nat} {args:List D} {s:St} {d:D} {s':St} {K:D→St→Prop} (h:aF P f args s d s') (hk:K d s'):CL one P f args s K:=
 match one with
 |true=>⟨d,s',h,hk⟩
 |false=>h.use hk
theorem CU {one:Bool} {f:Nat} {args:List D} {s:St} {d:D} {s':St} {K:D→St→Prop} (h:aF P f args s d s') (hk:K d s'):CL one P f args s K:=CL.use h hk
theorem CR {f:Nat} {args:List D} {s:St} {Q K:D→St→Prop} (h:bM P f args s Q) (hk : ∀ d s',Q d s'→K d s'):CL false P f args s K:=bM.mono h hk
end
end Go.Abs
namespace Go.Abs
theorem nd {α:Type} {a b:α} (h:a=b):a=b:=h
def GJ (g:D) (w:Bool) (A C:Prop):Prop:=
 match g with
 | .bool b=>(b=w→A)∧(b=(!w)→C)
 | .tuple _=>C
 |_=>False
class Two where
 a:Prop
 c:Prop
def CB (d:D) [b:Two] : Prop:=uO d b.a b.c
def GB (d:D) (w:Bool) [b:Two] : Prop:=GJ d w b.a b.c
def nh (g:Option (Nat×Bool)) (tm:Tm) (A C:Prop):Prop:=
 match g with
 |none=>A
 |some (t,w)=>GJ (tm.get t) w A C
def kp (P:Program):List AI→(Tm→St→Prop)→Tm→St→Prop
 | [],K,tm,s=>K tm s
 | .op dst g o::r,K,tm,s=>nh g tm (match aJ o tm s with|some (d,s')=>kp P r K (tm.put dst d) s'|none=>False) (kp P r K (tm.put dst (.tuple [])) s)
 | .call dst g f xs::r,K,tm,s=>nh g tm (CL false P f (xs.map (·.ev tm)) s fun d s'=>kp P r K (tm.put dst d) s') (kp P r K (tm.put dst (.tuple [])) s)
 | .nil dst g neg x::r,K,tm,s=>
  nh g tm (match x.ev tm with
   | .slice _ _ rows=>∀ b:Bool,(rows≠ []→b=false)→kp P r K (tm.put dst (.bool (if neg then !b else b))) s
   |_=>False) (kp P r K (tm.put dst (.tuple [])) s)
 | .jt dst g t xs::r,K,tm,s=>
  nh g tm (match tm.get t with
   | .gd f nN=>enters P f=true∧CL false P f (xs.map (·.ev tm)++nN) s fun d s'=>kp P r K (tm.put dst d) s'
   |_=>False) (kp P r K (tm.put dst (.tuple [])) s)
theorem sM {g:Option (Nat×Bool)} {tm:Tm} {A C A' C':Prop} (h:nh g tm A C) (ha:A→A') (hc:C→C'):guarded g tm A' C':=by
 unfold nh at h
 unfold guarded
 cases g with
 |none=>exact ha h
 | some p=>
  obtain⟨t,w⟩:=p
  simp only[GJ]at h ⊢
  split at h
  ·rename_i hb;try simp only [hb]
   exact⟨fun e=>ha (h.1 e),fun e=>hc (h.2 e)⟩
  ·rename_i hb;try simp only [hb]
   exact hc h
  ·exact h.elim
theorem oq {P:Program} {K:Tm→St→Prop} : ∀ {is:List AI} {tm:Tm} {s:St},kp P is K tm s→iY P is K tm s
 | [],tm,s,h=>h
 | .op dst g o::r,tm,s,h=>by
  refine sM h (fun h=>?_) oq
  split at h
  ·rename_i he;try simp only [he]
   exact oq h
  ·exact h.elim
 | .call dst g f xs::r,tm,s,h=>sM h (fun h=>bM.mono h fun _ _ h=>oq h) oq
 | .nil dst g neg x::r,tm,s,h=>by
  refine sM h (fun h=>?_) oq
  split at h
  ·rename_i he;try simp only [he]
   exact fun b hb=>oq (h b hb)
  ·exact h.elim
 | .jt dst g t xs::r,tm,s,h=>by
  refine sM h (fun h=>?_) oq
  split at h
  ·rename_i he;try simp only [he]
   exact⟨h.1,bM.mono h.2 fun _ _ h=>oq h⟩
  ·exact h.elim
def gk (P:Program) (K:Tm→St→Prop):List (AI×Nat)→List St→Tm→St→Prop
 | [],_,tm,s=>K tm s
 |(.op dst g o,b)::r,bG,tm,s=>
  match o.core with
  |true=>nh g tm (match aJ o tm s with|some (d,s')=>gk P K r (s::bG) (tm.put dst d) s'|none=>False) (gk P K r (s::bG) (tm.put dst (.tuple [])) s)
  |false=>nh g tm (match aJ o tm s with|some (d,_)=>od (.op dst none o) tm d (bG.take b)∧gk P K r bG (tm.put dst d) s|none=>False) (gk P K r bG (tm.put dst (.tuple [])) s)
 |(.call dst g f xs,_)::r,bG,tm,s=>nh g tm (CL true P f (xs.map (·.ev tm)) s fun d s'=>gk P K r (s::bG) (tm.put dst d) s') (gk P K r (s::bG) (tm.put dst (.tuple [])) s)
 |(.nil ..,_)::_,_,_,_=>False
 |(.jt ..,_)::_,_,_,_=>False
theorem Bl {P:Program} {t:Nat} {w:Bool} {tm:Tm} {i:AI} {b:Nat} {r:List (AI×Nat)} {K:Tm→St→Prop} {bG:List St} {s:St} {A C:Prop} (h:nh (some (t,w)) tm A C) (ha:A→gK P K ((i,b)::r) bG tm s)
 (hc:C→gK P K r (if gI i.kind then s::bG else bG) (tm.put i.dst (.tuple [])) s):GL P (tm.get t) w i b r K bG tm s:=by
 simp only[nh,GJ]at h
 unfold GL
 split at h
 ·rename_i hb;try simp only [hb]
  exact⟨fun e=>ha (h.1 e),fun e=>hc (h.2 e)⟩
 ·rename_i hb;try simp only [hb]
  exact hc h
 ·exact h.elim
theorem mF {P:Program} {K:Tm→St→Prop} : ∀ {l:List (AI×Nat)} {bG:List St} {tm:Tm} {s:St},gk P K l bG tm s→gK P K l bG tm s
 | [],bG,tm,s,h=>h
 | (.op dst g o,b)::r,bG,tm,s,h=>by
  simp only[gk]at h
  cases hc:o.core with
  | true=>
   simp only[hc]at h
   have ha:(match aJ o tm s with|some (d,s')=>gk P K r (s::bG) (tm.put dst d) s'|none=>False)→gK P K ((.op dst none o,b)::r) bG tm s:=by
    intro h
    refine I1 ?_
    simp only[OL,hc,ML]
    split at h
    ·rename_i he;try simp only [he]
     exact mF h
    ·exact h.elim
   cases g with
   |none=>exact ha h
   |some p=>
    obtain⟨t,w⟩:=p
    refine GG (Bl h ha fun h=>?_)
    simp only[tj,hc,if_true]
    exact mF h
  | false=>
   simp only[hc]at h
   have ha:(match aJ o tm s with|some (d,_)=>od (.op dst none o) tm d (bG.take b)∧gk P K r bG (tm.put dst d) s|none=>False)→gK P K ((.op dst none o,b)::r) bG tm s:=by
    intro h
    refine I1 ?_
    simp only[OL,hc,PL]
    split at h
    ·rename_i he;try simp only [he]
     exact⟨h.1,mF h.2⟩
    ·exact h.elim
   cases g with
   |none=>exact ha h
   |some p=>
    obtain⟨t,w⟩:=p
    refine GG (Bl h ha fun h=>?_)
    simp only[tj,hc]
    exact mF h
 | (.call dst g f xs,b)::r,bG,tm,s,h=>by
  simp only[gk]at h
  have ha:(CL true P f (xs.map (·.ev tm)) s fun d s'=>gk P K r (s::bG) (tm.put dst d) s')→gK P K ((.call dst none f xs,b)::r) bG tm s:=
   fun⟨d,s',h1,h2⟩=>Nz ⟨d,s',h1,mF h2⟩
  cases g with
  |none=>exact ha h
  |some p=>
   obtain⟨t,w⟩:=p
   exact KX (Bl h ha fun h=>mF h)
 |(.nil ..,_)::_,bG,tm,s,h=>h.elim
 |(.jt ..,_)::_,bG,tm,s,h=>h.elim
section
variable {P:Program} {B:fU} {nt:Nat}
def kb (P:Program) (B:fU) (nt:Nat):AC→(Exit→Tm→St→Prop)→Tm→St→Prop
 | .skip,Q,tm,s=>Q .normal tm s
 | .run is,Q,tm,s=>kp P is (Q .normal) tm s
 | .par is lS,Q,tm,s=>match ng is lS with|some l=>gk P (Q .normal) l [] tm s|none=>False
 | .seq a b,Q,tm,s=>kb P B nt a (nR (kb P B nt b Q) Q) tm s
 | .cond x a b,Q,tm,s=>uO (x.ev tm) (kb P B nt a Q tm s) (kb P B nt b Q tm s)
 | .block id a,Q,tm,s=>kb P B nt a (kB id Q) tm s
 | .loop a,Q,tm,s=>bt P B nt a Q tm s
 | .exit id,Q,tm,s=>Q (.exit id) tm s
 | .scope a,Q,tm,s=>lI P B nt a a Q tm s
 | .label _,Q,tm,s=>Q .normal tm s
 | .goto l,Q,tm,s=>Q (.goto l) tm s
 | .ret,Q,tm,s=>Q .ret tm s
theorem iG : ∀ {ac:AC} {Q:Exit→Tm→St→Prop} {tm:Tm} {s:St},kb P B nt ac Q tm s→Sem P B nt ac Q tm s:=by
 intro ac
 induction ac with
 |skip=>exact fun h=>Sem.skip h
 |run is=>exact fun h=>Sem.run (oq h)
 |par is lS=>
  intro Q tm s h
  simp only[kb]at h
  split at h
  ·exact Sem.ajI ‹_› (mF h)
  ·exact h.elim
 |seq a b QD QE=>
  intro Q tm s h
  refine Sem.seq ((QD h).mono fun e tm s hq=>?_)
  cases e with
  |normal=>exact QE hq
  |_=>exact hq
 |cond x a b QD QE=>
  intro Q tm s h
  refine Sem.afw ?_
  simp only[kb]at h
  unfold uO at h ⊢
  split at h
  ·exact⟨fun e=>QD (h.1 e),fun e=>QE (h.2 e)⟩
  ·exact h.elim
 |block id a ih=>exact fun h=>Sem.block (ih h)
 |loop a ih=>exact fun h=>Sem.loop h
 |exit id=>exact fun h=>Sem.exit h
 |scope a ih=>exact fun h=>Sem.scope h
 |label l=>exact fun h=>Sem.label h
 |goto l=>exact fun h=>Sem.goto h
 |ret=>exact fun h=>Sem.ret h
section
variable (Q:Exit→Tm→St→Prop) (N:Tm→St→Prop) (tm:Tm) (s:St) (a b:AC) (is:List AI) (x:X)
theorem TU:kb P B nt .skip Q tm s=Q .normal tm s:=nd rfl
theorem YF:kb P B nt (.run is) Q tm s=kp P is (Q .normal) tm s:=nd rfl
theorem YG (lS:List (Nat×Nat)):kb P B nt (.par is lS) Q tm s=match ng is lS with|some l=>gk P (Q .normal) l [] tm s|none=>False:=nd rfl
theorem YH:kb P B nt (.seq a b) Q tm s=kb P B nt a (nR (kb P B nt b Q) Q) tm s:=nd rfl
theorem TV:kb P B nt (.cond x a b) Q tm s = @CB (x.ev tm) ⟨kb P B nt a Q tm s,kb P B nt b Q tm s⟩:=nd rfl
theorem QW (id:Nat):kb P B nt (.block id a) Q tm s=kb P B nt a (kB id Q) tm s:=nd rfl
theorem TW:kb P B nt (.loop a) Q tm s=bt P B nt a Q tm s:=nd rfl
theorem QX:kb P B nt (.scope a) Q tm s=lI P B nt a a Q tm s:=nd rfl
theorem TX (id:Nat):kb P B nt (.exit id) Q tm s=Q (.exit id) tm s:=nd rfl
theorem QY (id:Nat):kb P B nt (.label id) Q tm s=Q .normal tm s:=nd rfl
theorem TY (id:Nat):kb P B nt (.goto id) Q tm s=Q (.goto id) tm s:=nd rfl
theorem YI:kb P B nt .ret Q tm s=Q .ret tm s:=nd rfl
theorem YJ:nR N Q .normal tm s=N tm s:=nd rfl
theorem YK:nR N Q .ret tm s=Q .ret tm s:=nd rfl
theorem YL (id:Nat):nR N Q (.exit id) tm s=Q (.exit id) tm s:=nd rfl
theorem YM (id:Nat):nR N Q (.goto id) tm s=Q (.goto id) tm s:=nd rfl
theorem T1 (id:Nat):kB id Q .normal tm s=Q .normal tm s:=nd rfl
theorem T2 (id:Nat):kB id Q .ret tm s=Q .ret tm s:=nd rfl
theorem T3 (id l:Nat):kB id Q (.goto l) tm s=Q (.goto l) tm s:=nd rfl
theorem T4 (id i:Nat):kB id Q (.exit i) tm s=if i=id then Q .normal tm s else Q (.exit i) tm s:=nd rfl
end
theorem bt.kR {a:AC} {Q:Exit→Tm→St→Prop} {tm:Tm} {s:St} (h:kb P B nt a (nR (bt P B nt a Q) Q) tm s):bt P B nt a Q tm s:=bt.once (iG h)
theorem lI.kR {a r:AC} {Q:Exit→Tm→St→Prop} {tm:Tm} {s:St} (h:kb P B nt r (zc P B nt a Q) tm s):lI P B nt a r Q tm s:=lI.once (iG h)
def wB (tm:Tm) (n m:Nat):Tm→Prop
 | []=>True
 |(k,d)::r=>Wk ((tm.get k).fg n m) d∧wB tm n m r
theorem wB.get {tm:Tm} {n m:Nat} : ∀ {bx:Tm},wB tm n m bx→∀ t,Wk ((tm.get t).fg n m) (bx.get t)
 | [],_,t=>Wk.junk _
 |(k,d)::r,h,t=>by
  simp only[Tm.get]
  split
  ·rename_i hk;subst hk;exact h.1
  ·exact wB.get h.2 t
theorem Holds.re {Q:Exit→Tm→St→Prop} {tm bx:Tm} {s:St} {gn:List (List D)} {act:Act} {w:World} (n m:Nat) (hn:B.s.ah.length≤n) (hm:B.s.aw.length≤m) (ht:wB tm n m bx) (ho:gD (s.cut n m).ah gn)
 (h:Holds B nt tm s act w):Holds B nt bx ⟨gn,(s.cut n m).aw⟩ act w:=by
 obtain⟨M,e,r,hr,h1,h2⟩:=h
 obtain⟨r',le⟩:=(r.cut n m).qu ho
 have e':=e.cut hn hm
 refine⟨M,e'.trans ⟨le,fun _ _ _ _=>rfl,fun o h1 h2=>?_,fun t b c z hl e=> .inl ⟨hl,c,z,e⟩,fun _ _ h=>(h rfl).elim,Nat.le_refl _,rfl,rfl,rfl⟩,r',fun k=>((ht.get k) _ _ _ ((hr k).fg n m)).mono le,h1,h2⟩
 rw[← ho.len]at h2
 exact h1.elim (fun h1=>absurd h2 (Nat.not_lt.2 h1)) fun h1=>(h1 rfl).elim
theorem bt.re {a:AC} {Q:Exit→Tm→St→Prop} {tm:Tm} {s:St} (bx:Tm) (gn:List (List D)) (n m:Nat) (hn:B.s.ah.length≤n) (hm:B.s.aw.length≤m) (ht:wB tm n m bx) (ho:gD (s.cut n m).ah gn)
 (h:bt P B nt a Q bx ⟨gn,(s.cut n m).aw⟩):bt P B nt a Q tm s:=
 fun c hc act w hh=>h c hc act w (hh.re (Q:=Q) n m hn hm ht ho)
theorem bt.ind {ι:Type} {a:AC} {Q:Exit→Tm→St→Prop} (I:ι→Prop) (μ:ι→Nat) (TM:ι→Tm) (ST:ι→St)
 (step : ∀ i,I i→(∀ j,I j→μ j<μ i→bt P B nt a Q (TM j) (ST j))→kb P B nt a (nR (bt P B nt a Q) Q) (TM i) (ST i)) : ∀ i,I i→bt P B nt a Q (TM i) (ST i):=by
 have key : ∀ n i,μ i<n→I i→bt P B nt a Q (TM i) (ST i):=by
  intro n
  induction n with
  |zero=>intro i h;exact absurd h (Nat.not_lt_zero _)
  |succ n ih=>exact fun i h hi=>bt.kR (step i hi fun j hj hD=>ih j (by omega) hj)
 exact fun i hi=>key (μ i+1) i (Nat.lt_succ_self _) hi
theorem drop_cons {α:Type} {l rest:List α} {k:Nat} {x:α} (h:l.drop k=x::rest):l[k]? = some x∧l.drop (k+1)=rest∧decide ((k:Int)<(l.length:Int))=true∧k<l.length:=by
 have h1:l[k]? = some x:=by
  have:(l.drop k)[0]? = some x:=by rw[h];rfl
  simpa using this
 have h2:=(List.getElem?_eq_some_iff.1 h1).1
 refine⟨h1, ?_,by simpa using h2,h2⟩
 have:l.drop (k+1)=(l.drop k).drop 1:=by rw[List.drop_drop]
 rw[this,h];rfl
theorem drop_nil {α:Type} {l:List α} {k:Nat} (h:l.drop k = []):decide ((k:Int)<(l.length:Int))=false:=by
 have:=List.drop_eq_nil_iff.1 h
 simp;omega
theorem bt.sm {a:AC} {Q:Exit→Tm→St→Prop} {tm:Tm} {s:St} (t z':Nat) {z:Nat} (hw:tm.get t = .slice .full z [])
 (h:bt P B nt a Q (tm.set t (.slice (.tok s.aw.length) z' [])) {s with aw:=s.aw++ [some 0]}):bt P B nt a Q tm s:=by
 intro c hc act w ⟨M,e,r,ht,h1,h2⟩
 obtain⟨r',le⟩:=r.blank
 refine h c hc act w ⟨_,Gz e le,r',fun k=>?_,h1,h2⟩
 rw[Tm.Fy]
 split
 ·rename_i hk;subst hk;have:=ht k;rw[hw]at this;exact this.own
 ·exact(ht k).mono le
theorem bt.Ds {a:AC} {Q:Exit→Tm→St→Prop} {tm:Tm} {s:St} (o i z':Nat) {z:Nat} {cs:List D} (hc:s.ah[o]? = some cs) (hi:cs[i]? = some (.slice .full z []))
 (h:bt P B nt a Q tm ⟨s.ah.set o (cs.set i (.slice (.tok s.aw.length) z' [])),s.aw++ [some 0]⟩):bt P B nt a Q tm s:=by
 intro c hcc act w hh
 obtain⟨M,e,r,ht,h1,h2⟩:=hh
 obtain⟨r',le⟩:=r.blank
 have le':Le M s (M.e7 s.aw.length none) ⟨s.ah.set o (cs.set i (.slice (.tok s.aw.length) z' [])),s.aw++ [some 0]⟩:=⟨le.G,by simp,le.loc,le.t,le.tk⟩
 have le2:Le (M.e7 s.aw.length none) {s with aw:=s.aw++ [some 0]} (M.e7 s.aw.length none) ⟨s.ah.set o (cs.set i (.slice (.tok s.aw.length) z' [])),s.aw++ [some 0]⟩:=
  ⟨fun _ _ _ h=>h,by simp,fun _ _=> .refl _,Nat.le_refl _,fun t n' _ e=>⟨n',e,Nat.le_refl _,fun _=>rfl⟩⟩
 have r2:Rel (M.e7 s.aw.length none) ⟨s.ah.set o (cs.set i (.slice (.tok s.aw.length) z' [])),s.aw++ [some 0]⟩ w:=by
  refine⟨r'.comm,fun o' ds e=>?_,fun o ho=>r'.jL o (by simpa using ho),fun o o' ho nK=>r'.inj o o' (by simpa using ho) (by simpa using nK),r'.tok,
   fun t b c z o hv e ho=>r'.fh t b c z o hv e (by simpa using ho),r'.fQ⟩
  simp only[List.getElem?_set]at e
  split at e
  ·rename_i ho
   subst ho
   split at e
   ·cases e
    obtain⟨vs,T,g1,g2,g3,g4⟩:=r.obj o cs hc
    refine⟨vs,T,g1,by simpa using g2,g3,fun j d v e1 e2=>?_⟩
    rw[List.getElem?_set]at e1
    split at e1
    ·rename_i hj
     subst hj
     split at e1
     ·cases e1
      exact((g4 i _ v hi e2).own (z':=z')).mono le2
     ·cases e1
    ·exact(g4 j d v e1 e2).mono le'
   ·cases e
  ·obtain⟨vs,T,g1,g2,g3,g4⟩:=r'.obj o' ds e
   exact⟨vs,T,g1,g2,g3,fun i d v e1 e2=>(g4 i d v e1 e2).mono le2⟩
 have ee:Ext B.M B.s B.w (M.e7 s.aw.length none) ⟨s.ah.set o (cs.set i (.slice (.tok s.aw.length) z' [])),s.aw++ [some 0]⟩ w:=by
  refine(Gz e le).trans ⟨le2,fun _ _ _ _=>rfl,fun o h1 h2=>?_,fun t b c z hl e=> .inl ⟨hl,c,z,e⟩,fun _ _ h=>(h rfl).elim,Nat.le_refl _,rfl,rfl,rfl⟩
  simp at h2
  exact h1.elim (fun h1=>absurd h2 (Nat.not_lt.2 h1)) fun h1=>(h1 rfl).elim
 exact h c hcc act w ⟨_,ee,r2,fun k=>(ht k).mono le',h1,h2⟩
theorem Dt {ac r:AC} {l:Nat} {Q:Exit→Tm→St→Prop} {tm:Tm} {s:St} (hf:uN ac l=some r) (h:lI P B nt ac r Q tm s):zc P B nt ac Q (.goto l) tm s:=⟨r,hf,h⟩
theorem Sem.ni {a b:AC} {Q:Exit→Tm→St→Prop} {tm:Tm} {s:St} (h:kb P B nt a (nR (Sem P B nt b Q) Q) tm s):Sem P B nt (.seq a b) Q tm s:=Sem.seq (iG h)
theorem Sem.re {a:AC} {Q:Exit→Tm→St→Prop} {tm:Tm} {s:St} (bx:Tm) (gn:List (List D)) (n m:Nat) (hn:B.s.ah.length≤n) (hm:B.s.aw.length≤m) (ht:wB tm n m bx) (ho:gD (s.cut n m).ah gn)
 (h:Sem P B nt a Q bx ⟨gn,(s.cut n m).aw⟩):Sem P B nt a Q tm s:=
 fun c hc act w hh=>h c hc act w (hh.re (Q:=Q) n m hn hm ht ho)
def Has (P:Program) (f nt:Nat) (res:List (Nat×Option (Bool×Nat))) (body:AC):Prop:=∃ fn,P.funcs[f]? = some fn∧cF P fn=some ⟨nt,res,body⟩
theorem aF.go {f:FuncId} {res:List (Nat×Option (Bool×Nat))} {body:AC} {args:List D} {s:St} {d:D} {s':St} (h0:Has P f nt res body) (hl:Nat.ble args.length nt=true)
 (h : ∀ (B:fU) (Q:Exit→Tm→St→Prop),B.s=s→pR s.ah.length s.aw.length res d s'=Q→kb P B nt body Q (mS 0 args) s):aF P f args s d s':=by
 obtain⟨fn,hf,hc⟩:=h0
 exact aF.intro ⟨fn,hf,hc⟩ (Nat.le_of_ble_eq_true hl) fun B hB=>iG (h B _ hB rfl)
theorem aF.abv {f:FuncId} {pre post:List D} {rows oJ:List (List D)} {z z' k k':Nat} (h:aF P f (pre++ .slice (.tok 0) z rows::post) ⟨[],[some k]⟩ (.slice (.tok 0) z' oJ) ⟨[],[some k']⟩)
 (hp:D.bL 0 0 pre=true) (ha:D.bL 0 0 post=true) (hw:D.gS 0 0 rows=true) (hw':D.gS 0 0 oJ=true)
 {s:St} {t:Nat} (ht:s.aw[t]? = some (some k)):aF P f (pre++ .slice (.tok t) z rows::post) s (.slice (.tok t) z' oJ) ⟨s.ah,s.aw.set t (some k')⟩:=by
 refine bM.frame [] [t] h (by simp) (by simp) (by simp) (by simpa using (List.getElem?_eq_some_iff.1 ht).1) rfl (fun i o' ds e1 e2=>by simp at e1) rfl (fun i t' e1=>?_)
  ?_ ?_ ?_
 ·cases i with
  |zero=>simp at e1;subst e1;simp[ht]
  |succ i=>simp at e1
 ·have h1:=fC [] [t] _ hp
  have h2:=fC [] [t] _ ha
  rw[fO]at h1 h2
  simp[fO,D.cW,Tag.cW,h1,h2,jl _ _ _ hw]
 ·have h1:=iB (n':=0) (m':=1) (Nat.le_refl 0) (Nat.zero_le 1) _ hp
  have h2:=iB (n':=0) (m':=1) (Nat.le_refl 0) (Nat.zero_le 1) _ ha
  rw[yd]at h1 h2 ⊢
  simp only[List.length_nil,List.length_cons,List.all_append,h1,Bool.true_and,List.all_cons,h2,Bool.and_true,D.ok,Tag.ok,mD (Nat.zero_le 0) (Nat.zero_le 1) _ hw]
  rfl
 ·rintro _ _ ⟨rfl,rfl⟩
  refine⟨by simp[D.back,D.cW,Tag.cW,ky,jl _ _ _ hw'], ?_⟩
  simp[St.back,kC]
theorem ajL (A C:Prop) : @CB (.bool true) ⟨A,C⟩=A:=by simp[CB,uO]
theorem ajM (A C:Prop) : @CB (.bool false) ⟨A,C⟩=C:=by simp[CB,uO]
theorem abx (b:Bool) (A C:Prop) : @CB (.bool (!b)) ⟨A,C⟩ = @CB (.bool b) ⟨C,A⟩:=by
 cases b<;>simp[CB,uO]
theorem I2 {b:Bool} {A C:Prop} (h1:b=true→A) (h2:b=false→C) : @CB (.bool b) ⟨A,C⟩:=⟨h1,h2⟩
theorem aby {b:Bool} {A C:Prop} (h:b=true) (h1:b=true→A) : @CB (.bool b) ⟨A,C⟩:=I2 h1 (fun h'=>by rw[h]at h';cases h')
theorem abz {b:Bool} {A C:Prop} (h:b=false) (h1:b=false→C) : @CB (.bool b) ⟨A,C⟩:=I2 (fun h'=>by rw[h]at h';cases h') h1
theorem afz {n m:Nat} {res:List (Nat×Option (Bool×Nat))} {d:D} {s':St} {tm:Tm} {s:St} {Q:Exit→Tm→St→Prop} (hQ:pR n m res d s'=Q)
 (h : ∃ l,aV res tm s=some l∧Wk ((aX l).fg n m) d∧gD (s.cut n m).ah s'.ah∧(s.cut n m).aw=s'.aw):Q .ret tm s:=hQ ▸ h
theorem afA {n m:Nat} {res:List (Nat×Option (Bool×Nat))} {d:D} {s':St} {tm:Tm} {s:St} {Q:Exit→Tm→St→Prop} (hQ:pR n m res d s'=Q)
 (h : ∃ l,aV res tm s=some l∧Wk ((aX l).fg n m) d∧gD (s.cut n m).ah s'.ah∧(s.cut n m).aw=s'.aw):Q .normal tm s:=hQ ▸ h
end
attribute [go_sem] TU YF YG YH TV QW TW QX TX QY TY YI YJ YK YL YM T1 T2 T3 T4
theorem QZ : ∀ (tm:Tm) (s:St) (x:X),aJ (AO.mv x) tm s=some (X.ev tm x,s):=
 fun tm s x=>nd (aJ.eq_1 tm s x)
theorem Q1 : ∀ (tm:Tm) (s:St) (c a b:X),
 aJ (AO.pick c a b) tm s =
  match X.ev tm c with
  |D.bool t=>some (if t=true then X.ev tm a else X.ev tm b,s)
  |x=>none:=
 fun tm s c a b=>nd (aJ.eq_2 tm s c a b)
theorem Q2 : ∀ (tm:Tm) (s:St) (zero:List D),
 aJ (AO.alloc zero) tm s=some (D.ptr s.ah.length 0,{ah:=s.ah++ [zero],aw:=s.aw}):=
 fun tm s zero=>nd (aJ.eq_3 tm s zero)
theorem Q3 : ∀ (tm:Tm) (s:St) (x:X),
 aJ (AO.box x) tm s =
  match (X.ev tm x).row with
  |some r=>some (D.ptr s.ah.length 0,{ah:=s.ah++ [r],aw:=s.aw})
  |none=>none:=
 fun tm s x=>nd (aJ.eq_4 tm s x)
theorem Q4 : ∀ (tm:Tm) (s:St) (zero:List D) (parts:List (Nat×Nat×X)),
 aJ (AO.build zero parts) tm s =
  match qQ zero (List.map (fun(p:Nat×Nat×X)=>(p.fst,p.snd.fst,X.ev tm p.snd.snd)) parts)with
  |some cs=>some (D.agg cs,s)
  |none=>none:=
 fun tm s zero parts=>nd (aJ.eq_5 tm s zero parts)
theorem Q5 : ∀ (tm:Tm) (s:St) (zero:List D) (size n:Nat) (parts:List (Nat×X)),
 aJ (AO.du zero size n parts) tm s =
  match jX size (fR zero n) (List.map (fun(p:Nat×X)=>(p.fst,X.ev tm p.snd)) parts)with
  |some rows=>some (D.slice Tag.full size rows,s)
  |none=>none:=
 fun tm s zero size n parts=>nd (aJ.eq_6 tm s zero size n parts)
theorem Q6 : ∀ (tm:Tm) (s:St) (zero:List D) (size n:Nat) (parts:List (Nat×X)),
 aJ (AO.u9 zero size n parts) tm s =
  match jX size (fR zero n) (List.map (fun(p:Nat×X)=>(p.fst,X.ev tm p.snd)) parts)with
  |some rows=>
   some (D.slice (Tag.tok s.aw.length) size rows,{ah:=s.ah,aw:=s.aw++ [some rows.length]})
  |none=>none:=
 fun tm s zero size n parts=>nd (aJ.eq_7 tm s zero size n parts)
theorem Q7 : ∀ (tm:Tm) (s:St) (x:X),
 aJ (AO.AN x) tm s =
  match X.ev tm x with
  | D.slice (Tag.tok t _) z rows=>
   if rows≠ []∧s.aw[t]? = some (some rows.length)then
    some (D.slice Tag.shared z rows,{ah:=s.ah,aw:=s.aw.set t none})
   else none
  |x=>none:=
 fun tm s x=>nd (aJ.eq_8 tm s x)
theorem Q8 : ∀ (tm:Tm) (s:St) (x:X) (agg:Bool) (size:Nat),
 aJ (AO.load x agg size) tm s =
  match X.ev tm x with
  | D.ptr o off=>
   match s.ah[o]? with
   |some cs=>
    match part cs off agg size with
    |some d=>some (d,s)
    |none=>none
   |none=>none
  |D.dA row off=>
   match part row off agg size with
   |some d=>some (d,s)
   |none=>none
  |x=>yP x agg size s:=
 fun tm s x agg size=>nd (aJ.eq_9 tm s x agg size)
theorem NA : ∀ (tm:Tm) (s:St) (p x:X) (size:Nat),
 aJ (AO.store p x size) tm s =
  match X.ev tm p,(X.ev tm x).row with
  | D.ptr o off,some r=>
   match s.ah[o]? with
   | some cs=>
    if r.length=size∧off+size≤cs.length then
     some (D.tuple [],{ah:=s.ah.set o (iz cs off r),aw:=s.aw})
    else none
   |none=>none
  |x,fz=>AV x fz size s:=
 fun tm s p x size=>nd (aJ.eq_10 tm s p x size)
theorem NB : ∀ (tm:Tm) (s:St) (x:X),
 aJ (AO.bW x) tm s =
  match X.ev tm x with
  |D.ptr o off=>some (D.ptr o off,s)
  |D.dA row off=>some (D.dA row off,s)
  |x=>match MF x with|some d=>some (d,s)|none=>none:=
 fun tm s x=>nd (aJ.eq_11 tm s x)
theorem NC : ∀ (tm:Tm) (s:St) (op:BinOp) (x y:X),
 aJ (AO.bin op x y) tm s =
  match xd op (X.ev tm x) (X.ev tm y)with
  |some d=>some (d,s)
  |none=>none:=
 fun tm s op x y=>nd (aJ.eq_12 tm s op x y)
theorem ND : ∀ (tm:Tm) (s:St) (neg:Bool) (x y:X),
 aJ (AO.Gk neg x y) tm s =
  match X.ev tm x,X.ev tm y with
  |D.bool a,D.bool b=>some (D.bool (if neg=true then !a==b else a==b),s)
  |x,fz=>none:=
 fun tm s neg x y=>nd (aJ.eq_13 tm s neg x y)
theorem NF : ∀ (tm:Tm) (s:St) (neg:Bool) (ks:List Nat) (x y:X),
 aJ (AO.eqs neg ks x y) tm s =
  match X.ev tm x,X.ev tm y with
  |D.agg a,D.agg b=>
   match lq ks a b with
   |some e=>some (D.bool (if neg=true then !e else e),s)
   |none=>none
  |x,fz=>none:=
 fun tm s neg ks x y=>nd (aJ.eq_14 tm s neg ks x y)
theorem NG : ∀ (tm:Tm) (s:St) (neg:Bool) (x y:X),
 aJ (AO.Gl neg x y) tm s =
  match X.ev tm x,X.ev tm y with
  |D.dR,D.dR=>some (D.bool !neg,s)
  |D.ptr o off,D.dR=>some (D.bool neg,s)
  |D.dA row off,D.dR=>some (D.bool neg,s)
  |x,fz=>none:=
 fun tm s neg x y=>nd (aJ.eq_15 tm s neg x y)
theorem NH : ∀ (tm:Tm) (s:St) (op:UnOp) (x:X),
 aJ (AO.un op x) tm s =
  match Ip op (X.ev tm x)with
  |some d=>some (d,s)
  |none=>none:=
 fun tm s op x=>nd (aJ.eq_16 tm s op x)
theorem NK : ∀ (tm:Tm) (s:St) (k:IntKind) (x:X),
 aJ (AO.conv k x) tm s =
  match X.ev tm x with
  |D.int k_1 n=>some (D.int k (k.wrap n),s)
  |x=>none:=
 fun tm s k x=>nd (aJ.eq_17 tm s k x)
theorem NL : ∀ (tm:Tm) (s:St) (x:X),
 aJ (AO.DZ x) tm s =
  match X.ev tm x with
  |D.slice g size rows=>
   match oo rows with
   |some b=>some (D.str b,s)
   |none=>none
  |x=>none:=
 fun tm s x=>nd (aJ.eq_18 tm s x)
theorem NM : ∀ (tm:Tm) (s:St) (x:X),
 aJ (AO.xP x) tm s =
  match X.ev tm x with
  |D.str l=>some (D.slice Tag.shared 1 (List.map (fun(c:UInt8)=> [D.int IntKind.u8 ↑c.toNat]) l),s)
  |x=>none:=
 fun tm s x=>nd (aJ.eq_19 tm s x)
theorem NN : ∀ (tm:Tm) (s:St) (size:Nat) (x:X) (lo hi:Option X),
 aJ (AO.CK size x lo hi) tm s =
  match X.ev tm x with
  | D.slice g z rows=>
   match sW (Option.map (fun(x:X)=>X.ev tm x) lo),
    sX (Option.map (fun(x:X)=>X.ev tm x) hi) rows.length with
   | some l,some h=>
    if(rows = []∨z=size)∧0≤l∧l≤h∧h≤ ↑rows.length then
     some
      (D.slice (if l=0 then g.cut (decide (h = ↑rows.length))else Tag.shared) z
       (List.drop l.toNat (List.take h.toNat rows)),
       s)
    else none
   |x,fz=>none
  |x=>match xf x (Option.map (fun(x:X)=>X.ev tm x) lo) (Option.map (fun(x:X)=>X.ev tm x) hi)with|some d=>some (d,s)|none=>none:=
 fun tm s size x lo hi=>nd (aJ.eq_20 tm s size x lo hi)
theorem NO : ∀ (tm:Tm) (s:St) (x:X) (lo hi:Option X),
 aJ (AO.Ik x lo hi) tm s =
  match X.ev tm x with
  | D.str t=>
   match sW (Option.map (fun(x:X)=>X.ev tm x) lo),sX (Option.map (fun(x:X)=>X.ev tm x) hi) t.length with
   |some l,some h=>
    if 0≤l∧l≤h∧h≤ ↑t.length then some (D.str (List.drop l.toNat (List.take h.toNat t)),s)else none
   |x,fz=>none
  |x=>none:=
 fun tm s x lo hi=>nd (aJ.eq_21 tm s x lo hi)
theorem NP : ∀ (tm:Tm) (s:St) (x:X) (off:Nat),
 aJ (AO.aq x off) tm s =
  match X.ev tm x with
  |D.ptr o k=>some (D.ptr o (k+off),s)
  |D.dA row k=>some (D.dA row (k+off),s)
  |x=>match D2 x off with|some d=>some (d,s)|none=>none:=
 fun tm s x off=>nd (aJ.eq_22 tm s x off)
theorem NQ : ∀ (tm:Tm) (s:St) (x:X) (off:Nat) (agg:Bool) (size:Nat),
 aJ (AO.CM x off agg size) tm s =
  match X.ev tm x with
  |D.agg cs=>
   match part cs off agg size with
   |some d=>some (d,s)
   |none=>none
  |x=>none:=
 fun tm s x off agg size=>nd (aJ.eq_23 tm s x off agg size)
theorem NR : ∀ (tm:Tm) (s:St) (x i:X) (size:Nat),
 aJ (AO.cf x i size) tm s =
  match X.ev tm x,X.ev tm i with
  | D.slice g z rows,D.int k n=>
   if 0≤n∧z=size then
    match rows[n.toNat]? with
    |some row=>some (D.dA row 0,s)
    |none=>none
   else none
  |x,fz=>match xR x fz size with|some d=>some (d,s)|none=>none:=
 fun tm s x i size=>nd (aJ.eq_24 tm s x i size)
theorem NS : ∀ (tm:Tm) (s:St) (x i:X),
 aJ (AO.AP x i) tm s =
  match X.ev tm x,X.ev tm i with
  | D.str t,D.int k n=>
   if 0≤n then
    match t[n.toNat]? with
    |some c=>some (D.int IntKind.u8 ↑c.toNat,s)
    |none=>none
   else none
  |x,fz=>none:=
 fun tm s x i=>nd (aJ.eq_25 tm s x i)
theorem NT : ∀ (tm:Tm) (s:St) (x:X) (i:Nat),
 aJ (AO.ext x i) tm s =
  match X.ev tm x with
  |D.tuple ds=>
   match ds[i]? with
   |some d=>some (d,s)
   |none=>none
  |x=>none:=
 fun tm s x i=>nd (aJ.eq_26 tm s x i)
theorem NU : ∀ (tm:Tm) (s:St) (x:X),
 aJ (AO.va x) tm s =
  match X.ev tm x with
  |D.str t=>some (D.int IntKind.i64 ↑t.length,s)
  |x=>none:=
 fun tm s x=>nd (aJ.eq_27 tm s x)
theorem NV : ∀ (tm:Tm) (s:St) (x:X),
 aJ (AO.len x) tm s =
  match X.ev tm x with
  |D.slice g size rows=>some (D.int IntKind.i64 ↑rows.length,s)
  |x=>match Ft x with|some d=>some (d,s)|none=>none:=
 fun tm s x=>nd (aJ.eq_28 tm s x)
theorem NW : ∀ (tm:Tm) (s:St) (size bytes:Nat) (x y:X),
 aJ (AO.app size bytes x y) tm s =
  match X.ev tm x with
  |D.slice g z rows=>gY size bytes (D.slice g z rows) (X.ev tm y) s
  |d=>AW size bytes d (X.ev tm y) s:=
 fun tm s size bytes x y=>nd (aJ.eq_29 tm s size bytes x y)
theorem NY : ∀ (tm:Tm) (s:St) (isMax:Bool) (x y:X),
 aJ (AO.mm isMax x y) tm s =
  match X.ev tm x,X.ev tm y with
  |D.int k a,D.int k' b=>
   if k=k' then some (D.int k (if isMax=true then if b > a then b else a else if b<a then b else a),s)
   else none
  |x,fz=>none:=
 fun tm s isMax x y=>nd (aJ.eq_30 tm s isMax x y)
theorem NZ (tm:Tm) (s:St) (r:List D) (T:TypeId):aJ (AO.sV (.dR::r) T) tm s=some (.ptr s.ah.length 0,{ah:=s.ah++ [.fq T s.ah.length::r],aw:=s.aw}):=nd rfl
theorem N0 (tm:Tm) (s:St) (x:X) (T:TypeId):aJ (AO.AQ x T) tm s =
 match (x.ev tm).row with
 |some (.dR::r)=>some (.ptr s.ah.length 0,{ah:=s.ah++ [.fq T s.ah.length::r],aw:=s.aw})
 |_=>none:=nd rfl
theorem N1 (tm:Tm) (s:St) (x y:X):aJ (AO.apps x y) tm s =
 match y.ev tm with
 | .str l=>AU (x.ev tm) (.slice .shared 1 (l.map fun c=> [.int .u8 c.toNat])) s
 |_=>none:=nd rfl
theorem N2 (tm:Tm) (s:St) (x y:X):aJ (AO.AR x y) tm s=AU (x.ev tm) (y.ev tm) s:=nd rfl
theorem N3 (tm:Tm) (s:St) (f:Nat) (xs:List X):aJ (AO.uK f xs) tm s=some (.gd f (xs.map fun x=>x.ev tm),s):=nd rfl
theorem N4 (tm:Tm) (s:St):aJ AO.uL tm s=some (.fP s.ah.length,{ah:=s.ah++ [[]],aw:=s.aw}):=nd rfl
theorem N5 (tm:Tm) (s:St) (m k v:X):aJ (AO.yN m k v) tm s =
 match m.ev tm,k.ev tm,v.ev tm with
 | .fP o, .str key, .slice g z rows=>
  match s.ah[o]? with
  |some cs=>match xe key (.slice g z rows) cs with|some jI=>some (.tuple [],{ah:=s.ah.set o jI,aw:=s.aw})|none=>none
  |none=>none
 |_,_,_=>none:=nd rfl
theorem N6 (tm:Tm) (s:St) (m k:X) (zero:D):aJ (AO.wh m k zero) tm s =
 match m.ev tm,k.ev tm with
 | .fP o, .str key=>
  match s.ah[o]? with
  |some cs=>match yO key zero cs with|some d=>some (d,s)|none=>none
  |none=>none
 |_,_=>none:=nd rfl
theorem N7 (tm:Tm) (s:St) (o:FO) (x y:X):aJ (AO.qP o x y) tm s=match qp o (x.ev tm) (y.ev tm)with|some d=>some (d,s)|none=>none:=nd rfl
theorem N8 (tm:Tm) (s:St) (size bytes:Nat) (zero:List D) (l c:X):aJ (AO.AS size bytes zero l c) tm s =
 match l.ev tm,c.ev tm with
 | .int .i64 n, .int .i64 m=>if n=m∧0≤n∧n*((bytes:Int)+1)≤bC then some (.eB size s.ah.length 0 n.toNat,{s with ah:=s.ah++ [.int .i64 ((0:Nat):Int)::(fR zero n.toNat).flatten]})else none
 |_,_=>none:=nd rfl
theorem I3 (o:FO) (x y:X):(AO.qP o x y).core=false:=nd rfl
theorem I4 (size bytes:Nat) (zero:List D) (l c:X):(AO.AS size bytes zero l c).core=true:=nd rfl
theorem I5 (f:Nat) (xs:List X):(AO.uK f xs).core=false:=nd rfl
theorem I6:AO.uL.core=true:=nd rfl
theorem I7 (m k v:X):(AO.yN m k v).core=true:=nd rfl
theorem I8 (m k:X) (zero:D):(AO.wh m k zero).core=false:=nd rfl
theorem Q9 (n m f:Nat) (cs:List D):D.fg n m (.gd f cs) = .gd f (D.gv n m cs):=nd (by simp only[D.fg])
theorem Ra (n m:Nat) (o:Nat):D.fg n m (.fP o)=if o<n then .fP o else .junk:=nd (by simp only[D.fg])
theorem N9 (d:Option Nat) (g:Option (Nat×Bool)) (t:Nat) (xs:List X):(AI.jt d g t xs).dst=d:=nd rfl
theorem I9 (x y:X):(AO.AR x y).core=true:=nd rfl
theorem Ja (z:List D) (T:TypeId):(AO.sV z T).core=true:=nd rfl
theorem Jb (x:X) (T:TypeId):(AO.AQ x T).core=true:=nd rfl
theorem Jc (x y:X):(AO.apps x y).core=true:=nd rfl
theorem Rb (n m:Nat) (v:Value):D.fg n m (.val v) = .val v:=nd (by simp only[D.fg])
theorem Rc (n m:Nat) (T:TypeId) (o:Nat):D.fg n m (.fq T o)=if o<n then .fq T o else .junk:=nd (by simp only[D.fg])
theorem T5 : ∀ (tm:Tm) (t:Nat),X.ev tm (X.s t)=tm.get t:=
 fun tm t=>nd (X.ev.eq_1 tm t)
theorem T6 : ∀ (tm:Tm) (d:D),X.ev tm (X.k d)=d:=
 fun tm d=>nd (X.ev.eq_2 tm d)
theorem Oa : ∀ (tm:Tm) (d:D) (t:Nat),tm.put (some t) d=tm.set t d:=
 fun tm d t=>nd (Tm.put.eq_1 tm d t)
theorem Oc : ∀ (tm:Tm) (d:D),tm.put none d=tm:=
 fun tm d=>nd (Tm.put.eq_2 tm d)
theorem Od : ∀ (x:Nat) (fz:D),Tm.set [] x fz = [(x,fz)]:=
 fun x fz=>nd (Tm.set.eq_1 x fz)
theorem Oe : ∀ (x:Nat) (fz:D) (k:Nat) (e:D) (r:List (Nat×D)),
 Tm.set ((k,e)::r) x fz=if k=x then(k,fz)::r else(k,e)::Tm.set r x fz:=
 fun x fz k e r=>nd (Tm.set.eq_2 x fz k e r)
theorem Og : ∀ (x:Nat),Tm.get [] x=D.junk:=
 fun x=>nd (Tm.get.eq_1 x)
theorem Oh : ∀ (x k:Nat) (d:D) (r:List (Nat×D)),Tm.get ((k,d)::r) x=if k=x then d else Tm.get r x:=
 fun x k d r=>nd (Tm.get.eq_2 x k d r)
theorem Re : ∀ (x:Nat),mS x [] = []:=
 fun x=>nd (mS.eq_1 x)
theorem Rf : ∀ (x:Nat) (d:D) (r:List D),mS x (d::r)=(x,d)::mS (x+1) r:=
 fun x d r=>nd (mS.eq_2 x d r)
theorem Oi : ∀ (d:Option Nat) (g:Option (Nat×Bool)) (o:AO),(AI.op d g o).dst=d:=
 fun d g o=>nd (AI.dst.eq_1 d g o)
theorem Oj : ∀ (d:Option Nat) (g:Option (Nat×Bool)) (f:Nat) (xs:List X),(AI.call d g f xs).dst=d:=
 fun d g f xs=>nd (AI.dst.eq_2 d g f xs)
theorem Ol : ∀ (d:Option Nat) (g:Option (Nat×Bool)) (neg:Bool) (fz:X),(AI.nil d g neg fz).dst=d:=
 fun d g neg fz=>nd (AI.dst.eq_3 d g neg fz)
theorem T7 : ∀ (cs:List D) (off size:Nat),
 part cs off true size=if off+size≤cs.length then some (D.agg (List.take size (List.drop off cs)))else none:=
 fun cs off size=>nd (part.eq_1 cs off size)
theorem T8 : ∀ (cs:List D) (off size:Nat),part cs off false size=cs[off]? :=
 fun cs off size=>nd (part.eq_2 cs off size)
theorem Om : ∀ (cs:List D) (off:Nat) (r:List D),
 iz cs off r=List.take off cs++r++List.drop (off+r.length) cs:=
 fun cs off r=>nd (iz.eq_1 cs off r)
theorem Rg : ∀ (cells:List D),qQ cells [] = some cells:=
 fun cells=>nd (qQ.eq_1 cells)
theorem Rh : ∀ (cells:List D) (off size:Nat) (d:D) (rest:List (Nat×Nat×D)),
 qQ cells ((off,size,d)::rest) =
  match d.row with
  |none=>none
  |some r=>if r.length=size∧off+size≤cells.length then qQ (iz cells off r) rest else none:=
 fun cells off size d rest=>nd (qQ.eq_2 cells off size d rest)
theorem Jd : ∀ (size:Nat) (rows:List (List D)),jX size rows [] = some rows:=
 fun size rows=>nd (jX.eq_1 size rows)
theorem Je : ∀ (size:Nat) (rows:List (List D)) (i:Nat) (d:D) (rest:List (Nat×D)),
 jX size rows ((i,d)::rest) =
  match d.row with
  |none=>none
  |some r=>if r.length=size∧i<rows.length then jX size (rows.set i r) rest else none:=
 fun size rows i d rest=>nd (jX.eq_2 size rows i d rest)
theorem Jf : ∀ (zero:List D),fR zero 0 = []:=
 fun zero=>nd (fR.eq_1 zero)
theorem Jg : ∀ (zero:List D) (i:Nat),fR zero i.succ=zero::fR zero i:=
 fun zero i=>nd (fR.eq_2 zero i)
theorem T9 : ∀ (op:BinOp) (k:IntKind) (a:Int) (k':IntKind) (b:Int),
 xd op (D.int k a) (D.int k' b)=if k=k' then gf op k a b else none:=
 fun op k a k' b=>nd (xd.eq_1 op k a k' b)
theorem Ua : ∀ (op:BinOp) (a b:List UInt8),xd op (D.str a) (D.str b)=n9 op a b:=
 fun op a b=>nd (xd.eq_2 op a b)
theorem On : ∀ (k:IntKind) (a b:Int),gf BinOp.add k a b=some (D.int k (k.wrap (a+b))):=
 fun k a b=>nd (gf.eq_1 k a b)
theorem Oo : ∀ (k:IntKind) (a b:Int),gf BinOp.sub k a b=some (D.int k (k.wrap (a - b))):=
 fun k a b=>nd (gf.eq_2 k a b)
theorem Oq : ∀ (k:IntKind) (a b:Int),gf BinOp.mul k a b=some (D.int k (k.wrap (a*b))):=
 fun k a b=>nd (gf.eq_3 k a b)
theorem Ot : ∀ (k:IntKind) (a b:Int),
 gf BinOp.quo k a b=if b=0 then none else some (D.int k (k.wrap (a.tdiv b))):=
 fun k a b=>nd (gf.eq_4 k a b)
theorem Ou : ∀ (k:IntKind) (a b:Int),gf BinOp.rem k a b=if b=0 then none else some (D.int k (a.tmod b)):=
 fun k a b=>nd (gf.eq_5 k a b)
theorem Ov : ∀ (k:IntKind) (a b:Int),gf BinOp.eql k a b=some (D.bool (a==b)):=
 fun k a b=>nd (gf.eq_6 k a b)
theorem Ow : ∀ (k:IntKind) (a b:Int),gf BinOp.neq k a b=some (D.bool (a != b)):=
 fun k a b=>nd (gf.eq_7 k a b)
theorem Ox : ∀ (k:IntKind) (a b:Int),gf BinOp.lss k a b=some (D.bool (decide (a<b))):=
 fun k a b=>nd (gf.eq_8 k a b)
theorem Oy : ∀ (k:IntKind) (a b:Int),gf BinOp.leq k a b=some (D.bool (decide (a≤b))):=
 fun k a b=>nd (gf.eq_9 k a b)
theorem KZ : ∀ (k:IntKind) (a b:Int),gf BinOp.gtr k a b=some (D.bool (decide (a > b))):=
 fun k a b=>nd (gf.eq_10 k a b)
theorem K0 : ∀ (k:IntKind) (a b:Int),gf BinOp.geq k a b=some (D.bool (decide (a≥b))):=
 fun k a b=>nd (gf.eq_11 k a b)
theorem Oz : ∀ (a b:List UInt8),
 n9 BinOp.add a b=if a.length+b.length≤bC then some (D.str (a++b))else none:=
 fun a b=>nd (n9.eq_1 a b)
theorem OA : ∀ (a b:List UInt8),n9 BinOp.eql a b=some (D.bool (a==b)):=
 fun a b=>nd (n9.eq_2 a b)
theorem OB : ∀ (a b:List UInt8),n9 BinOp.neq a b=some (D.bool !a==b):=
 fun a b=>nd (n9.eq_3 a b)
theorem OC : ∀ (a b:List UInt8),n9 BinOp.lss a b=some (D.bool (bytesLess a b)):=
 fun a b=>nd (n9.eq_4 a b)
theorem YN : ∀ (k:IntKind) (n:Int),Ip UnOp.neg (D.int k n)=some (D.int k (k.wrap (0 - n))):=
 fun k n=>nd (Ip.eq_1 k n)
theorem YO : ∀ (b:Bool),Ip UnOp.not (D.bool b)=some (D.bool !b):=
 fun b=>nd (Ip.eq_2 b)
theorem OD : ∀ (k:IntKind) (a:Int) (k':IntKind) (b:Int),
 mW 0 (D.int k a) (D.int k' b)=if k=k' then some (a==b)else none:=
 fun k a k' b=>nd (mW.eq_1 k a k' b)
theorem OE : ∀ (a b:Bool),mW 1 (D.bool a) (D.bool b)=some (a==b):=
 fun a b=>nd (mW.eq_2 a b)
theorem OF : ∀ (a b:List UInt8),mW 2 (D.str a) (D.str b)=some (a==b):=
 fun a b=>nd (mW.eq_3 a b)
theorem K1:lq [] [] [] = some true:=
 nd (lq.eq_1)
theorem K3 : ∀ (k:Nat) (ks:List Nat) (WW:D) (xs:List D) (y:D) (ys:List D),
 lq (k::ks) (WW::xs) (y::ys) =
  match mW k WW y with
  |none=>none
  |some true=>lq ks xs ys
  |some false=>some false:=
 fun k ks WW xs y ys=>nd (lq.eq_2 k ks WW xs y ys)
theorem YP:sW none=some 0:=
 nd (sW.eq_1)
theorem YQ : ∀ (k:IntKind) (n:Int),sW (some (D.int k n))=some n:=
 fun k n=>nd (sW.eq_2 k n)
theorem YR : ∀ (len:Nat),sX none len=some ↑len:=
 fun len=>nd (sX.eq_1 len)
theorem YS : ∀ (len:Nat) (k:IntKind) (n:Int),sX (some (D.int k n)) len=some n:=
 fun len k n=>nd (sX.eq_2 len k n)
theorem K4 : ∀ (zero:List D),(AO.alloc zero).core=true:=
 fun zero=>nd (AO.core.eq_1 zero)
theorem K5 : ∀ (fz:X),(AO.box fz).core=true:=
 fun fz=>nd (AO.core.eq_2 fz)
theorem K6 : ∀ (zero:List D) (size n:Nat) (parts:List (Nat×X)),(AO.u9 zero size n parts).core=true:=
 fun zero size n parts=>nd (AO.core.eq_3 zero size n parts)
theorem K7 : ∀ (fz:X),(AO.AN fz).core=true:=
 fun fz=>nd (AO.core.eq_4 fz)
theorem K8 : ∀ (p fz:X) (size:Nat),(AO.store p fz size).core=true:=
 fun p fz size=>nd (AO.core.eq_5 p fz size)
theorem K9 : ∀ (size bytes:Nat) (fz y:X),(AO.app size bytes fz y).core=true:=
 fun size bytes fz y=>nd (AO.core.eq_6 size bytes fz y)
theorem La : ∀ (val:Nat) (zero:List D),(AI.op (some val) none (AO.alloc zero)).kind=AK.alloc:=
 fun val zero=>nd (AI.kind.eq_1 val zero)
theorem Lb : ∀ (zero:List D),(AO.alloc zero).kind=AK.core:=
 fun zero=>nd (AO.kind.eq_1 zero)
theorem Lc : ∀ (fz:X),(AO.box fz).kind=AK.core:=
 fun fz=>nd (AO.kind.eq_2 fz)
theorem Ld : ∀ (zero:List D) (size n:Nat) (parts:List (Nat×X)),(AO.u9 zero size n parts).kind=AK.core:=
 fun zero size n parts=>nd (AO.kind.eq_3 zero size n parts)
theorem Lf : ∀ (fz:X),(AO.AN fz).kind=AK.core:=
 fun fz=>nd (AO.kind.eq_4 fz)
theorem Lg : ∀ (p fz:X) (size:Nat),(AO.store p fz size).kind=AK.core:=
 fun p fz size=>nd (AO.kind.eq_5 p fz size)
theorem Lh : ∀ (size bytes:Nat) (fz y:X),(AO.app size bytes fz y).kind=AK.core:=
 fun size bytes fz y=>nd (AO.kind.eq_6 size bytes fz y)
theorem Li : ∀ (fz:X) (agg:Bool) (size:Nat),(AO.load fz agg size).kind=AK.load:=
 fun _ _ _=>nd rfl
theorem OG:gI AK.core=true:=
 nd (gI.eq_1)
theorem OH:gI AK.alloc=true:=
 nd (gI.eq_2)
theorem OI : ∀ (i:AI) (tm:Tm) (d:D),od i tm d [] = True:=
 fun i tm d=>nd (od.eq_1 i tm d)
theorem OM : ∀ (i:AI) (tm:Tm) (d:D) (s:St) (r:List St),
 od i tm d (s::r)=(jT i tm s=some d∧od i tm d r):=
 fun i tm d s r=>nd (od.eq_2 i tm d s r)
theorem YT : ∀ (tm:Tm) (s:St) (dst:Option Nat) (o:AO),
 jT (AI.op dst none o) tm s=Option.map (fun(x:D×St)=>x.fst) (aJ o tm s):=
 fun tm s dst o=>nd (jT.eq_1 tm s dst o)
theorem YU : ∀ (tm:Tm) (s:St) (dst:Option Nat) (t:Nat) (want:Bool) (o:AO),
 jT (AI.op dst (some (t,want)) o) tm s =
  match tm.get t with
  |D.bool b=>if b=want then Option.map (fun(x:D×St)=>x.fst) (aJ o tm s)else some (D.tuple [])
  |D.tuple vs=>some (D.tuple [])
  |x=>none:=
 fun tm s dst t want o=>nd (jT.eq_2 tm s dst t want o)
theorem Lj : ∀ (is:List AI),ng is [] = some []:=
 fun is=>nd (ng.eq_1 is)
theorem Lk : ∀ (is:List AI) (q b:Nat) (r:List (Nat×Nat)),
 ng is ((q,b)::r) =
  match is[q]?,ng is r with
  |some ai,some l=>some ((ai,b)::l)
  |x,fz=>none:=
 fun is q b r=>nd (ng.eq_2 is q b r)
theorem YV : ∀ (tm:Tm) (n m:Nat),wB tm n m [] = True:=
 fun tm n m=>nd (wB.eq_1 tm n m)
theorem YW : ∀ (tm:Tm) (n m k:Nat) (d:D) (r:List (Nat×D)),
 wB tm n m ((k,d)::r)=(Wk (D.fg n m (tm.get k)) d∧wB tm n m r):=
 fun tm n m k d r=>nd (wB.eq_2 tm n m k d r)
theorem Ub : ∀ (n m o off:Nat),D.fg n m (D.ptr o off)=if o<n then D.ptr o off else D.junk:=
 fun n m o off=>nd (D.fg.eq_1 n m o off)
theorem Uc : ∀ (n m:Nat) (row:List D) (off:Nat),D.fg n m (D.dA row off)=D.dA (D.gv n m row) off:=
 fun n m row off=>nd (D.fg.eq_2 n m row off)
theorem Ud : ∀ (n m:Nat) (g:Tag) (z:Nat) (rows:List (List D)),
 D.fg n m (D.slice g z rows)=D.slice (Tag.fg m g) z (D.kv n m rows):=
 fun n m g z rows=>nd (D.fg.eq_3 n m g z rows)
theorem Ue : ∀ (n m:Nat) (cs:List D),D.fg n m (D.agg cs)=D.agg (D.gv n m cs):=
 fun n m cs=>nd (D.fg.eq_4 n m cs)
theorem Uf : ∀ (n m:Nat) (ds:List D),D.fg n m (D.tuple ds)=D.tuple (D.gv n m ds):=
 fun n m ds=>nd (D.fg.eq_5 n m ds)
theorem Ug : ∀ (n m:Nat),D.fg n m D.junk=D.junk:=
 fun n m=>nd (D.fg.eq_6 n m)
theorem Uh : ∀ (n m:Nat) (k:IntKind) (fz:Int),D.fg n m (D.int k fz)=D.int k fz:=
 fun n m k fz=>nd (D.fg.eq_7 n m k fz)
theorem Ui : ∀ (n m:Nat) (b:Bool),D.fg n m (D.bool b)=D.bool b:=
 fun n m b=>nd (D.fg.eq_8 n m b)
theorem Uj : ∀ (n m:Nat) (l:List UInt8),D.fg n m (D.str l)=D.str l:=
 fun n m l=>nd (D.fg.eq_9 n m l)
theorem Ri : ∀ (n m:Nat),D.fg n m D.dR=D.dR:=
 fun n m=>nd (D.fg.eq_10 n m)
theorem Rj : ∀ (n m:Nat),D.gv n m [] = []:=
 fun n m=>nd (D.gv.eq_1 n m)
theorem Rk : ∀ (n m:Nat) (d:D) (r:List D),D.gv n m (d::r)=D.fg n m d::D.gv n m r:=
 fun n m d r=>nd (D.gv.eq_2 n m d r)
theorem Rm : ∀ (n m:Nat),D.kv n m [] = []:=
 fun n m=>nd (D.kv.eq_1 n m)
theorem Rn : ∀ (n m:Nat) (d:List D) (r:List (List D)),D.kv n m (d::r)=D.gv n m d::D.kv n m r:=
 fun n m d r=>nd (D.kv.eq_2 n m d r)
theorem ON : ∀ (m t:Nat) (y:Bool),Tag.fg m (Tag.tok t y)=if t<m then Tag.tok t y else Tag.shared:=
 fun _ _ _=>nd rfl
theorem OO : ∀ (s:St) (n m:Nat),
 s.cut n m = {ah:=List.map (D.gv n m) (List.take n s.ah),aw:=List.take m s.aw}:=
 fun s n m=>nd (St.cut.eq_1 s n m)
theorem Uk : ∀ (d:D),aX [d] = d:=
 fun d=>nd (aX.eq_1 d)
theorem Ul (size bytes t:Nat) (rows:List (List D)) (g:Tag) (r:List D) (s:St):gY size bytes (.slice (.tok t) size rows) (.slice g size [r]) s =
 if(rows.length+1)*(bytes+1)≤bC∧s.aw[t]? = some (some rows.length)then some (.slice (.tok t) size (rows++ [r]),⟨s.ah,s.aw.set t (some (rows.length+1))⟩)else none:=by
 simp only[gY,List.length_singleton]
 by_cases h1:(rows.length+1)*(bytes+1)≤bC<;>by_cases h2:s.aw[t]? = some (some rows.length)<;>simp[h1,h2]
theorem mH {size bytes t:Nat} {rows new:List (List D)} {g:Tag} {s:St} (h1:(rows.length+new.length)*(bytes+1)≤bC) (h2:s.aw[t]? = some (some rows.length)) :
 gY size bytes (.slice (.tok t) size rows) (.slice g size new) s=some (.slice (.tok t) size (rows++new),⟨s.ah,s.aw.set t (some (rows.length+new.length))⟩):=by
 cases new with
 | nil=>
  have:s.aw.set t (some rows.length)=s.aw:=by
   apply List.ext_getElem?
   intro i
   rw[List.getElem?_set]
   split
   ·rename_i hi;subst hi;rw[h2,if_pos (List.getElem?_eq_some_iff.1 h2).1]
   ·rfl
  simp only[List.length_nil,Nat.add_zero]at h1
  simp[gY,h1,this]
 |cons x l=>
  simp only[gY,h1,h2]
  simp
theorem Ro (size bytes z:Nat) (g:Tag) (r:List D) (s:St):gY size bytes (.slice .full z []) (.slice g size [r]) s =
 if bytes+1≤bC then some (.slice (.tok s.aw.length) size [r],⟨s.ah,s.aw++ [some 1]⟩)else none:=by
 simp[gY]
theorem YX {P:Program} {B:fU} {nt:Nat} (ac:AC) (Q:Exit→Tm→St→Prop) (tm:Tm) (s:St):zc P B nt ac Q .normal tm s=Q .normal tm s:=nd rfl
theorem YY {P:Program} {B:fU} {nt:Nat} (ac:AC) (Q:Exit→Tm→St→Prop) (tm:Tm) (s:St):zc P B nt ac Q .ret tm s=Q .ret tm s:=nd rfl
theorem YZ {P:Program} {B:fU} {nt:Nat} (ac:AC) (Q:Exit→Tm→St→Prop) (tm:Tm) (s:St) (i:Nat):zc P B nt ac Q (.exit i) tm s=Q (.exit i) tm s:=nd rfl
theorem Y0 (m:Nat):Tag.fg m .full = .full:=nd rfl
theorem Rp (m:Nat):Tag.fg m .shared = .shared:=nd rfl
theorem afB {P:Program} (K:Tm→St→Prop) (tm:Tm) (s:St):kp P [] K tm s=K tm s:=nd rfl
theorem s_op {P:Program} (dst:Option Nat) (o:AO) (r:List AI) (K:Tm→St→Prop) (tm:Tm) (s:St) :
 kp P (.op dst none o::r) K tm s=(match aJ o tm s with|some (d,s')=>kp P r K (tm.put dst d) s'|none=>False):=nd rfl
def KJ (P:Program) (r:List AI) (K:Tm→St→Prop) (tm:Tm) (dst:Option Nat) (d:D) (s:St):Prop:=kp P r K (tm.put dst d) s
theorem ajO {P:Program} (r:List AI) (K:Tm→St→Prop) (tm:Tm) (dst:Option Nat) (d:D) (s:St):KJ P r K tm dst d s=kp P r K (tm.put dst d) s:=nd rfl
theorem s_call {P:Program} (dst:Option Nat) (f:Nat) (xs:List X) (r:List AI) (K:Tm→St→Prop) (tm:Tm) (s:St) :
 kp P (.call dst none f xs::r) K tm s=CL false P f (xs.map (·.ev tm)) s (KJ P r K tm dst):=nd rfl
def NJ (P:Program) (dst:Option Nat) (neg:Bool) (x:D) (r:List AI) (K:Tm→St→Prop) (tm:Tm) (s:St):Prop:=
 match x with
 | .slice _ _ rows=>∀ b:Bool,(rows≠ []→b=false)→kp P r K (tm.put dst (.bool (if neg then !b else b))) s
 |_=>False
theorem abA {P:Program} (dst:Option Nat) (neg:Bool) (x:X) (r:List AI) (K:Tm→St→Prop) (tm:Tm) (s:St) :
 kp P (.nil dst none neg x::r) K tm s=NJ P dst neg (x.ev tm) r K tm s:=nd rfl
theorem Y1 {P:Program} (dst:Option Nat) (neg:Bool) (g:Tag) (z:Nat) (d:List D) (l:List (List D)) (r:List AI) (K:Tm→St→Prop) (tm:Tm) (s:St) :
 NJ P dst neg (.slice g z (d::l)) r K tm s=kp P r K (tm.put dst (.bool neg)) s:=by
 simp only[NJ,ne_eq,reduceCtorEq,not_false_eq_true,true_imp_iff,eq_iff_iff]
 refine⟨fun h=>by have:=h false rfl;cases neg<;>exact this,fun h b hb=>?_⟩
 subst hb;cases neg<;>exact h
theorem Um {P:Program} {dst:Option Nat} {neg:Bool} {g:Tag} {z:Nat} {l:List (List D)} {r:List AI} {K:Tm→St→Prop} {tm:Tm} {s:St}
 (h1:l = []→kp P r K (tm.put dst (.bool (!neg))) s) (h2:kp P r K (tm.put dst (.bool neg)) s):NJ P dst neg (.slice g z l) r K tm s:=by
 intro b hb
 cases b with
 |false=>cases neg<;>exact h2
 |true=>
  have:l = []:=Decidable.byContradiction fun h=>by cases hb h
  cases neg<;>exact h1 this
theorem afD {P:Program} (dst:Option Nat) (t:Nat) (w:Bool) (o:AO) (r:List AI) (K:Tm→St→Prop) (tm:Tm) (s:St) :
 kp P (.op dst (some (t,w)) o::r) K tm s = @GB (tm.get t) w ⟨(kp P (.op dst none o::r) K tm s),(kp P r K (tm.put dst (.tuple [])) s)⟩:=nd rfl
def CV (P:Program) (x:D) (afE:List D) (s:St) (K:D→St→Prop):Prop:=
 match x with
 | .gd f nN=>enters P f=true∧CL false P f (afE++nN) s K
 |_=>False
theorem Y2 {P:Program} (dst:Option Nat) (t:Nat) (xs:List X) (r:List AI) (K:Tm→St→Prop) (tm:Tm) (s:St) :
 kp P (.jt dst none t xs::r) K tm s=CV P (tm.get t) (xs.map (·.ev tm)) s (KJ P r K tm dst):=nd rfl
theorem CV.use {P:Program} {f:Nat} {nN afE:List D} {s s':St} {d:D} {K:D→St→Prop} (he:enters P f=true) (h:aF P f (afE++nN) s d s') (k:K d s'):CV P (.gd f nN) afE s K:=⟨he,CU h k⟩
theorem Un {P:Program} (dst:Option Nat) (t:Nat) (w:Bool) (u:Nat) (xs:List X) (r:List AI) (K:Tm→St→Prop) (tm:Tm) (s:St) :
 kp P (.jt dst (some (t,w)) u xs::r) K tm s = @GB (tm.get t) w ⟨(kp P (.jt dst none u xs::r) K tm s),(kp P r K (tm.put dst (.tuple [])) s)⟩:=nd rfl
theorem Y3 {P:Program} (dst:Option Nat) (t:Nat) (w:Bool) (f:Nat) (xs:List X) (r:List AI) (K:Tm→St→Prop) (tm:Tm) (s:St) :
 kp P (.call dst (some (t,w)) f xs::r) K tm s = @GB (tm.get t) w ⟨(kp P (.call dst none f xs::r) K tm s),(kp P r K (tm.put dst (.tuple [])) s)⟩:=nd rfl
theorem abC {P:Program} (dst:Option Nat) (t:Nat) (w:Bool) (neg:Bool) (x:X) (r:List AI) (K:Tm→St→Prop) (tm:Tm) (s:St) :
 kp P (.nil dst (some (t,w)) neg x::r) K tm s = @GB (tm.get t) w ⟨(kp P (.nil dst none neg x::r) K tm s),(kp P r K (tm.put dst (.tuple [])) s)⟩:=nd rfl
theorem ajP (b:Bool) (A C:Prop) : @GB (.bool b) true ⟨A,C⟩ = @CB (.bool b) ⟨A,C⟩:=nd rfl
theorem ajQ (b:Bool) (A C:Prop) : @GB (.bool b) false ⟨A,C⟩ = @CB (.bool b) ⟨C,A⟩:=by
 cases b<;>simp[GB,CB,GJ,uO]
theorem ajR (l:List D) (w:Bool) (A C:Prop) : @GB (.tuple l) w ⟨A,C⟩=C:=nd rfl
theorem afF {P:Program} {K:Tm→St→Prop} (bG:List St) (tm:Tm) (s:St):gk P K [] bG tm s=K tm s:=nd rfl
def OJ (P:Program) (o:AO) (dst:Option Nat) (b:Nat) (r:List (AI×Nat)) (K:Tm→St→Prop) (bG:List St) (tm:Tm) (s:St):Bool→Prop
 |true=>match aJ o tm s with|some (d,s')=>gk P K r (s::bG) (tm.put dst d) s'|none=>False
 |false=>match aJ o tm s with|some (d,_)=>od (.op dst none o) tm d (bG.take b)∧gk P K r bG (tm.put dst d) s|none=>False
theorem ajT {P:Program} {K:Tm→St→Prop} (dst:Option Nat) (o:AO) (b:Nat) (r:List (AI×Nat)) (bG:List St) (tm:Tm) (s:St) :
 gk P K ((.op dst none o,b)::r) bG tm s=OJ P o dst b r K bG tm s o.core:=by
 simp only[gk,nh]
 cases o.core<;>rfl
theorem ajU {P:Program} (o:AO) (dst:Option Nat) (b:Nat) (r:List (AI×Nat)) (K:Tm→St→Prop) (bG:List St) (tm:Tm) (s:St) :
 OJ P o dst b r K bG tm s true=match aJ o tm s with|some (d,s')=>gk P K r (s::bG) (tm.put dst d) s'|none=>False:=nd rfl
theorem ajV {P:Program} (o:AO) (dst:Option Nat) (b:Nat) (r:List (AI×Nat)) (K:Tm→St→Prop) (bG:List St) (tm:Tm) (s:St) :
 OJ P o dst b r K bG tm s false=match aJ o tm s with|some (d,_)=>od (.op dst none o) tm d (bG.take b)∧gk P K r bG (tm.put dst d) s|none=>False:=nd rfl
theorem afG {P:Program} {K:Tm→St→Prop} (dst:Option Nat) (t:Nat) (w:Bool) (o:AO) (b:Nat) (r:List (AI×Nat)) (bG:List St) (tm:Tm) (s:St) :
 gk P K ((.op dst (some (t,w)) o,b)::r) bG tm s = @GB (tm.get t) w ⟨(gk P K ((.op dst none o,b)::r) bG tm s),(gk P K r (if o.core then s::bG else bG) (tm.put dst (.tuple [])) s)⟩:=by
 simp only[GB,gk,nh]
 cases o.core<;>rfl
def KG (P:Program) (K:Tm→St→Prop) (r:List (AI×Nat)) (bG:List St) (tm:Tm) (dst:Option Nat) (d:D) (s:St):Prop:=gk P K r bG (tm.put dst d) s
theorem ajW {P:Program} (K:Tm→St→Prop) (r:List (AI×Nat)) (bG:List St) (tm:Tm) (dst:Option Nat) (d:D) (s:St):KG P K r bG tm dst d s=gk P K r bG (tm.put dst d) s:=nd rfl
theorem g_call {P:Program} {K:Tm→St→Prop} (dst:Option Nat) (f:Nat) (xs:List X) (b:Nat) (r:List (AI×Nat)) (bG:List St) (tm:Tm) (s:St) :
 gk P K ((.call dst none f xs,b)::r) bG tm s=CL true P f (xs.map (·.ev tm)) s (KG P K r (s::bG) tm dst):=nd rfl
theorem Y4 {P:Program} {K:Tm→St→Prop} (dst:Option Nat) (t:Nat) (w:Bool) (f:Nat) (xs:List X) (b:Nat) (r:List (AI×Nat)) (bG:List St) (tm:Tm) (s:St) :
 gk P K ((.call dst (some (t,w)) f xs,b)::r) bG tm s = @GB (tm.get t) w ⟨(gk P K ((.call dst none f xs,b)::r) bG tm s),(gk P K r (s::bG) (tm.put dst (.tuple [])) s)⟩:=nd rfl
class Ok (p:Prop):Prop where
 out:p
instance:Ok True:=⟨trivial⟩
instance {p q:Prop} [Ok p] [Ok q] : Ok (p∧q):=⟨⟨Ok.out,Ok.out⟩⟩
instance {α:Type} (a:α):Ok (a=a):=⟨rfl⟩
instance (d:D):Ok (Wk d .junk):=⟨Wk.junk d⟩
instance {l l':List D} [Ok (jr l l')] : Ok (Wk (.tuple l) (.tuple l')):=⟨Wk.tuple Ok.out⟩
instance {l l':List D} [Ok (jr l l')] : Ok (Wk (.agg l) (.agg l')):=⟨Wk.agg Ok.out⟩
instance {g:Tag} {z:Nat} {l l':List (List D)} [Ok (gD l l')] : Ok (Wk (.slice g z l) (.slice g z l')):=⟨Wk.rows Ok.out⟩
instance {g:Tag} {z:Nat} {l l':List (List D)} [Ok (gD l l')] : Ok (Wk (.slice g z l) (.slice .shared z l')):=⟨Wk.slice Ok.out⟩
instance (z z':Nat):Ok (Wk (.slice .full z []) (.slice .full z' [])):=⟨Wk.ajF z z'⟩
instance (g:Tag) (z z':Nat):Ok (Wk (.slice g z []) (.slice .shared z' [])):=⟨Wk.nil g z z'⟩
instance (d:D):Ok (Wk d d):=⟨Wk.refl d⟩
instance:Ok (jr [] []):=⟨.nil⟩
instance {d d':D} {l l':List D} [Ok (Wk d d')] [Ok (jr l l')] : Ok (jr (d::l) (d'::l')):=⟨.cons Ok.out Ok.out⟩
instance (l:List D):Ok (jr l l):=⟨jr.refl l⟩
instance:Ok (gD [] []):=⟨.nil⟩
instance {d d':List D} {l l':List (List D)} [Ok (jr d d')] [Ok (gD l l')] : Ok (gD (d::l) (d'::l')):=⟨.cons Ok.out Ok.out⟩
instance {a a' b b':List (List D)} [Ok (gD a a')] [Ok (gD b b')] : Ok (gD (a++b) (a'++b')):=⟨gD.append Ok.out Ok.out⟩
instance (l:List (List D)):Ok (gD l l):=⟨gD.refl l⟩
theorem bs:(∀ b,(true ||b)=true)∧(∀ b,(false ||b)=b)∧(∀ b,(b ||true)=true)∧(∀ b,(b ||false)=b)∧(∀ b,(true && b)=b)∧(∀ b,(false && b)=false)∧(∀ b,(b && true)=b)∧(∀ b,(b && false)=false)∧
 (!true)=false∧(!false)=true∧(∀ b,(!!b)=b)∧((false=true)=False)∧(∀ (α β:Type) (a:α) (f:α→Option β),(some a).bind f=f a)∧
 (∀ (α β γ:Type) (x:Option α) (f:α→Option β) (g:β→Option γ),(x.bind f).bind g=x.bind fun y=>(f y).bind g):=
 ⟨Bool.true_or,Bool.false_or,Bool.or_true,Bool.or_false,Bool.true_and,Bool.false_and,Bool.and_true,Bool.and_false,rfl,rfl,Bool.not_not,by simp,fun _ _ _ _=>rfl,fun _ _ _ x f g=>Option.bind_assoc x f g⟩
attribute [go_sem] abx ajL ajM afB s_op ajO s_call abA Y1 afD Y3 abC ajP ajQ ajR afF ajT ajU ajV afG ajW g_call Y4 AO.core AI.kind AO.kind gI
attribute [go_sem] N7 N8 I3 I4 Y2 Un N3 N4 N5 N6 I5 I6 I7 I8 Q9 Ra N9 YD TR
attribute [go_sem] N2 I9 NZ N0 N1 Ja Jb Jc Rb Rc YC QU Yy TO Yz TP YA TQ QT YB TS Ny TT
attribute [go_sem] QZ Q1 Q2 Q3 Q4 Q5 Q6 Q7 Q8 NA NB NC ND NF NG NH NK NL NM NN NO NP NQ NR NS NT NU NV NW NY T5 T6 Oa Oc Od Oe Og Oh Re Rf Oi Oj Ol T7 T8 Om Rg Rh Jd Je Jf Jg T9 Ua On Oo Oq Ot Ou Ov Ow Ox Oy KZ K0 Oz OA OB OC YN YO OD OE OF K1 K3 YP YQ YR YS K4 K5 K6 K7 K8 K9 La Lb Lc Ld Lf Lg Lh Li OG OH OI OM YT YU Lj Lk YV YW Ub Uc Ud Ue Uf Ug Uh Ui Uj Ri Rj Rk Rm Rn ON OO Uk Ul Ro Y0 Rp YX YY YZ
attribute [go_sem] List.map_cons List.map_nil List.getElem?_cons_zero List.getElem?_cons_succ List.length_cons List.length_nil List.set_cons_zero List.set_cons_succ List.take_succ_cons List.take_zero List.take_nil List.drop_succ_cons List.drop_zero List.drop_nil List.cons_append List.nil_append List.append_nil Nat.zero_add Nat.add_zero Option.map_some Option.map_none
attribute [go_sem] Bool.not_false Bool.not_true List.length_map List.getElem?_map Int.toNat_natCast Int.natCast_nonneg Int.toNat_zero and_self and_true true_and
attribute [go_sem_proc ↓] reduceIte
attribute [go_sem_proc] Int.reduceLE reduceCtorEq Nat.reduceEqDiff Nat.reduceLeDiff Nat.reduceAdd Nat.reduceMul Nat.reduceSub Nat.reduceLT
theorem bo {b:Bool} {A C:Prop} (h1:b=true→A) (h:b=true:=by assumption) : @CB (.bool b) ⟨A,C⟩:=aby h h1
theorem bp {b:Bool} {A C:Prop} (h1:b=false→C) (h:b=false:=by assumption) : @CB (.bool b) ⟨A,C⟩:=abz h h1
theorem bq {b:Bool} {A C:Prop} (h1:b=true→A) (h2:b=false→C) : @CB (.bool b) ⟨A,C⟩:=⟨h1,h2⟩
theorem iZ {a b:Prop} (x:a) (y:b):a∧b:=⟨x,y⟩
theorem bH {α:Type _} (a b:α):(some a=some b)=(a=b):=Option.some.injEq a b
theorem bI {α:Sort _} {p:α→Prop} {a:α} : (∃ x,a=x∧p x)↔p a:=exists_eq_left'
theorem C2 {n m:Nat} (h:Nat.ble n m=true):n≤m:=Nat.le_of_ble_eq_true h
theorem aE {n m:Nat} {res:List (Nat×Option (Bool×Nat))} {d:D} {s':St} {e:Exit} {tm:Tm} {s:St} {Q:Exit→Tm→St→Prop} (hQ:pR n m res d s'=Q) (h : ∃ l,aV res tm s=some l∧Wk ((aX l).fg n m) d∧gD (s.cut n m).ah s'.ah∧(s.cut n m).aw=s'.aw) (he:e = .ret∨e = .normal:=by first|exact .inl rfl|exact .inr rfl):Q e tm s:=by cases he with|inl x=>cases x;exact afz hQ h|inr x=>cases x;exact afA hQ h
theorem cq {p:Prop} (h:p:=by repeat' (first|exact Ok.out|with_reducible refine iZ ?_ ?_|(simp;done))):p:=h
theorem cj {p:Prop} (h:p:=by repeat' (first|exact Ok.out|with_reducible refine iZ ?_ ?_)):p:=h
theorem fV {p:Prop} (h:p:=by(try cases h);simp only[aV,aX,bH,bI,go_sem,hD,hY,hZ,gA];repeat' (first|exact Ok.out|with_reducible refine iZ ?_ ?_|(simp;done))):p:=h
theorem bd {p:Prop} (h:p:=by simp only[aV,aX,bH,bI,go_sem,hD,hY,hZ,gA];repeat' (first|exact Ok.out|with_reducible refine iZ ?_ ?_|(simp;done))):p:=h
theorem lX_ {p:Prop} (h:p:=by simp only[go_sem,hD,hY,hZ,gA];repeat' (first|exact Ok.out|with_reducible refine iZ ?_ ?_)):p:=h
theorem fi {P:Program} {B:fU} {nt:Nat} {a:AC} {Q:Exit→Tm→St→Prop} {tm bx:Tm} {s:St} {gn:List (List D)} (n m:Nat) (h:bt P B nt a Q bx ⟨gn,(s.cut n m).aw⟩) (hn:B.s.ah.length≤n:=by rw[hB];exact C2 rfl) (hm:B.s.aw.length≤m:=by rw[hB];exact C2 rfl) (ht:wB tm n m bx:=by exact lX_) (ho:gD (s.cut n m).ah gn:=by exact lX_):bt P B nt a Q tm s:=bt.re bx gn n m hn hm ht ho h
theorem eY {P:Program} {B:fU} {nt:Nat} {a:AC} {Q:Exit→Tm→St→Prop} {tm bx:Tm} {s:St} {gn:List (List D)} (n m:Nat) (ht:wB tm n m bx) (ho:gD (s.cut n m).ah gn) (h:bt P B nt a Q bx ⟨gn,(s.cut n m).aw⟩) (hn:B.s.ah.length≤n:=by rw[hB];exact C2 rfl) (hm:B.s.aw.length≤m:=by rw[hB];exact C2 rfl):bt P B nt a Q tm s:=bt.re bx gn n m hn hm ht ho h
theorem bR:0<1∧0<1∧0<1∧0<1:=⟨Nat.zero_lt_one,Nat.zero_lt_one,Nat.zero_lt_one,Nat.zero_lt_one⟩
end Go.Abs
namespace Go.Abs
mutual
theorem OP (n m:Nat) : ∀ d,D.ok 0 0 d=true→D.fg n m d=d
 | .junk,_=>by simp[D.fg]
 | .int k n,_=>by simp[D.fg]
 | .bool b,_=>by simp[D.fg]
 | .str l,_=>by simp[D.fg]
 | .dR,_=>by simp[D.fg]
 | .val v,_=>by simp[D.fg]
 | .ew z,_=>by simp[D.fg]
 | .fq T o,h=>by simp[D.ok]at h
 | .fP o,h=>by simp[D.ok]at h
 | .gd f cs,h=>by
  simp only[D.ok]at h
  simp only[D.fg,ig n m cs h]
 | .ptr o f,h=>by simp[D.ok]at h
 | .dA r f,h=>by
  simp only[D.ok]at h
  simp only[D.fg,ig n m r h]
 | .slice g z rows,h=>by
  simp only[D.ok,Bool.and_eq_true]at h
  simp only[D.fg,Jh n m rows h.2]
  cases g with
  |tok t y=>simp[Tag.ok]at h
  |full=>rfl
  |shared=>rfl
 | .agg cs,h=>by
  simp only[D.ok]at h
  simp only[D.fg,ig n m cs h]
 | .tuple cs,h=>by
  simp only[D.ok]at h
  simp only[D.fg,ig n m cs h]
theorem ig (n m:Nat) : ∀ l,D.bL 0 0 l=true→D.gv n m l=l
 | [],_=>by simp[D.gv]
 |d::r,h=>by
  simp only[D.bL,Bool.and_eq_true]at h
  simp only[D.gv,OP n m d h.1,ig n m r h.2]
theorem Jh (n m:Nat) : ∀ l,D.gS 0 0 l=true→D.kv n m l=l
 | [],_=>by simp[D.kv]
 |d::r,h=>by
  simp only[D.gS,Bool.and_eq_true]at h
  simp only[D.kv,ig n m d h.1,Jh n m r h.2]
end
theorem gT {α:Type} {f:α→List D} (h : ∀ x,D.bL 0 0 (f x)=true) (l:List α):D.gS 0 0 (l.map f)=true:=by
 simp[Ef,h]
theorem lW {α:Type} {f:α→List D} (h : ∀ x,D.bL 0 0 (f x)=true) (n m:Nat) (l:List α):D.kv n m (l.map f)=l.map f:=Jh n m _ (gT h l)
theorem LN (n m:Nat) : ∀ a b,D.kv n m (a++b)=D.kv n m a++D.kv n m b
 | [],b=>by simp[D.kv]
 |x::a,b=>by simp[D.kv,LN n m a b]
abbrev aG:=List UInt8
structure p7 where
 kind:Int
 text:aG
 n:Int
 pos:Int
deriving DecidableEq
structure Ex where
 op:Int
 n:Int
 name:aG
 kids:List Ex
structure Ar where
 ref:Bool
 name:aG
 x:Ex
structure Sm where
 id:Int
 kind:Int
 labels:List aG
 name:aG
 proc:aG
 x:Ex
 has:Bool
 args:List Ar
 a8:List Sm
 aS:List Sm
structure Pm where
 name:aG
 ref:Bool
structure Pc where
 name:aG
 params:List Pm
 vars:List aG
 body:List Sm
 fin:List aG
structure Pg where
 globals:List aG
 procs:List Pc
def ri:Ex:=⟨0,0,[],[]⟩
def ar0:Ar:=⟨false,[],ri⟩
def Ji:Sm:=⟨0,0,[],[],[],ri,false,[],[],[]⟩
def pg0:Pg:=⟨[],[]⟩
def encStr (s:aG):List D:= [.str s]
def jU (t:p7):List D:= [.int .i64 t.kind, .str t.text, .int .i64 t.n, .int .i64 t.pos]
def sl (z:Nat) (rows:List (List D)):D:= .slice .shared z rows
mutual
def cd:Ex→List D
 |⟨op,n,name,kids⟩=> [.int .i64 op, .int .i64 n, .str name, .slice .shared 4 (vt kids)]
def vt:List Ex→List (List D)
 | []=> []
 |x::l=>cd x::vt l
end
theorem GH : ∀ l,vt l=l.map cd
 | []=>by simp[vt]
 |x::l=>by simp[vt,GH l]
theorem jc (x:Ex):cd x = [.int .i64 x.op, .int .i64 x.n, .str x.name, .slice .shared 4 (x.kids.map cd)]:=by
 cases x;simp[cd,GH]
def eC (a:Ar):List D:= [.bool a.ref, .str a.name, .int .i64 a.x.op, .int .i64 a.x.n, .str a.x.name, .slice .shared 4 (a.x.kids.map cd)]
mutual
def bh:Sm→List D
 |⟨id,kind,labels,name,proc,x,has,args,a8,aS⟩=> [.int .i64 id, .int .i64 kind, .slice .shared 1 (labels.map encStr), .str name, .str proc,
  .int .i64 x.op, .int .i64 x.n, .str x.name, .slice .shared 4 (x.kids.map cd), .bool has, .slice .shared 6 (args.map eC), .slice .shared 13 (tn a8), .slice .shared 13 (tn aS)]
def tn:List Sm→List (List D)
 | []=> []
 |x::l=>bh x::tn l
end
theorem GK : ∀ l,tn l=l.map bh
 | []=>by simp[tn]
 |x::l=>by simp[tn,GK l]
theorem ey (s:Sm):bh s = [.int .i64 s.id, .int .i64 s.kind, .slice .shared 1 (s.labels.map encStr), .str s.name, .str s.proc,
 .int .i64 s.x.op, .int .i64 s.x.n, .str s.x.name, .slice .shared 4 (s.x.kids.map cd), .bool s.has, .slice .shared 6 (s.args.map eC), .slice .shared 13 (s.a8.map bh), .slice .shared 13 (s.aS.map bh)]:=by
 cases s;simp[bh,GK]
def iH (p:Pm):List D:= [.str p.name, .bool p.ref]
def cu (p:Pc):List D:= [.str p.name, .slice .shared 2 (p.params.map iH), .slice .shared 1 (p.vars.map encStr), .slice .shared 13 (p.body.map bh), .slice .shared 1 (p.fin.map encStr)]
def cD (p:Pg):List D:= [.slice .shared 1 (p.globals.map encStr), .slice .shared 5 (p.procs.map cu)]
theorem abE (x:p7):(jU x).length=4:=nd rfl
theorem Y5 (x:p7):List.take 4 (jU x)=jU x:=nd rfl
theorem Y6 (x:p7):List.drop 4 (jU x) = []:=nd rfl
theorem Rq (x:p7):(jU x)[0]? = some (.int .i64 x.kind):=nd rfl
theorem Rr (x:p7):(jU x)[1]? = some (.str x.text):=nd rfl
theorem Rs (x:p7):(jU x)[2]? = some (.int .i64 x.n):=nd rfl
theorem Rt (x:p7):(jU x)[3]? = some (.int .i64 x.pos):=nd rfl
theorem afH (Em:Int) (WX:aG) (n_:Int) (abG:Int):jU ⟨Em,WX,n_,abG⟩ = [.int .i64 Em, .str WX, .int .i64 n_, .int .i64 abG]:=by simp only[jU]
theorem WY (x:Ex):(cd x).length=4:=by simp only[jc];rfl
theorem abH (x:Ex):List.take 4 (cd x)=cd x:=by simp only[jc];rfl
theorem abI (x:Ex):List.drop 4 (cd x) = []:=by simp only[jc];rfl
theorem Uo (x:Ex):(cd x)[0]? = some (.int .i64 x.op):=by simp only[jc];rfl
theorem Uq (x:Ex):(cd x)[1]? = some (.int .i64 x.n):=by simp only[jc];rfl
theorem Ur (x:Ex):(cd x)[2]? = some (.str x.name):=by simp only[jc];rfl
theorem Us (x:Ex):(cd x)[3]? = some (.slice .shared 4 (x.kids.map cd)):=by simp only[jc];rfl
theorem ajX (op_:Int) (n_:Int) (oN:aG) (WZ:List Ex):cd ⟨op_,n_,oN,WZ⟩ = [.int .i64 op_, .int .i64 n_, .str oN, .slice .shared 4 (WZ.map cd)]:=by simp only[jc]
theorem afI (x:Ar):(eC x).length=6:=nd rfl
theorem abJ (x:Ar):List.take 6 (eC x)=eC x:=nd rfl
theorem abK (x:Ar):List.drop 6 (eC x) = []:=nd rfl
theorem Ut (x:Ar):(eC x)[0]? = some (.bool x.ref):=nd rfl
theorem Uu (x:Ar):(eC x)[1]? = some (.str x.name):=nd rfl
theorem Uv (x:Ar):(eC x)[2]? = some (.int .i64 x.x.op):=nd rfl
theorem Uw (x:Ar):(eC x)[3]? = some (.int .i64 x.x.n):=nd rfl
theorem Ux (x:Ar):(eC x)[4]? = some (.str x.x.name):=nd rfl
theorem Uy (x:Ar):(eC x)[5]? = some (.slice .shared 4 (x.x.kids.map cd)):=nd rfl
theorem Uz (x:Ar):List.take 4 (List.drop 2 (eC x))=cd x.x:=by simp only[eC,jc];rfl
theorem ajY (Jj:Bool) (oN:aG) (x_:Ex):eC ⟨Jj,oN,x_⟩ = [.bool Jj, .str oN, .int .i64 x_.op, .int .i64 x_.n, .str x_.name, .slice .shared 4 (x_.kids.map cd)]:=by simp only[eC]
theorem H5 (x:Sm):(bh x).length=13:=by simp only[ey];rfl
theorem abL (x:Sm):List.take 13 (bh x)=bh x:=by simp only[ey];rfl
theorem abM (x:Sm):List.drop 13 (bh x) = []:=by simp only[ey];rfl
theorem UA (x:Sm):(bh x)[0]? = some (.int .i64 x.id):=by simp only[ey];rfl
theorem UB (x:Sm):(bh x)[1]? = some (.int .i64 x.kind):=by simp only[ey];rfl
theorem UC (x:Sm):(bh x)[2]? = some (.slice .shared 1 (x.labels.map encStr)):=by simp only[ey];rfl
theorem UD (x:Sm):(bh x)[3]? = some (.str x.name):=by simp only[ey];rfl
theorem UE (x:Sm):(bh x)[4]? = some (.str x.proc):=by simp only[ey];rfl
theorem UF (x:Sm):(bh x)[5]? = some (.int .i64 x.x.op):=by simp only[ey];rfl
theorem UG (x:Sm):(bh x)[6]? = some (.int .i64 x.x.n):=by simp only[ey];rfl
theorem UH (x:Sm):(bh x)[7]? = some (.str x.x.name):=by simp only[ey];rfl
theorem UI (x:Sm):(bh x)[8]? = some (.slice .shared 4 (x.x.kids.map cd)):=by simp only[ey];rfl
theorem UJ (x:Sm):(bh x)[9]? = some (.bool x.has):=by simp only[ey];rfl
theorem Ru (x:Sm):(bh x)[10]? = some (.slice .shared 6 (x.args.map eC)):=by simp only[ey];rfl
theorem Rv (x:Sm):(bh x)[11]? = some (.slice .shared 13 (x.a8.map bh)):=by simp only[ey];rfl
theorem Rw (x:Sm):(bh x)[12]? = some (.slice .shared 13 (x.aS.map bh)):=by simp only[ey];rfl
theorem UK (x:Sm):List.take 4 (List.drop 5 (bh x))=cd x.x:=by simp only[ey,jc];rfl
theorem ajZ (id_:Int) (Em:Int) (LO:List aG) (oN:aG) (W0:aG) (x_:Ex) (abN:Bool) (W1:List Ar) (abO:List Sm) (abP:List Sm):bh ⟨id_,Em,LO,oN,W0,x_,abN,W1,abO,abP⟩ = [.int .i64 id_, .int .i64 Em, .slice .shared 1 (LO.map encStr), .str oN, .str W0, .int .i64 x_.op, .int .i64 x_.n, .str x_.name, .slice .shared 4 (x_.kids.map cd), .bool abN, .slice .shared 6 (W1.map eC), .slice .shared 13 (abO.map bh), .slice .shared 13 (abP.map bh)]:=by simp only[ey]
theorem afJ (x:Pm):(iH x).length=2:=nd rfl
theorem abQ (x:Pm):List.take 2 (iH x)=iH x:=nd rfl
theorem abR (x:Pm):List.drop 2 (iH x) = []:=nd rfl
theorem UL (x:Pm):(iH x)[0]? = some (.str x.name):=nd rfl
theorem UM (x:Pm):(iH x)[1]? = some (.bool x.ref):=nd rfl
theorem aj0 (oN:aG) (Jj:Bool):iH ⟨oN,Jj⟩ = [.str oN, .bool Jj]:=by simp only[iH]
theorem afK (x:Pc):(cu x).length=5:=nd rfl
theorem abS (x:Pc):List.take 5 (cu x)=cu x:=nd rfl
theorem abT (x:Pc):List.drop 5 (cu x) = []:=nd rfl
theorem UN (x:Pc):(cu x)[0]? = some (.str x.name):=nd rfl
theorem UO (x:Pc):(cu x)[1]? = some (.slice .shared 2 (x.params.map iH)):=nd rfl
theorem UP (x:Pc):(cu x)[2]? = some (.slice .shared 1 (x.vars.map encStr)):=nd rfl
theorem UQ (x:Pc):(cu x)[3]? = some (.slice .shared 13 (x.body.map bh)):=nd rfl
theorem UR (x:Pc):(cu x)[4]? = some (.slice .shared 1 (x.fin.map encStr)):=nd rfl
theorem aj1 (oN:aG) (LP:List Pm) (W2:List aG) (W3:List Sm) (abU:List aG):cu ⟨oN,LP,W2,W3,abU⟩ = [.str oN, .slice .shared 2 (LP.map iH), .slice .shared 1 (W2.map encStr), .slice .shared 13 (W3.map bh), .slice .shared 1 (abU.map encStr)]:=by simp only[cu]
theorem afL (x:Pg):(cD x).length=2:=nd rfl
theorem abV (x:Pg):List.take 2 (cD x)=cD x:=nd rfl
theorem abW (x:Pg):List.drop 2 (cD x) = []:=nd rfl
theorem US (x:Pg):(cD x)[0]? = some (.slice .shared 1 (x.globals.map encStr)):=nd rfl
theorem UT (x:Pg):(cD x)[1]? = some (.slice .shared 5 (x.procs.map cu)):=nd rfl
theorem aj2 (Jk:List aG) (Rx:List Pc):cD ⟨Jk,Rx⟩ = [.slice .shared 1 (Jk.map encStr), .slice .shared 5 (Rx.map cu)]:=by simp only[cD]
attribute [go_sem] abE Y5 Y6 Rq Rr Rs Rt afH WY abH abI Uo Uq Ur Us ajX afI abJ abK Ut Uu Uv Uw Ux Uy Uz ajY H5 abL abM UA UB UC UD UE UF UG UH UI UJ Ru Rv Rw UK ajZ afJ abQ abR UL UM aj0 afK abS abT UN UO UP UQ UR aj1 afL abV abW US UT aj2
theorem En (s:aG):D.bL 0 0 (encStr s)=true:=rfl
theorem W4 (t:p7):D.bL 0 0 (jU t)=true:=rfl
mutual
theorem lT : ∀ x,D.bL 0 0 (cd x)=true
 |⟨op,n,name,kids⟩=>by simp[cd,D.bL,D.ok,Tag.ok,W5 kids]
theorem W5 : ∀ l,D.gS 0 0 (vt l)=true
 | []=>rfl
 |x::l=>by simp[vt,D.gS,lT x,W5 l]
end
theorem OQ (a:Ar):D.bL 0 0 (eC a)=true:=by simp[eC,D.bL,D.ok,Tag.ok,gT lT]
mutual
theorem rj : ∀ x,D.bL 0 0 (bh x)=true
 |⟨id,kind,labels,name,proc,x,has,args,a8,aS⟩=>by simp[bh,D.bL,D.ok,Tag.ok,OR a8,OR aS,gT En,gT lT,gT OQ]
theorem OR : ∀ l,D.gS 0 0 (tn l)=true
 | []=>rfl
 |x::l=>by simp[tn,D.gS,rj x,OR l]
end
theorem OS (p:Pm):D.bL 0 0 (iH p)=true:=rfl
theorem xp (p:Pc):D.bL 0 0 (cu p)=true:=by simp[cu,D.bL,D.ok,Tag.ok,gT OS,gT En,gT rj]
theorem jv (p:Pg):D.bL 0 0 (cD p)=true:=by simp[cD,D.bL,D.ok,Tag.ok,gT En,gT xp]
theorem abX (n m:Nat) (x:p7):D.gv n m (jU x)=jU x:=ig n m _ (W4 x)
theorem afM (n m:Nat) (x:Ex):D.gv n m (cd x)=cd x:=ig n m _ (lT x)
theorem afN (n m:Nat) (x:Ar):D.gv n m (eC x)=eC x:=ig n m _ (OQ x)
theorem afO (n m:Nat) (x:Sm):D.gv n m (bh x)=bh x:=ig n m _ (rj x)
theorem afP (n m:Nat) (x:Pm):D.gv n m (iH x)=iH x:=ig n m _ (OS x)
theorem afQ (n m:Nat) (x:Pc):D.gv n m (cu x)=cu x:=ig n m _ (xp x)
theorem afR (n m:Nat) (x:Pg):D.gv n m (cD x)=cD x:=ig n m _ (jv x)
attribute [go_sem] abX afM afN afO afP afQ afR
theorem fb (l:List aG):D.gS 0 0 (l.map encStr)=true:=gT En l
theorem W6 (l:List Ex):D.gS 0 0 (l.map cd)=true:=gT lT l
theorem H6 (l:List Ar):D.gS 0 0 (l.map eC)=true:=gT OQ l
theorem pD (l:List Sm):D.gS 0 0 (l.map bh)=true:=gT rj l
theorem afS (l:List Pm):D.gS 0 0 (l.map iH)=true:=gT OS l
theorem wC (l:List Pc):D.gS 0 0 (l.map cu)=true:=gT xp l
theorem Ry (n m:Nat) (l:List aG):D.kv n m (l.map encStr)=l.map encStr:=lW En n m l
theorem abY (n m:Nat) (l:List p7):D.kv n m (l.map jU)=l.map jU:=lW W4 n m l
theorem afT (n m:Nat) (l:List Ex):D.kv n m (l.map cd)=l.map cd:=lW lT n m l
theorem afU (n m:Nat) (l:List Ar):D.kv n m (l.map eC)=l.map eC:=lW OQ n m l
theorem afV (n m:Nat) (l:List Sm):D.kv n m (l.map bh)=l.map bh:=lW rj n m l
theorem afW (n m:Nat) (l:List Pm):D.kv n m (l.map iH)=l.map iH:=lW OS n m l
theorem W7 (n m:Nat) (l:List Pc):D.kv n m (l.map cu)=l.map cu:=lW xp n m l
theorem abZ (x:Ex) (r:List D):cd x++r = .int .i64 x.op:: .int .i64 x.n:: .str x.name:: .slice .shared 4 (x.kids.map cd)::r:=by rw[jc];rfl
theorem Y7 (d:D) (x:Ex):d::cd x = [d, .int .i64 x.op, .int .i64 x.n, .str x.name, .slice .shared 4 (x.kids.map cd)]:=by rw[jc]
attribute [go_sem] abZ Y7
theorem afX:((0:Nat):Int)=0:=nd rfl
theorem afY:((1:Nat):Int)=1:=nd rfl
theorem afZ:((2:Nat):Int)=2:=nd rfl
attribute [go_sem] afX afY afZ LN List.length_append List.map_append encStr ri ar0 Ji pg0 Ry abY afT afU afV afW W7
theorem mx (a b:Nat):(if(b:Int) > (a:Int)then(b:Int)else(a:Int))=((max a b:Nat):Int):=by split<;>omega
theorem ek {x:Int} (h1 : -9223372036854775808≤x) (h2:x<9223372036854775808):IntKind.wrap .i64 x=x:=by
 rw[IntKind.wrap_i64];omega
@[go_sem] theorem aI {n:Nat} (h:n<4611686018427387904):IntKind.wrap .i64 ((n:Int)+1)=((n+1:Nat):Int):=by
 rw[ek]<;>omega
def inc (n:Nat):Option Nat:=if n<4611686018427387904 then some (n+1)else none
def aj3 (n:Int):Option Int:=if -4611686018427387904<n∧n<4611686018427387904 then some (n+1)else none
@[go_sem] theorem aiJ {n:Nat} (h:n+1<4611686018427387904):IntKind.wrap .i64 ((n:Int)+1)=((n+1:Nat):Int):=by
 rw[ek]<;>omega
@[go_sem] theorem aiK {n:Nat} (h:n<4611686018427387904):IntKind.wrap .i64 ((n:Int)+2)=((n+2:Nat):Int):=by
 rw[ek]<;>omega
def ab0 {α:Type} (l:List α) (i:Nat):Option α:=if i<4611686018427387904 then l[i]? else none
def push {α:Type} (k:Nat) (l:List α) (x:α):Option (List α):=if(l.length+1)*k≤bC then some (l++ [x])else none
end Go.Abs
namespace Go.Abs
def C3 (os ts:List Nat) (tm:Tm):Tm→Prop
 | []=>True
 |(k,d)::r=>tm.get k=d.cW os ts∧d.ok os.length ts.length=true∧C3 os ts tm r
theorem C3.get {os ts:List Nat} {tm:Tm} : ∀ {bx:Tm},C3 os ts tm bx→∀ k,bx.get k = .junk∨(tm.get k=(bx.get k).cW os ts∧(bx.get k).ok os.length ts.length=true)
 | [],_,k=> .inl rfl
 |(q,d)::r,⟨h1,h2,h3⟩,k=>by
  simp only[Tm.get]
  split
  ·rename_i e;subst e;exact .inr ⟨h1,h2⟩
  ·exact h3.get k
section
variable {P:Program} {B:fU} {nt:Nat}
theorem Holds.sel {tm:Tm} {s:St} {act:Act} {w:World} (os:List Nat) (gn:List (List D)) (bx:Tm) (uz:os.Nodup) (jk : ∀ o∈os,o<s.ah.length) (hn:B.s.ah.length≤os.length)
 (hold : ∀ i,i<B.s.ah.length→os[i]? = some i) (dh : ∀ (i o:Nat),os[i]? = some o→B.s.ah.length≤i→B.s.ah.length≤o) (ho:gn.length=os.length)
 (xk : ∀ (i o:Nat) (ds:List D),os[i]? = some o→gn[i]? = some ds→s.ah[o]? = some (D.e9 os (List.range s.aw.length) ds)∧D.bL os.length s.aw.length ds=true)
 (Rz:C3 os (List.range s.aw.length) tm bx) (h:Holds B nt tm s act w):Holds B nt bx ⟨gn,s.aw⟩ act w:=by
 obtain⟨M,e,r,hr,h1,h2⟩:=h
 have ux:(List.range s.aw.length).length=s.aw.length:=List.length_range
 have rg : ∀ (i t:Nat),(List.range s.aw.length)[i]? = some t→i=t:=fun i t h=>by
  rw[List.getElem?_eq_some_iff]at h
  obtain⟨h3,h4⟩:=h
  simpa using h4
 have r0:Rel (gJ M os (List.range s.aw.length)) ⟨gn,s.aw⟩ w:=r.sub uz List.nodup_range jk ho (fun i o ds e1 e2=>by rw[ux];exact xk i o ds e1 e2) ux.symm (fun i t h=>by rw[rg i t h])
 have loc : ∀ (i:Nat) o,os[i]? = some o→(gJ M os (List.range s.aw.length)).loc i=M.loc o:=fun i o h=>by simp only[gJ,u6 h]
 have be : ∀ t,t<s.aw.length→(gJ M os (List.range s.aw.length)).be t=M.be t:=fun t h=>by
  have:(List.range s.aw.length)[t]? = some t:=List.getElem?_range h
  simp only[gJ,u6 this]
 refine⟨gJ M os (List.range s.aw.length),⟨⟨e.le.G,by rw[ho];exact hn,fun o h=>?_,e.le.t,fun t n' h e'=>?_⟩,e.kept,fun o h3 h4=>?_,fun t b c z hl hb=>?_,e.sb,e.size,e.os,e.tape,e.output⟩,r0,fun k=>?_,h1,h2⟩
 ·rw[loc o o (hold o h)];exact e.le.loc o h
 ·obtain⟨n,g1,g2,g3⟩:=e.le.tk t n' h e'
  exact⟨n,g1,g2,fun eq=>by rw[be t (Nat.lt_of_lt_of_le h e.le.t)];exact g3 eq⟩
 ·simp only at h4
  rw[ho]at h4
  obtain⟨q,hq⟩ : ∃ q,os[o]? = some q:=⟨_,List.getElem?_eq_getElem h4⟩
  have mX:(gJ M os (List.range s.aw.length)).mu o=M.mu q:=congrArg Prod.fst (loc o q hq)
  rw[mX]at h3 ⊢
  refine e.tH q ?_ (jk q (List.mem_of_getElem? hq))
  by_cases h5:B.s.ah.length≤o
  ·exact .inl (dh o q hq h5)
  ·have:=hold o (by omega)
   rw[hq]at this
   cases this
   rcases h3 with h3|h3
   ·exact(h5 h3).elim
   ·exact .inr h3
 ·obtain⟨n,qY⟩:=hl
  have hD:=(List.getElem?_eq_some_iff.1 qY).1
  rw[be t hD]at hb
  exact e.qo t b c z ⟨n,qY⟩ hb
 ·rcases Rz.get k with h3 | ⟨h3,h4⟩
  ·rw[h3];exact .junk _
  ·exact RD.B8 (M:=M) (M0:=gJ M os (List.range s.aw.length)) (s:=s) (s0:=⟨gn,s.aw⟩) rfl loc ho (fun i t h=>by
    have:=rg i t h;subst this;exact be i (by have:=(List.getElem?_eq_some_iff.1 h).1;rwa [ux]at this)) (fun i t h=>by rw[rg i t h]) ux.symm (h3 ▸ hr k) _ rfl h4
theorem bt.sel {a:AC} {Q:Exit→Tm→St→Prop} {tm:Tm} {s:St} (os:List Nat) (gn:List (List D)) (bx:Tm) (uz:os.Nodup) (jk : ∀ o∈os,o<s.ah.length) (hn:B.s.ah.length≤os.length)
 (hold : ∀ i,i<B.s.ah.length→os[i]? = some i) (dh : ∀ (i o:Nat),os[i]? = some o→B.s.ah.length≤i→B.s.ah.length≤o) (ho:gn.length=os.length)
 (xk : ∀ (i o:Nat) (ds:List D),os[i]? = some o→gn[i]? = some ds→s.ah[o]? = some (D.e9 os (List.range s.aw.length) ds)∧D.bL os.length s.aw.length ds=true)
 (Rz:C3 os (List.range s.aw.length) tm bx) (h:bt P B nt a Q bx ⟨gn,s.aw⟩):bt P B nt a Q tm s:=
 fun c hc act w hh=>h c hc act w (hh.sel os gn bx uz jk hn hold dh ho xk Rz)
mutual
def D.fK (o g:Nat) (rows:List (List D)):D→D
 | .eB z o' g' len=>if o'=o∧g'=g∧len=rows.length then .slice .shared z rows else .eB z o' g' len
 | .dA row off=> .dA (D.jw o g rows row) off
 | .slice t z rs=> .slice t z (D.rk o g rows rs)
 | .agg cs=> .agg (D.jw o g rows cs)
 | .tuple ds=> .tuple (D.jw o g rows ds)
 | .gd f cs=> .gd f (D.jw o g rows cs)
 | .ptr o off=> .ptr o off
 | .junk=> .junk
 | .int k x=> .int k x
 | .bool b=> .bool b
 | .str l=> .str l
 | .dR=> .dR
 | .val v=> .val v
 | .fq T o=> .fq T o
 | .fP o=> .fP o
 | .fu o g off=> .fu o g off
 | .ew z=> .ew z
def D.jw (o g:Nat) (rows:List (List D)):List D→List D
 | []=> []
 |d::r=>D.fK o g rows d::D.jw o g rows r
def D.rk (o g:Nat) (rows:List (List D)):List (List D)→List (List D)
 | []=> []
 |d::r=>D.jw o g rows d::D.rk o g rows r
end
theorem ou (o g:Nat) (rows:List (List D)) : ∀ l,D.jw o g rows l=l.map (D.fK o g rows)
 | []=>by simp[D.jw]
 |d::r=>by simp[D.jw,ou o g rows r]
theorem LQ (o g:Nat) (rows:List (List D)) : ∀ l,D.rk o g rows l=l.map (D.jw o g rows)
 | []=>by simp[D.rk]
 |d::r=>by simp[D.rk,LQ o g rows r]
theorem RD.fK {M:Map} {s:St} {o g:Nat} {rows:List (List D)} {b cap z:Nat} {A:Nat→Option (Nat×Nat)} (hm:M.ob o = .arr z A) (ha:A g=some (b,cap))
 (hs : ∀ row∈rows,row.length=z) (h1 : ∀ (i:Nat) (row:List D) (j:Nat) (d:D),rows[i]? = some row→row[j]? = some d→∃ u,M.G b (0+(i*z+j))=some u)
 (h2 : ∀ (i:Nat) (row:List D) (j:Nat) (d:D) (u:Value),rows[i]? = some row→row[j]? = some d→M.G b (0+(i*z+j))=some u→RD M s d u)
 {d:D} {v:Value} (h:RD M s d v):RD M s (d.fK o g rows) v:=by
 induction h with
 | eB z' o' g' len b' qs A' ho Ad wu hl=>
  simp only[D.fK]
  split
  ·rename_i hc
   obtain⟨rfl,rfl,rfl⟩:=hc
   rw[hm]at Ad
   cases Ad
   rw[ha]at wu
   cases wu
   exact .slice .shared z rows b 0 cap hl hs h1 h2 trivial
  ·exact .eB z' o' g' len b' qs A' ho Ad wu hl
 |fu z' o' g' off b' qs A' ho Ad wu=>simp only[D.fK];exact .fu z' o' g' off b' qs A' ho Ad wu
 |ew z a=>simp only[D.fK];exact .ew z a
 |junk v=>simp only[D.fK];exact .junk v
 |int k x=>simp only[D.fK];exact .int k x
 |bool b=>simp only[D.fK];exact .bool b
 |str l=>simp only[D.fK];exact .str l
 |dR=>simp only[D.fK];exact .dR
 |val v hv=>simp only[D.fK];exact .val v hv
 |fq T o v h ht hv=>simp only[D.fK];exact .fq T o v h ht hv
 |fP o h hm=>simp only[D.fK];exact .fP o h hm
 |ptr o off h hm=>simp only[D.fK];exact .ptr o off h hm
 |gd f ds vs hl _ ih=>
  simp only[D.fK,ou]
  refine .gd f _ vs (by simpa using hl) (fun i d v e1 e2=>?_)
  simp only[List.getElem?_map,Option.map_eq_some_iff]at e1
  obtain⟨d',e1,rfl⟩:=e1
  exact ih i d' v e1 e2
 | dA row off b k h1 h2 ih=>
  simp only[D.fK,ou]
  refine .dA _ off b k (fun i d e=>?_) (fun i d u e eu=>?_)
  ·simp only [List.getElem?_map,Option.map_eq_some_iff]at e
   obtain⟨d',e,rfl⟩:=e
   exact h1 i d' e
  ·simp only [List.getElem?_map,Option.map_eq_some_iff]at e
   obtain⟨d',e,rfl⟩:=e
   exact ih i d' u e eu
 |iA t z cap hc ht=>simp only[D.fK,D.rk];exact .iA _ z cap hc ht
 |lC z a cap=>simp only[D.fK,D.rk];exact .lC z a cap
 | slice t z rs b k cap hl hs h1 h2 ht ih=>
  simp only[D.fK,LQ]
  have hlen:(rs.map (D.jw o g rows)).length=rs.length:=by simp
  have key:=RD.slice (M:=M) (s:=s) t z (rs.map (D.jw o g rows)) b k cap (by rw[hlen];exact hl) (fun row hr=>by
   obtain⟨ko,h',rfl⟩:=List.mem_map.1 hr
   rw[ou,List.length_map];exact hs ko h')
   (fun i row j d e1 e2=>by
    simp only[List.getElem?_map,Option.map_eq_some_iff]at e1
    obtain⟨ko,e1,rfl⟩:=e1
    rw[ou]at e2
    simp only[List.getElem?_map,Option.map_eq_some_iff]at e2
    obtain⟨d',e2,rfl⟩:=e2
    exact h1 i ko j d' e1 e2)
   (fun i row j d u e1 e2 eu=>by
    simp only[List.getElem?_map,Option.map_eq_some_iff]at e1
    obtain⟨ko,e1,rfl⟩:=e1
    rw[ou]at e2
    simp only[List.getElem?_map,Option.map_eq_some_iff]at e2
    obtain⟨d',e2,rfl⟩:=e2
    exact ih i ko j d' u e1 e2 eu)
   (by rw[hlen];exact ht)
  rw[hlen]at key
  exact key
 |agg cells vs hl h1 _ ih=>
  simp only[D.fK,ou]
  refine .agg _ vs (by simpa using hl) h1 (fun i d v e1 e2=>?_)
  simp only[List.getElem?_map,Option.map_eq_some_iff]at e1
  obtain⟨d',e1,rfl⟩:=e1
  exact ih i d' v e1 e2
 |tuple ds vs hl _ ih=>
  simp only[D.fK,ou]
  refine .tuple _ vs (by simpa using hl) (fun i d v e1 e2=>?_)
  simp only[List.getElem?_map,Option.map_eq_some_iff]at e1
  obtain⟨d',e1,rfl⟩:=e1
  exact ih i d' v e1 e2
def fzR (o g:Nat) (rows:List (List D)) (n m:Nat) (ds:List D):List D:=D.gv n m (D.jw o g rows ds)
def W8 (o g:Nat) (rows:List (List D)) (m:Nat) (tm:Tm):Tm→Prop
 | []=>True
 |(k,d)::r=>Wk (((tm.get k).fK o g rows).fg o m) d∧W8 o g rows m tm r
end
end Go.Abs
namespace Go.Abs
mutual
def D.flat:D→Bool
 | .int _ _=>true
 | .bool _=>true
 | .str _=>true
 | .tuple ds=>D.Eo ds
 |_=>false
def D.Eo:List D→Bool
 | []=>true
 |d::r=>d.flat && D.Eo r
end
theorem GM : ∀ {l:List D},D.Eo l=true→∀ {i:Nat} {d:D},l[i]? = some d→d.flat=true
 | [],_,i,d,e=>by simp at e
 |a::l,h,i,d,e=>by
  simp only[D.Eo,Bool.and_eq_true]at h
  cases i with
  |zero=>simp at e;subst e;exact h.1
  |succ i=>exact GM h.2 (by simpa using e)
theorem RD.flat {M M':Map} {s s':St} {d:D} {v:Value} (h:RD M s d v):d.flat=true→RD M' s' d v:=by
 induction h with
 |int k n=>exact fun _=> .int k n
 |bool b=>exact fun _=> .bool b
 |str l=>exact fun _=> .str l
 |tuple ds vs hl _ ih=>exact fun hf=> .tuple ds vs hl fun i d v e1 e2=>ih i d v e1 e2 (GM (by simpa only[D.flat]using hf) e1)
 |_=>intro hf;simp only[D.flat,Bool.false_eq_true]at hf
theorem LR {n m:Nat} : ∀ {l:List D},D.bL n m l=true→∀ {i:Nat} {d:D},l[i]? = some d→d.ok n m=true
 | [],_,i,d,e=>by simp at e
 |a::l,h,i,d,e=>by
  simp only[D.bL,Bool.and_eq_true]at h
  cases i with
  |zero=>simp at e;subst e;exact h.1
  |succ i=>exact LR h.2 (by simpa using e)
theorem Rel.CW {M:Map} {s:St} {w w':World} (r:Rel M s w) (CW : ∀ k,k<w.heap.size→w'.heap[k]? = w.heap[k]?) (hs:w.heap.size≤w'.heap.size) (h1:w'.os=w.os) (h2:w'.tape=w.tape) (h3:w'.output=w.output) :
 Rel M s w'∧Ext M s w M s w':=by
 refine⟨⟨fun p o v e=>?_,fun o ds e=>?_,r.jL,r.inj,fun t n e=>?_,r.fh,r.fQ⟩,⟨Le.refl M s,fun k hk _ _=>CW k hk,fun o h h'=>by rcases h with h|h;omega;exact(h rfl).elim,fun t b c z h e=> .inl ⟨h,c,z,e⟩,fun _ _ h=>(h rfl).elim,hs,h1,h2,h3⟩⟩
 ·obtain⟨h1,h2⟩:=r.comm p o v e
  refine⟨?_,h2⟩
  rw[← h1]
  simp only[World.cell?,CW _ (r.AY e)]
 ·obtain⟨vs,T,h1,h2⟩:=r.obj o ds e
  exact⟨vs,T,h1.keep (CW _ h1.lt),h2⟩
 ·rcases r.tok t n e with h | ⟨p,cap,z,vs,T,h1,h2,h3⟩
  ·exact .inl h
  ·exact .inr ⟨p,cap,z,vs,T,h1,by rw[CW _ (ke h2)];exact h2,h3⟩
theorem aF.aj4 {P:Program} {f:FuncId} {args:List D} {d:D} {s:St} {o g z:Nat} {rows:List (List D)} {k:Nat} (hk:args[k]? = some (.eB z o g rows.length)) {more:List D}
 (ei:s.ah[o]? = some (.int .i64 (g:Int)::(rows.flatten++more))) (hs : ∀ row∈rows,row.length=z) (h:aF P f (D.jw o g rows args) S0 d S0) (ha:D.bL 0 0 (D.jw o g rows args)=true)
 (hd:d.flat=true):aF P f args s d s:=by
 intro M w fJ r hl dO ze
 have hD:=(List.getElem?_eq_some_iff.1 hk).1
 obtain⟨b0,ab2,A,_,_,hm,_⟩:=(ze k _ _ hk (Array.getElem?_eq_getElem (by omega))).xV
 have ie:nO s o g=some (rows.flatten++more):=by unfold nO;rw[ei];simp
 obtain⟨us,T,cap,hh,xY,CP,av5,hle,gZ,ib⟩:=r.ID hm ie
 have FJ:o<s.ah.length:=(List.getElem?_eq_some_iff.1 ei).1
 have hGo : ∀ q,M.G (M.mu o) q=none:=r.jL o FJ
 let M':Map:= {M with G:=fun b q=>if b=M.mu o then us[q]? else M.G b q}
 have pZ : ∀ b,b≠M.mu o→∀ q,M'.G b q=M.G b q:=fun b hb q=>if_neg hb
 have le:Le M s M' s:=⟨fun b q v hq=>by
  by_cases hb:b=M.mu o
  ·subst hb;rw[hGo]at hq;cases hq
  ·rw[pZ b hb];exact hq,Nat.le_refl _,fun _ _=> .refl _,Nat.le_refl _,fun t n' _ e=>⟨n',e,Nat.le_refl _,fun _=>rfl⟩⟩
 have gV : ∀ (i:Nat) (row:List D) (j:Nat) (d:D),rows[i]? = some row→row[j]? = some d→(rows.flatten++more)[i*z+j]? = some d:=by
  have gen : ∀ (rows:List (List D)),(∀ row∈rows,row.length=z)→∀ (i:Nat) (row:List D) (j:Nat) (d:D),rows[i]? = some row→row[j]? = some d→rows.flatten[i*z+j]? = some d:=by
   intro rows
   induction rows with
   |nil=>intro _ i row j d e1;simp at e1
   | cons a rows ih=>
    intro hs i row j d e1 e2
    have yi:=hs a (List.mem_cons_self ..)
    rw[List.flatten_cons]
    cases i with
    |zero=>
     simp at e1;subst e1
     rw[Nat.zero_mul,Nat.zero_add,List.getElem?_append_left (List.getElem?_eq_some_iff.1 e2).1];exact e2
    |succ i=>
     rw[List.getElem?_append_right (by rw[Nat.add_mul];omega),yi,show(i+1)*z+j - z=i*z+j by rw[Nat.add_mul];omega]
     exact ih (fun q hq=>hs q (List.mem_cons_of_mem _ hq)) i row j d (by simpa using e1) e2
  intro i row j d e1 e2
  have:=gen rows hs i row j d e1 e2
  rw[List.getElem?_append_left (List.getElem?_eq_some_iff.1 this).1];exact this
 have g1 : ∀ (i:Nat) (row:List D) (j:Nat) (d:D),rows[i]? = some row→row[j]? = some d→∃ u,M'.G (M.mu o) (0+(i*z+j))=some u:=fun i row j d e1 e2=>by
  have hD:=(List.getElem?_eq_some_iff.1 (gV i row j d e1 e2)).1
  refine⟨us[i*z+j]'(by omega), ?_⟩
  show(if M.mu o=M.mu o then us[0+(i*z+j)]? else _)=_
  rw[if_pos rfl,Nat.zero_add]
  exact Array.getElem?_eq_getElem _
 have g2 : ∀ (i:Nat) (row:List D) (j:Nat) (d:D) (u:Value),rows[i]? = some row→row[j]? = some d→M'.G (M.mu o) (0+(i*z+j))=some u→RD M' s d u:=fun i row j d u e1 e2 eu=>by
  have Ep:(if M.mu o=M.mu o then us[0+(i*z+j)]? else M.G (M.mu o) (0+(i*z+j)))=some u:=eu
  rw[if_pos rfl,Nat.zero_add]at Ep
  exact(ib _ d u (gV i row j d e1 e2) Ep).mono le
 have r0:Rel M' S0 w:=⟨fun b q v hq=>by
  have mL:(if b=M.mu o then us[q]? else M.G b q)=some v:=hq
  by_cases hb:b=M.mu o
  ·rw [if_pos hb]at mL
   rw[hb,jh hh]
   exact⟨mL,gZ v (Array.mem_of_getElem? mL)⟩
  ·rw [if_neg hb]at mL
   exact r.comm b q v mL,fun o ds e=>by simp[S0]at e,fun o h=>by simp[S0]at h,fun o _ h=>by simp[S0]at h,fun t n e=>by simp[S0]at e,
  fun t b c z o hl _ ho=>by simp[S0]at ho,fun t t' b c z c' z' hl=>by obtain⟨n,hn⟩:=hl;simp[S0]at hn⟩
 have l0:Laid M' S0 w:=fun q cs hq=>⟨(hl q cs hq).1,fun o ho=>by simp[S0]at ho,fun t c z ht=>by obtain⟨n,hn⟩:=ht;simp[S0]at hn⟩
 have a0 : ∀ (i:Nat) (d:D) (v:Value),(D.jw o g rows args)[i]? = some d→fJ[i]? = some v→RD M' S0 d v:=fun i d0 v e1 e2=>by
  have pK:=LR ha e1
  rw[ou,List.getElem?_map,Option.map_eq_some_iff]at e1
  obtain⟨d1,e1,rfl⟩:=e1
  have wD:=((ze i d1 v e1 e2).mono le).fK (M:=M') hm xY hs g1 g2
  exact RD.B8 (M:=M') (M0:=M') (s:=s) (s0:=S0) (os:= []) (ts:= []) rfl (by simp) rfl (by simp) (by simp) rfl wD _ (qv _ _ _ pK) pK
 refine(h M' w fJ r0 l0 (by rw[dO,ou,List.length_map]) a0).mono fun e w' ⟨M2,d2,v,s2,h1,⟨h2,h3⟩,hx,_,h4⟩=>?_
 subst h2 h3
 have CW : ∀ k,k<w.heap.size→w'.heap[k]? = w.heap[k]? :=fun k hk=>hx.kept k hk (fun o ho=>by simp[S0]at ho) (fun t c z ht=>by obtain⟨n,hn⟩:=ht;simp[S0]at hn)
 obtain⟨r',e'⟩:=r.CW CW hx.size hx.os hx.tape hx.output
 exact⟨M,d2,v,s,h1,⟨rfl,rfl⟩,e',r',h4.flat hd⟩
section
variable {P:Program} {B:fU} {nt:Nat}
theorem bM.uD {f:FuncId} {res:List (Nat×Option (Bool×Nat))} {body:AC} {args:List D} {s:St} {R:D→St→Prop} (h0:Has P f nt res body) (hl:Nat.ble args.length nt=true)
 (h : ∀ (B:fU) (Q:Exit→Tm→St→Prop),B.s=s→TI res R=Q→kb P B nt body Q (mS 0 args) s):bM P f args s R:=by
 obtain⟨fn,hf,hc⟩:=h0
 refine bM.H4 (bM.QH (Q:=R) hf hc (Nat.le_of_ble_eq_true hl) fun B hB=>iG (h B _ hB rfl)) fun d s1 h=>⟨d,s1,Wk.refl _,gD.refl _,rfl,h⟩
theorem gL {res:List (Nat×Option (Bool×Nat))} {R:D→St→Prop} {tm:Tm} {s:St} {e:Exit} {Q:Exit→Tm→St→Prop} (hQ:TI res R=Q) (h : ∃ l,aV res tm s=some l∧R (aX l) s) (he:e = .ret∨e = .normal:=by first|exact .inl rfl|exact .inr rfl):Q e tm s:=by
 subst hQ
 rcases he with rfl|rfl<;>exact h
def upD (R:D→St→Prop) (d:D) (s:St):Prop:=∃ d' s',Wk d d'∧gD s.ah s'.ah∧s.aw=s'.aw∧R d' s'
theorem bM.up {f:FuncId} {args:List D} {s:St} {R:D→St→Prop} (h:bM P f args s (upD R)):bM P f args s R:=
 bM.H4 h fun d s1 ⟨d',s',h1,h2,h3,h4⟩=>⟨d',s',h1,h2,h3,h4⟩
def vu (tm:Tm):Tm→Prop
 | []=>True
 |(k,d)::r=>Wk (tm.get k) d∧vu tm r
theorem vu.get {tm:Tm} : ∀ {bx:Tm},vu tm bx→∀ t,Wk (tm.get t) (bx.get t)
 | [],_,t=>Wk.junk _
 |(k,d)::r,h,t=>by
  simp only[Tm.get]
  split
  ·rename_i hk;subst hk;exact h.1
  ·exact vu.get h.2 t
theorem ab4 (tm:Tm):vu tm [] = True:=nd rfl
theorem ab5 (tm:Tm) (k:Nat) (d:D) (r:Tm):vu tm ((k,d)::r)=(Wk (tm.get k) d∧vu tm r):=nd rfl
attribute [go_sem] ab4 ab5
theorem Holds.pM {tm bx:Tm} {s:St} {act:Act} {w:World} (ht:vu tm bx) (h:Holds B nt tm s act w):Holds B nt bx s act w:=by
 obtain⟨M,e,r,hr,h1,h2⟩:=h
 exact⟨M,e,r,fun k=>ht.get k _ _ _ (hr k),h1,h2⟩
theorem bt.pM {a:AC} {Q:Exit→Tm→St→Prop} {tm bx:Tm} {s:St} (ht:vu tm bx) (h:bt P B nt a Q bx s):bt P B nt a Q tm s:=fun c hc act w hh=>h c hc act w (hh.pM ht)
theorem lI.pM {a r:AC} {Q:Exit→Tm→St→Prop} {tm bx:Tm} {s:St} (ht:vu tm bx) (h:lI P B nt a r Q bx s):lI P B nt a r Q tm s:=fun c rest hc hr act w hh=>h c rest hc hr act w (hh.pM ht)
theorem Sem.pM {a:AC} {Q:Exit→Tm→St→Prop} {tm bx:Tm} {s:St} (ht:vu tm bx) (h:Sem P B nt a Q bx s):Sem P B nt a Q tm s:=fun c hc act w hh=>h c hc act w (hh.pM ht)
end
theorem fW {s:St} {o:Nat} {r:List D} (h:s.ah[o]? = some r):o<s.ah.length:=(List.getElem?_eq_some_iff.1 h).1
theorem LS {s:St} {a b:Nat} {r r':List D} (h:s.ah[a]? = some r) (h':s.ah[b]? = some r') (hn:r≠r'):a≠b:=fun e=>by subst e;rw[h]at h';cases h';exact hn rfl
end Go.Abs
namespace Go.Abs
theorem aF.AN {P:Program} {f:Nat} {args:List D} {s0 s:St} {o off n m:Nat} {row:List D} (h:aF P f args s0 (.ptr o off) s) (ho:s.ah[o]? = some row) (hn:s0.ah.length≤n) (Am:n≤o) (hm:s0.aw.length≤m) :
 aF P f args s0 (.dA (D.gv n m row) off) (s.cut n m):=by
 intro M0 w0 fJ r0 kx aj5 ha
 refine(h M0 w0 fJ r0 kx aj5 ha).mono ?_
 rintro en w ⟨M,d,v0,s',rfl,⟨rfl,rfl⟩,e,r,hv⟩
 have xT:=hv.AZ
 have oZ:v0 = .pointer (some ⟨M.mu o,off,none⟩):=hv.sg.1
 have FJ:o<s'.ah.length:=(List.getElem?_eq_some_iff.1 ho).1
 obtain⟨vs,T,hh,dO,⟨gZ,_⟩,ib⟩:=r.obj o row ho
 replace hh:w.heap[M.mu o]? = some (.cells vs T (0,0)):=hh.cells xT
 let M':Map:= {M with G:=fun b q=>if b=M.mu o then vs[q]? else M.G b q}
 have hGo : ∀ q,M.G (M.mu o) q=none:=r.jL o FJ
 have le:Le M s' M' s':=⟨fun b q v hq=>by
  show(if b=M.mu o then vs[q]? else M.G b q)=some v
  by_cases hb:b=M.mu o
  ·subst hb;rw[hGo]at hq;cases hq
  ·rw[if_neg hb];exact hq,Nat.le_refl _,fun _ _=> .refl _,Nat.le_refl _,fun t n' _ e=>⟨n',e,Nat.le_refl _,fun _=>rfl⟩⟩
 have hD : ∀ q,q<(s'.cut n m).ah.length→q<s'.ah.length∧q≠o:=fun q h=>by rw[nS]at h;omega
 have wE:w0.heap.size≤M.mu o:=e.tH o (.inl (by omega)) FJ
 have ec:=e.cut hn hm
 have lec:Le M (s'.cut n m) M' (s'.cut n m):=⟨le.G,Nat.le_refl _,fun _ _=> .refl _,Nat.le_refl _,fun t n' _ e=>⟨n',e,Nat.le_refl _,fun _=>rfl⟩⟩
 have rc:=r.cut n m
 have pZ : ∀ b,b≠M.mu o→∀ q,M'.G b q=M.G b q:=fun b hb q=>if_neg hb
 refine⟨M',_,v0,_,rfl,⟨rfl,rfl⟩,⟨ec.le.trans lec,ec.kept,ec.tH,ec.qo,fun b q eO=>?_,ec.size,ec.os,ec.tape,ec.output⟩,⟨fun b q v hq=>?_,fun q ds hq=>?_,fun q hq xg=>?_,rc.inj,fun t n' Eg=>?_,rc.fh,rc.fQ⟩, ?_⟩
 ·by_cases hb:b=M.mu o
  ·subst hb;exact .inl wE
  ·rw[pZ b hb]at eO;exact ec.sb b q eO
 ·have mL:(if b=M.mu o then vs[q]? else M.G b q)=some v:=hq
  by_cases hb:b=M.mu o
  ·rw [if_pos hb]at mL
   rw[hb,jh hh]
   exact⟨mL,gZ v (Array.mem_of_getElem? mL)⟩
  ·rw [if_neg hb]at mL
   exact r.comm b q v mL
 ·obtain⟨fF,T',h3,h4,h5,h6⟩:=rc.obj q ds hq
  exact⟨fF,T',h3,h4,h5,fun i d v e1 e2=>(h6 i d v e1 e2).mono lec⟩
 ·obtain⟨h3,h4⟩:=hD q hq
  show M'.G (M.mu q) xg=none
  rw[pZ _ (fun e=>h4 (r.inj q o h3 FJ e))]
  exact r.jL q h3 xg
 ·rcases rc.tok t n' Eg with h3 | ⟨b,cap,z,fF,T',h3,h4,h5,h6,h7⟩
  ·exact .inl h3
  ·refine .inr ⟨b,cap,z,fF,T',h3,h4,h5,h6,fun xg Dq=> ?_,h7.2⟩
   rw[pZ _ (fun e=>r.fh t b cap z o (vm ⟨n',Eg⟩) h3 FJ e.symm)]
   exact h7.1 xg Dq
 ·rw [oZ]
  have:=RD.dA (M:=M') (s:=s'.cut n m) (D.gv n m row) off (M.mu o) 0 (fun i d e1=>?_) (fun i d u e1 eu=>?_)
  ·simpa using this
  ·rw [nc,List.getElem?_map,Option.map_eq_some_iff]at e1
   obtain⟨d0,e1,rfl⟩:=e1
   have hi:=(List.getElem?_eq_some_iff.1 e1).1
   refine⟨vs[i]'(by omega), ?_⟩
   show(if M.mu o=M.mu o then vs[0+i]? else _)=_
   rw[if_pos rfl,Nat.zero_add]
   exact Array.getElem?_eq_getElem _
  ·rw [nc,List.getElem?_map,Option.map_eq_some_iff]at e1
   obtain⟨d0,e1,rfl⟩:=e1
   have Ep:(if M.mu o=M.mu o then vs[0+i]? else M.G (M.mu o) (0+i))=some u:=eu
   rw[if_pos rfl,Nat.zero_add]at Ep
   exact((ib i d0 u e1 Ep).fg n m).mono lec
theorem aF.goK {P:Program} {f:FuncId} {res:List (Nat×Option (Bool×Nat))} {body:AC} {args:List D} {s:St} {d:D} {s':St} {nt:Nat} (n m:Nat) (hn:s.ah.length≤n) (hm:s.aw.length≤m) (h0:Has P f nt res body) (hl:Nat.ble args.length nt=true)
 (h : ∀ (B:fU) (Q:Exit→Tm→St→Prop),B.s=s→pR n m res d s'=Q→kb P B nt body Q (mS 0 args) s):aF P f args s d s':=by
 obtain⟨fn,hf,hc⟩:=h0
 refine bM.H4 (bM.intro (Q:=fun d1 s1=>Wk d1 d∧gD s1.ah s'.ah∧s1.aw=s'.aw) hf hc (Nat.le_of_ble_eq_true hl) fun B hB=>(iG (h B _ hB rfl)).mono fun e tm s1 hr=>?_) fun d1 s1 ⟨h1,h2,h3⟩=>⟨d,s',h1,h2,h3,rfl,rfl⟩
 subst hB
 cases e with
 |normal=>obtain⟨l,h1,h2,h3,h4⟩:=hr;exact⟨l,h1,_,_,hn,hm,h2,h3,h4⟩
 |ret=>obtain⟨l,h1,h2,h3,h4⟩:=hr;exact⟨l,h1,_,_,hn,hm,h2,h3,h4⟩
 |exit id=>exact hr.elim
 |goto l=>exact hr.elim
 |panic ch=>exact hr.elim
 |outgrown=>exact hr.elim
section
variable (s:St) (o g off len k z size bytes:Nat) (kk:IntKind)
theorem af0:nO s o g=match s.ah[o]? with|some (.int .i64 n::cells)=>if n=(g:Int)then some cells else none|_=>none:=nd rfl
theorem ab7 (agg:Bool):yP (.fu o g off) agg size s=match nO s o g with|some cells=>(match part cells off agg size with|some d=>some (d,s)|none=>none)|none=>none:=nd rfl
theorem Y8 (r:List D):AV (.fu o g off) (some r) size s=match nO s o g with
 |some cells=>if r.length=size∧off+size≤cells.length then some (.tuple [],⟨s.ah.set o (.int .i64 g::iz cells off r),s.aw⟩)else none
 |none=>none:=nd rfl
theorem af1:MF (.fu o g off)=some (.fu o g off):=nd rfl
theorem Y9:D2 (.fu o g k) off=some (.fu o g (k+off)):=nd rfl
theorem Za:xR (.eB z o g len) (.int kk (k:Int)) size=if k<len then(if z=size then some (.fu o g (k*z))else none)else none:=by
 simp only[xR]
 by_cases h1:k<len<;>by_cases h2:z=size<;>simp[h1,h2]
theorem af2:Ft (.eB z o g len)=some (.int .i64 len):=nd rfl
theorem ab8:Ft (.ew z)=some (.int .i64 0):=nd rfl
theorem Jm {z bytes:Nat} (t:Tag) (r:List D) (s:St) (hm:bytes+1≤bC):AW z bytes (.ew z) (.slice t z [r]) s=some (.eB z s.ah.length 0 1,⟨s.ah++ [.int .i64 ((0:Nat):Int)::r],s.aw⟩):=by
 simp[AW,hm]
theorem af3 (n m:Nat):D.fg n m (.eB z o g len)=if o<n then .eB z o g len else .junk:=nd (by simp only[D.fg])
theorem af4 (n m:Nat):D.fg n m (.fu o g off)=if o<n then .fu o g off else .junk:=nd (by simp only[D.fg])
theorem af5 (n m:Nat):D.fg n m (.ew z) = .ew z:=nd (by simp only[D.fg])
theorem ab9:(D.eB z o g len).row=some [.eB z o g len]:=nd rfl
theorem aca:(D.fu o g off).row=some [.fu o g off]:=nd rfl
theorem acb:(D.ew z).row=some [.ew z]:=nd rfl
end
attribute [go_sem] af0 ab7 Y8 af1 Y9 Za af2 ab8 af3 af4 af5 ab9 aca acb
theorem Wk.ew (z z':Nat):Wk (.slice .full z []) (.ew z'):=fun M s v h=>by
 cases h with
 |iA _ _ cap hc ht=>subst hc;exact .ew z' none
 |slice _ _ _ b k cap hl hs h1 h2 ht=>
  have:cap=0:=ht
  subst this
  exact .ew z' _
instance (z z':Nat):Ok (Wk (.slice .full z []) (.ew z')):=⟨Wk.ew z z'⟩
instance {a a' b b':List D} [Ok (jr a a')] [Ok (jr b b')] : Ok (jr (a++b) (a'++b')):=⟨jr.append Ok.out Ok.out⟩
theorem af6 (n m:Nat) (a b:List D):D.gv n m (a++b)=D.gv n m a++D.gv n m b:=nd (by simp only[nc,List.map_append])
attribute [go_sem] af6
def Bm (os:List Nat) (m:Nat) (ah:List (List D)):List Nat→List (List D)→Prop
 | [],[]=>True
 |o::l,ds::r=>ah[o]? = some (D.e9 os (List.range m) ds)∧D.bL os.length m ds=true∧Bm os m ah l r
 |_,_=>False
theorem Bm.get {os:List Nat} {m:Nat} {ah:List (List D)} : ∀ {l:List Nat} {r:List (List D)},Bm os m ah l r→r.length=l.length∧∀ (i o:Nat) (ds:List D),l[i]? = some o→r[i]? = some ds→ah[o]? = some (D.e9 os (List.range m) ds)∧D.bL os.length m ds=true
 | [],[],_=>⟨rfl,fun i o ds h=>by simp at h⟩
 |o::l,ds::r,⟨h1,h2,h3⟩=>by
  obtain⟨g1,g2⟩:=h3.get
  refine⟨by simp[g1],fun i o' nJ e1 e2=>?_⟩
  cases i with
  |zero=>simp at e1 e2;subst e1 e2;exact⟨h1,h2⟩
  |succ i=>exact g2 i o' nJ (by simpa using e1) (by simpa using e2)
 | [],_::_,h=>h.elim
 |_::_,[],h=>h.elim
section
variable {P:Program} {B:fU} {nt:Nat} {a:AC} {Q:Exit→Tm→St→Prop} {tm:Tm} {s:St}
theorem bt.aj6 (hB:B.s = ⟨[],[]⟩) (os:List Nat) (gn:List (List D)) (bx:Tm) (uz:os.Nodup) (jk : ∀ o∈os,o<s.ah.length) (xk:Bm os s.aw.length s.ah os gn) (Rz:C3 os (List.range s.aw.length) tm bx)
 (h:bt P B nt a Q bx ⟨gn,s.aw⟩):bt P B nt a Q tm s:=
 bt.sel os gn bx uz jk (by rw[hB];exact Nat.zero_le _) (fun i h=>by rw[hB]at h;exact absurd h (Nat.not_lt_zero _)) (fun i o _ _=>by rw[hB];exact Nat.zero_le _) xk.get.1 xk.get.2 Rz h
end
section
variable (os ts:List Nat) (n m:Nat)
theorem af7 (o off:Nat):D.cW os ts (.ptr o off)=match os[o]? with|some o'=> .ptr o' off|none=> .junk:=nd (by simp only[D.cW]<;>rfl)
theorem af8 (z o g len:Nat):D.cW os ts (.eB z o g len)=match os[o]? with|some o'=> .eB z o' g len|none=> .junk:=nd (by simp only[D.cW]<;>rfl)
theorem Zb (g:Tag) (z:Nat) (rows:List (List D)):D.cW os ts (.slice g z rows) = .slice (g.cW ts) z (D.nT os ts rows):=nd (by simp only[D.cW])
theorem af9 (l:List D):D.cW os ts (.agg l) = .agg (D.e9 os ts l):=nd (by simp only[D.cW])
theorem acd:D.cW os ts .junk = .junk:=nd (by simp only[D.cW])
theorem aga (k:IntKind) (x:Int):D.cW os ts (.int k x) = .int k x:=nd (by simp only[D.cW])
theorem ace (b:Bool):D.cW os ts (.bool b) = .bool b:=nd (by simp only[D.cW])
theorem agb (l:List UInt8):D.cW os ts (.str l) = .str l:=nd (by simp only[D.cW])
theorem acf:D.cW os ts .dR = .dR:=nd (by simp only[D.cW])
theorem acg (z:Nat):D.cW os ts (.ew z) = .ew z:=nd (by simp only[D.cW])
theorem Zc:D.e9 os ts [] = []:=nd (by simp only[D.e9])
theorem Zd (d:D) (l:List D):D.e9 os ts (d::l)=D.cW os ts d::D.e9 os ts l:=nd (by simp only[D.e9])
theorem UU:Tag.cW ts .shared = .shared:=nd rfl
theorem ach:Tag.cW ts .full = .full:=nd rfl
theorem Ze (o off:Nat):D.ok n m (.ptr o off)=decide (o<n):=nd (by simp only[D.ok])
theorem Zf (z o g len:Nat):D.ok n m (.eB z o g len)=decide (o<n):=nd (by simp only[D.ok])
theorem RA (g:Tag) (z:Nat) (rows:List (List D)):D.ok n m (.slice g z rows)=(g.ok m && D.gS n m rows):=nd (by simp only[D.ok])
theorem Zg (l:List D):D.ok n m (.agg l)=D.bL n m l:=nd (by simp only[D.ok])
theorem UW:D.ok n m .junk=true:=nd (by simp only[D.ok])
theorem Zh (k:IntKind) (x:Int):D.ok n m (.int k x)=true:=nd (by simp only[D.ok])
theorem UX (b:Bool):D.ok n m (.bool b)=true:=nd (by simp only[D.ok])
theorem Zi (l:List UInt8):D.ok n m (.str l)=true:=nd (by simp only[D.ok])
theorem UY:D.ok n m .dR=true:=nd (by simp only[D.ok])
theorem UZ (z:Nat):D.ok n m (.ew z)=true:=nd (by simp only[D.ok])
theorem aci:D.bL n m [] = true:=nd (by simp only[D.bL])
theorem acj (d:D) (l:List D):D.bL n m (d::l)=(D.ok n m d && D.bL n m l):=nd (by simp only[D.bL])
theorem OT:Tag.ok m .shared=true:=nd rfl
theorem U0:Tag.ok m .full=true:=nd rfl
theorem Zj (os:List Nat) (m:Nat) (ah:List (List D)):Bm os m ah [] [] = True:=nd rfl
theorem Zk (os:List Nat) (m:Nat) (ah:List (List D)) (o:Nat) (l:List Nat) (ds:List D) (r:List (List D)):Bm os m ah (o::l) (ds::r)=(ah[o]? = some (D.e9 os (List.range m) ds)∧D.bL os.length m ds=true∧Bm os m ah l r):=nd rfl
theorem ack (tm:Tm):C3 os ts tm [] = True:=nd rfl
theorem acm (tm:Tm) (k:Nat) (d:D) (r:Tm):C3 os ts tm ((k,d)::r)=(tm.get k=d.cW os ts∧d.ok os.length ts.length=true∧C3 os ts tm r):=nd rfl
theorem Jn (rows:List (List D)) (h:D.gS 0 0 rows=true):D.nT os ts rows=rows:=jl os ts rows h
theorem Er (row:List D) (h:D.bL 0 0 row=true):D.e9 os ts row=row:=fC os ts row h
theorem OU (rows:List (List D)) (h:D.gS 0 0 rows=true):D.gS n m rows=true:=mD (Nat.zero_le n) (Nat.zero_le m) rows h
theorem H7 (row:List D) (h:D.bL 0 0 row=true):D.bL n m row=true:=iB (Nat.zero_le n) (Nat.zero_le m) row h
theorem LU (p:Pg):D.e9 os ts (cD p)=cD p:=Er _ _ _ (jv p)
theorem Zl (p:Sm):D.e9 os ts (bh p)=bh p:=Er _ _ _ (rj p)
theorem U1 (l:List Pc):D.nT os ts (l.map cu)=l.map cu:=Jn _ _ _ (wC l)
theorem U2 (l:List Sm):D.nT os ts (l.map bh)=l.map bh:=Jn _ _ _ (pD l)
theorem RB (l:List aG):D.nT os ts (l.map encStr)=l.map encStr:=Jn _ _ _ (fb l)
theorem Zm (p:Pc):D.e9 os ts (cu p)=cu p:=Er _ _ _ (xp p)
theorem acn (p:Pc):D.bL n m (cu p)=true:=H7 _ _ _ (xp p)
theorem RC (p:Pg):D.bL n m (cD p)=true:=H7 _ _ _ (jv p)
theorem aco (p:Sm):D.bL n m (bh p)=true:=H7 _ _ _ (rj p)
theorem Zn (l:List Pc):D.gS n m (l.map cu)=true:=OU _ _ _ (wC l)
theorem Zo (l:List Sm):D.gS n m (l.map bh)=true:=OU _ _ _ (pD l)
theorem U3 (l:List aG):D.gS n m (l.map encStr)=true:=OU _ _ _ (fb l)
theorem OV : ∀ l:List Pc,D.bL 0 0 ((l.map cu).flatten)=true:=fun l=>by
 have h:=wC l
 rw[Ef,List.all_eq_true]at h
 rw[yd,List.all_eq_true]
 intro d hd
 obtain⟨r,hr,hd⟩:=List.mem_flatten.1 hd
 have:=h r hr
 rw[yd,List.all_eq_true]at this
 exact this d hd
theorem U4 (l:List Pc):D.e9 os ts ((l.map cu).flatten)=(l.map cu).flatten:=Er _ _ _ (OV l)
theorem Zp (l:List Pc):D.bL n m ((l.map cu).flatten)=true:=H7 _ _ _ (OV l)
theorem Zq (l:List Pc):D.gv n m ((l.map cu).flatten)=(l.map cu).flatten:=ig _ _ _ (OV l)
end
attribute [go_sem] Zm acn af7 af8 Zb af9 acd aga ace agb acf acg Zc Zd UU ach Ze Zf RA Zg UW Zh UX Zi UY UZ aci acj OT U0 Zj Zk ack acm LU Zl U1 U2 RB RC aco Zn Zo U3 U4 Zp Zq
mutual
theorem Jo (o g:Nat) (rows:List (List D)) : ∀ d,D.ok 0 0 d=true→D.fK o g rows d=d
 | .junk,_=>by simp[D.fK]
 | .int k n,_=>by simp[D.fK]
 | .bool b,_=>by simp[D.fK]
 | .str l,_=>by simp[D.fK]
 | .dR,_=>by simp[D.fK]
 | .val v,_=>by simp[D.fK]
 | .ew z,_=>by simp[D.fK]
 | .fq T o,h=>by simp[D.ok]at h
 | .fP o,h=>by simp[D.ok]at h
 | .eB z o g len,h=>by simp[D.ok]at h
 | .fu o g off,h=>by simp[D.ok]at h
 | .ptr o f,h=>by simp[D.ok]at h
 | .gd f cs,h=>by
  simp only[D.ok]at h
  simp only[D.fK,sn o g rows cs h]
 | .dA r f,h=>by
  simp only[D.ok]at h
  simp only[D.fK,sn o g rows r h]
 | .slice t z rs,h=>by
  simp only[D.ok,Bool.and_eq_true]at h
  simp only[D.fK,yj o g rows rs h.2]
 | .agg cs,h=>by
  simp only[D.ok]at h
  simp only[D.fK,sn o g rows cs h]
 | .tuple cs,h=>by
  simp only[D.ok]at h
  simp only[D.fK,sn o g rows cs h]
theorem sn (o g:Nat) (rows:List (List D)) : ∀ l,D.bL 0 0 l=true→D.jw o g rows l=l
 | [],_=>by simp[D.jw]
 |d::r,h=>by
  simp only[D.bL,Bool.and_eq_true]at h
  simp only[D.jw,Jo o g rows d h.1,sn o g rows r h.2]
theorem yj (o g:Nat) (rows:List (List D)) : ∀ l,D.gS 0 0 l=true→D.rk o g rows l=l
 | [],_=>by simp[D.rk]
 |d::r,h=>by
  simp only[D.gS,Bool.and_eq_true]at h
  simp only[D.rk,sn o g rows d h.1,yj o g rows r h.2]
end
section
variable (o g:Nat) (rows:List (List D)) (n m:Nat)
theorem agc (q off:Nat):D.fK o g rows (.ptr q off) = .ptr q off:=nd (by simp only[D.fK])
theorem acp (q h off:Nat):D.fK o g rows (.fu q h off) = .fu q h off:=nd (by simp only[D.fK])
theorem agd (z o' g' len:Nat):D.fK o g rows (.eB z o' g' len)=if o'=o∧g'=g∧len=rows.length then .slice .shared z rows else .eB z o' g' len:=nd (by simp only[D.fK])
theorem Zr (t:Tag) (z:Nat) (rs:List (List D)):D.fK o g rows (.slice t z rs) = .slice t z (D.rk o g rows rs):=nd (by simp only[D.fK])
theorem age (l:List D):D.fK o g rows (.agg l) = .agg (D.jw o g rows l):=nd (by simp only[D.fK])
theorem acq:D.fK o g rows .junk = .junk:=nd (by simp only[D.fK])
theorem agf (k:IntKind) (x:Int):D.fK o g rows (.int k x) = .int k x:=nd (by simp only[D.fK])
theorem acr (b:Bool):D.fK o g rows (.bool b) = .bool b:=nd (by simp only[D.fK])
theorem agh (l:List UInt8):D.fK o g rows (.str l) = .str l:=nd (by simp only[D.fK])
theorem Zs:D.jw o g rows [] = []:=nd (by simp only[D.jw])
theorem Zt (d:D) (l:List D):D.jw o g rows (d::l)=D.fK o g rows d::D.jw o g rows l:=nd (by simp only[D.jw])
theorem aj7 (p:Pg):D.jw o g rows (cD p)=cD p:=sn _ _ _ _ (jv p)
theorem agi (l:List Pc):D.rk o g rows (l.map cu)=l.map cu:=yj _ _ _ _ (wC l)
theorem agj (l:List Sm):D.rk o g rows (l.map bh)=l.map bh:=yj _ _ _ _ (pD l)
theorem acs (l:List aG):D.rk o g rows (l.map encStr)=l.map encStr:=yj _ _ _ _ (fb l)
theorem agk (ds:List D):fzR o g rows n m ds=D.gv n m (D.jw o g rows ds):=nd rfl
theorem acu (tm:Tm):W8 o g rows m tm [] = True:=nd rfl
theorem acv (tm:Tm) (k:Nat) (d:D) (r:Tm):W8 o g rows m tm ((k,d)::r)=(Wk (((tm.get k).fK o g rows).fg o m) d∧W8 o g rows m tm r):=nd rfl
end
attribute [go_sem] agc acp agd Zr age acq agf acr agh Zs Zt aj7 agi agj acs agk acu acv
end Go.Abs
namespace Go.Abs
mutual
def Ex.size:Ex→Nat
 |⟨_,_,_,kids⟩=>1+Ex.a7 kids
def Ex.a7:List Ex→Nat
 | []=>0
 |x::l=>1+x.size+Ex.a7 l
end
mutual
def Ex.depth:Ex→Nat
 |⟨_,_,_,kids⟩=>Ex.p8 kids+1
def Ex.p8:List Ex→Nat
 | []=>0
 |x::l=>max x.depth (Ex.p8 l)
end
def acw (x:Ex):Option Int:=if x.size<4611686018427387904 then some (x.depth:Int)else none
theorem Ex.dm {x:Ex} : ∀ {l:List Ex},x∈l→x.size<Ex.a7 l
 |y::l,h=>by
  simp only[Ex.a7]
  rcases List.mem_cons.1 h with rfl|h
  ·omega
  ·have:=Ex.dm h;omega
theorem Ex.eJ : ∀ (l:List Ex),l.length≤Ex.a7 l
 | []=>Nat.le_refl _
 |x::l=>by simp only[Ex.a7,List.length_cons];have:=Ex.eJ l;omega
def OW (t:p7):Int×Int:=
 if t.kind != 4 then(0,0)
 else if t.text == [124,124]then(17,1)
 else if t.text == [38,38]then(16,2)
 else if t.text == [61,61]then(14,3)
 else if t.text == [33,61]then(15,3)
 else if t.text == [60]then(10,4)
 else if t.text == [60,61]then(11,4)
 else if t.text == [62]then(12,4)
 else if t.text == [62,61]then(13,4)
 else if t.text == [43]then(8,5)
 else if t.text == [45]then(9,5)
 else if t.text == [42]then(5,6)
 else if t.text == [47]then(6,6)
 else if t.text == [37]then(7,6)
 else(0,0)
structure Rd where
 l:List p7
 i:Nat
 code:Int
 Jp:Int
 n:Nat
abbrev Rd.good (r:Rd):Bool:=r.code==0
def Rd.vv (r:Rd):Option p7:=(ab0 r.l r.i).bind fun t=>if decide (0≤t.kind) && decide (t.kind≤4)then some t else none
def Rd.bad (c:Int) (r:Rd):Option Rd:=if r.good then r.vv.bind fun t=>some {r with code:=c,Jp:=t.pos}else some r
def Rd.is (text:aG) (r:Rd):Option Bool:=r.vv.bind fun t=>some ((t.kind==3 ||t.kind==4) && t.text==text)
def Rd.take (text:aG) (r:Rd):Option (Bool×Rd):=
 if !r.good then some (false,r)else(r.is text).bind fun b=>if !b then some (false,r)else some (true,{r with i:=r.i+1})
def Rd.want (text:aG) (r:Rd):Option Rd:=(r.take text).bind fun p=>if !p.1 then p.2.bad 3 else some p.2
def Rd.name (room:Bool) (r:Rd):Option (aG×Rd):=
 r.vv.bind fun t=>if !r.good ||t.kind != 1 then(r.bad 3).bind fun r=>some ([],r)else if !room then(r.bad 4).bind fun r=>some ([],r)else some (t.text,{r with i:=r.i+1})
def Rd.on (r:Rd):Rd:= {r with i:=r.i+1}
mutual
def Rd.one:Nat→Rd→Option (Ex×Rd)
 | 0,_=>none
 | n+1,r=>r.vv.bind fun t=>
  if !r.good then some (ri,r)
  else if t.kind==2 then some (⟨1,t.n,[],[]⟩,{r with i:=r.i+1})
  else if t.kind==1 then some (⟨2,0,t.text,[]⟩,{r with i:=r.i+1})
  else(r.take [40]).bind fun p=>
   if p.1 then(Rd.two n 1 p.2).bind fun x=>(x.2.want [41]).bind fun r=>some (x.1,r)
   else(p.2.take [45]).bind fun p=>
    if p.1 then(Rd.one n p.2).bind fun x=>some (⟨3,0,[],[x.1]⟩,x.2)
    else(p.2.take [33]).bind fun p=>
     if p.1 then(Rd.one n p.2).bind fun x=>some (⟨4,0,[],[x.1]⟩,x.2)
     else(p.2.bad 3).bind fun r=>some (ri,r)
def Rd.two:Nat→Int→Rd→Option (Ex×Rd)
 | 0,_,_=>none
 |n+1,least,r=>(Rd.one n r).bind fun x=>Rd.acx n least x.1 x.2
def Rd.acx:Nat→Int→Ex→Rd→Option (Ex×Rd)
 | 0,_,_,_=>none
 | n+1,least,x,r=>
  if r.good then r.vv.bind fun t=>
   if decide ((OW t).2<least) ||(OW t).1==0 then some (x,r)
   else(Rd.two n ((OW t).2+1) {r with i:=r.i+1}).bind fun y=>Rd.acx n least ⟨(OW t).1,0,[],[x,y.1]⟩ y.2
  else some (x,r)
end
def Rd.whole (n:Nat) (r:Rd):Option (Ex×Rd):=
 r.vv.bind fun t=>(Rd.two n 1 r).bind fun x=>
  if x.2.good then(acw x.1).bind fun d=>if decide (d > 20)then some (x.1,{x.2 with code:=4,Jp:=t.pos})else some (x.1,x.2)
  else some (x.1,x.2)
def Rd.names:Nat→List aG→Int→Rd→Option (List aG×Rd)
 | 0,_,_,_=>none
 | n+1,l,acy,r=>
  if r.good then(r.name (decide ((l.length:Int)<acy))).bind fun p=>(push 17 l p.1).bind fun l=>(p.2.take [44]).bind fun q=>
   if !q.1 then(q.2.want [59]).bind fun r=>some (l,r)else Rd.names n l acy q.2
  else some (l,r)
def Rd.ahead (sign:aG) (r:Rd):Option Bool:=
 if r.good then r.vv.bind fun t=>if t.kind==1 then(ab0 r.l (r.i+1)).bind fun u=>some (u.kind==4 && u.text==sign)else some false
 else some false
def Rd.labels:Nat→List aG→Rd→Option (List aG×Rd)
 | 0,_,_=>none
 |n+1,l,r=>(r.ahead [58]).bind fun b=>if b then r.vv.bind fun t=>(push 17 l t.text).bind fun l=>Rd.labels n l {r with i:=r.i+2}else some (l,r)
def Rd.acz (r:Rd):Option Bool:=
 r.vv.bind fun t=>some (if t.kind==1 then true else if t.kind != 3 then false
  else t.text == [105,102] ||t.text == [119,104,105,108,101] ||t.text == [98,114,101,97,107] ||t.text == [99,111,110,116,105,110,117,101] ||t.text == [114,101,116,117,114,110] ||t.text == [103,111,116,111] ||t.text == [114,101,97,100] ||t.text == [112,114,105,110,116])
def Rd.OX (m:Nat):Nat→List Ar→Rd→Option (List Ar×Rd)
 | 0,_,_=>none
 | n+1,l,r=>
  if r.good then(r.take [114,101,102]).bind fun p=>
   if p.1 then(p.2.name true).bind fun x=>(push 81 l ⟨true,x.1,ri⟩).bind fun l=>(x.2.take [44]).bind fun c=>if !c.1 then some (l,c.2)else Rd.OX m n l c.2
   else(Rd.whole m p.2).bind fun x=>(push 81 l ⟨false,[],x.1⟩).bind fun l=>(x.2.take [44]).bind fun c=>if !c.1 then some (l,c.2)else Rd.OX m n l c.2
  else some (l,r)
def Rd.other (sign:aG) (r:Rd):Option Bool:=if r.good then(r.is sign).bind fun b=>some !b else some false
def Rd.call (m:Nat) (name proc:aG) (r:Rd):Option (Sm×Rd):=
 (r.want [40]).bind fun r=>(r.other [41]).bind fun b=>
  if b then(Rd.OX m m [] r).bind fun q=>(q.2.want [41]).bind fun r=>(r.want [59]).bind fun r=>some (⟨0,4,[],name,proc,ri,false,q.1,[],[]⟩,r)
  else(r.want [41]).bind fun r=>(r.want [59]).bind fun r=>some (⟨0,4,[],name,proc,ri,false,[],[],[]⟩,r)
def Rd.named (m:Nat) (r:Rd):Option (Sm×Rd):=
 (r.name true).bind fun x=>(x.2.is [40]).bind fun b=>
  if b then Rd.call m [] x.1 x.2
  else(x.2.want [61]).bind fun r=>(r.ahead [40]).bind fun b=>
   if b then(r.name true).bind fun y=>Rd.call m x.1 y.1 y.2
   else(Rd.whole m r).bind fun y=>(y.2.want [59]).bind fun r=>some (⟨0,1,[],x.1,[],y.1,false,[],[],[]⟩,r)
def Rd.plain (m:Nat) (word:aG) (r:Rd):Option (Sm×Rd):=
 if word == [98,114,101,97,107]then some (⟨0,7,[],[],[],ri,false,[],[],[]⟩,r)
 else if word == [99,111,110,116,105,110,117,101]then some (⟨0,8,[],[],[],ri,false,[],[],[]⟩,r)
 else if word == [114,101,116,117,114,110]then(r.is [59]).bind fun b=>
  if !b then(Rd.whole m r).bind fun x=>some (⟨0,9,[],[],[],x.1,true,[],[],[]⟩,x.2)else some (⟨0,9,[],[],[],ri,false,[],[],[]⟩,r)
 else if word == [103,111,116,111]then(r.name true).bind fun x=>some (⟨0,10,[],x.1,[],ri,false,[],[],[]⟩,x.2)
 else if word == [114,101,97,100]then(r.name true).bind fun x=>some (⟨0,2,[],x.1,[],ri,false,[],[],[]⟩,x.2)
 else if word == [112,114,105,110,116]then(Rd.whole m r).bind fun x=>some (⟨0,3,[],[],[],x.1,false,[],[],[]⟩,x.2)
 else some (Ji,r)
def Rd.head (m:Nat) (r:Rd):Option (Ex×Rd):=(r.want [40]).bind fun r=>(Rd.whole m r).bind fun x=>(x.2.want [41]).bind fun r=>some (x.1,r)
mutual
def Rd.rows (m:Nat):Nat→Int→Bool→Rd→Option ((List Sm×List aG)×Rd)
 | 0,_,_,_=>none
 |n+1,nest,body,r=>Rd.W9 m n nest body [] r
def Rd.W9 (m:Nat):Nat→Int→Bool→List Sm→Rd→Option ((List Sm×List aG)×Rd)
 | 0,_,_,_,_=>none
 | n+1,nest,body,out,r=>
  if r.good then(Rd.labels m [] r).bind fun l=>(l.2.is [125]).bind fun b=>
   if b && (body ||(l.1.length:Int)==0)then some ((out,l.1),{l.2 with i:=l.2.i+1})
   else(Rd.stmt m n nest l.2).bind fun s=>(push 209 out {s.1 with labels:=l.1}).bind fun out=>Rd.W9 m n nest body out s.2
  else some (([],[]),r)
def Rd.stmt (m:Nat):Nat→Int→Rd→Option (Sm×Rd)
 | 0,_,_=>none
 | n+1,nest,r=>r.acz.bind fun b=>
  if !b then(r.bad 3).bind fun r=>some (Ji,r)
  else(inc r.n).bind fun k=>
   if decide ((k:Int) > 200) ||decide (nest > 12)then(({r with n:=k} : Rd).bad 4).bind fun r=>some (Ji,r)
   else({r with n:=k} : Rd).vv.bind fun t=>
    if t.kind==1 then Rd.named m {r with n:=k}
    else if t.text == [105,102]then Rd.choice m n nest {r with n:=k,i:=r.i+1}
    else if t.text == [119,104,105,108,101]then(Rd.head m {r with n:=k,i:=r.i+1}).bind fun x=>(Rd.block m n nest x.2).bind fun b=>some (⟨0,6,[],[],[],x.1,false,[],b.1,[]⟩,b.2)
    else(Rd.plain m t.text {r with n:=k,i:=r.i+1}).bind fun s=>(s.2.want [59]).bind fun r=>some (s.1,r)
def Rd.block (m:Nat):Nat→Int→Rd→Option (List Sm×Rd)
 | 0,_,_=>none
 |n+1,nest,r=>(r.want [123]).bind fun r=>(aj3 nest).bind fun k=>(Rd.rows m n k false r).bind fun p=>some (p.1.1,p.2)
def Rd.choice (m:Nat):Nat→Int→Rd→Option (Sm×Rd)
 | 0,_,_=>none
 |n+1,nest,r=>(Rd.head m r).bind fun x=>(Rd.block m n nest x.2).bind fun t=>(t.2.take [101,108,115,101]).bind fun q=>
  if q.1 then(Rd.block m n nest q.2).bind fun e=>some (⟨0,5,[],[],[],x.1,false,[],t.1,e.1⟩,e.2)
  else some (⟨0,5,[],[],[],x.1,false,[],t.1,[]⟩,q.2)
end
def Rd.params:Nat→List Pm→Rd→Option (List Pm×Rd)
 | 0,_,_=>none
 | n+1,l,r=>
  if r.good then(r.take [114,101,102]).bind fun q=>(q.2.name (decide ((l.length:Int)<8))).bind fun x=>(push 25 l ⟨x.1,q.1⟩).bind fun l=>(x.2.take [44]).bind fun c=>
   if !c.1 then some (l,c.2)else Rd.params n l c.2
  else some (l,r)
def Rd.vars (m:Nat):Nat→List aG→Rd→Option (List aG×Rd)
 | 0,_,_=>none
 |n+1,l,r=>(r.take [118,97,114]).bind fun q=>if q.1 then(Rd.names m l 16 q.2).bind fun x=>Rd.vars m n x.1 x.2 else some (l,q.2)
def Rd.Xa (m:Nat) (name:aG) (ps:List Pm) (r:Rd):Option (Pc×Rd):=
 (Rd.vars m m [] r).bind fun v=>(Rd.rows m m 1 true v.2).bind fun b=>some (⟨name,ps,v.1,b.1.1,b.1.2⟩,b.2)
def Rd.proc (m:Nat) (r:Rd):Option (Pc×Rd):=
 (r.name true).bind fun x=>(x.2.want [40]).bind fun r=>(r.other [41]).bind fun b=>
  if b then(Rd.params m [] r).bind fun q=>(q.2.want [41]).bind fun r=>(r.want [123]).bind fun r=>Rd.Xa m x.1 q.1 r
  else(r.want [41]).bind fun r=>(r.want [123]).bind fun r=>Rd.Xa m x.1 [] r
def Rd.globals (m:Nat):Nat→List aG→Rd→Option (List aG×Rd)
 | 0,_,_=>none
 |n+1,l,r=>(r.take [103,108,111,98,97,108]).bind fun q=>if q.1 then(Rd.names m l 16 q.2).bind fun x=>Rd.globals m n x.1 x.2 else some (l,q.2)
def Rd.acA (r:Rd):Option Bool:=if r.good then r.is [112,114,111,99]else some false
def Rd.RE (r:Rd):Option Bool:=if r.good then r.vv.bind fun t=>some (t.kind != 0)else some false
def Rd.procs (m:Nat):Nat→List Pc→Rd→Option (List Pc×Rd)
 | 0,_,_=>none
 | n+1,l,r=>r.acA.bind fun b=>
  if b then
   if(l.length:Int)==16 then(r.bad 4).bind fun r=>some (l,r)
   else(Rd.proc m {r with i:=r.i+1}).bind fun x=>(push 113 l x.1).bind fun l=>Rd.procs m n l x.2
  else r.RE.bind fun b=>if b then(r.bad 3).bind fun r=>some (l,r)else some (l,r)
def Rd.program (m:Nat) (r:Rd):Option (Pg×Rd):=(Rd.globals m m [] r).bind fun g=>(Rd.procs m m [] g.2).bind fun q=>some (⟨g.1,q.1⟩,q.2)
mutual
def Ex.beq:Ex→Ex→Bool
 |⟨op,n,name,kids⟩,⟨op',n',OY,Xb⟩=>if op != op' ||n != n' || !(name==OY) ||(kids.length:Int) != (Xb.length:Int)then false else Ex.pS kids Xb
def Ex.pS:List Ex→List Ex→Bool
 | [],_=>true
 |_::_,[]=>true
 |x::l,y::l'=>if !Ex.beq x y then false else Ex.pS l l'
end
def Ar.a7:List Ar→Nat
 | []=>0
 |a::l=>1+a.x.size+Ar.a7 l
mutual
def Sm.size:Sm→Nat
 |⟨_,_,labels,_,_,x,_,args,a8,aS⟩=>1+labels.length+x.size+Ar.a7 args+Sm.a7 a8+Sm.a7 aS
def Sm.a7:List Sm→Nat
 | []=>0
 |s::l=>1+s.size+Sm.a7 l
end
def Pc.size (f:Pc):Nat:=1+f.params.length+f.vars.length+f.fin.length+Sm.a7 f.body
def Pc.a7:List Pc→Nat
 | []=>0
 |f::l=>1+f.size+Pc.a7 l
def Pg.size (p:Pg):Nat:=1+p.globals.length+Pc.a7 p.procs
mutual
def Sm.num (b:Bool) (n:Nat):Sm→Sm×Nat
 |⟨id,kind,labels,name,proc,x,has,args,a8,aS⟩=>
  (⟨if b then((n+1:Nat):Int)else id,kind,labels,name,proc,x,has,args,(Sm.tT b (n+1) a8).1,(Sm.tT b (Sm.tT b (n+1) a8).2 aS).1⟩,(Sm.tT b (Sm.tT b (n+1) a8).2 aS).2)
def Sm.tT (b:Bool) (n:Nat):List Sm→List Sm×Nat
 | []=>([],n)
 |s::l=>((Sm.num b n s).1::(Sm.tT b (Sm.num b n s).2 l).1,(Sm.tT b (Sm.num b n s).2 l).2)
end
def Pc.tT (n:Nat):List Pc→List Pc
 | []=> []
 |f::l=> {f with body:=(Sm.tT true n f.body).1}::Pc.tT (Sm.tT true n f.body).2 l
def Pg.number (p:Pg):Pg:= {p with procs:=Pc.tT 0 p.procs}
def Pg.Zu (p:Pg):Option Pg:=if p.size<1073741824 then some p.number else none
theorem Sm.eJ : ∀ (l:List Sm),l.length≤Sm.a7 l
 | []=>Nat.le_refl _
 |x::l=>by simp only[Sm.a7,List.length_cons];have:=Sm.eJ l;omega
theorem Ar.eJ : ∀ (l:List Ar),l.length≤Ar.a7 l
 | []=>Nat.le_refl _
 |x::l=>by simp only[Ar.a7,List.length_cons];have:=Ar.eJ l;omega
theorem Pc.eJ : ∀ (l:List Pc),l.length≤Pc.a7 l
 | []=>Nat.le_refl _
 |x::l=>by simp only[Pc.a7,List.length_cons];have:=Pc.eJ l;omega
theorem Ar.dm {x:Ar} : ∀ {l:List Ar},x∈l→x.x.size<Ar.a7 l
 |y::l,h=>by
  simp only[Ar.a7]
  rcases List.mem_cons.1 h with rfl|h
  ·omega
  ·have:=Ar.dm h;omega
theorem Sm.dm {x:Sm} : ∀ {l:List Sm},x∈l→x.size<Sm.a7 l
 |y::l,h=>by
  simp only[Sm.a7]
  rcases List.mem_cons.1 h with rfl|h
  ·omega
  ·have:=Sm.dm h;omega
theorem Pc.dm {x:Pc} : ∀ {l:List Pc},x∈l→x.size<Pc.a7 l
 |y::l,h=>by
  simp only[Pc.a7]
  rcases List.mem_cons.1 h with rfl|h
  ·omega
  ·have:=Pc.dm h;omega
mutual
def Sm.jx:Sm→Nat
 |⟨_,_,_,_,_,_,_,_,a8,aS⟩=>1+Sm.jd a8+Sm.jd aS
def Sm.jd:List Sm→Nat
 | []=>0
 |s::l=>s.jx+Sm.jd l
end
structure Im where
 s:Sm
 proc:Int
 up:Int
 next:Int
 loop:Int
mutual
def Im.one (proc up next loop:Int) (out:List Im):Sm→List Im
 | ⟨id,kind,labels,name,pc,x,has,args,a8,aS⟩=>
  Im.rows proc ((out.length:Int)+1) (if kind==6 then(out.length:Int)+1 else next) (if kind==6 then(out.length:Int)+1 else loop)
   (Im.rows proc ((out.length:Int)+1) (if kind==6 then(out.length:Int)+1 else next) (if kind==6 then(out.length:Int)+1 else loop) (out++ [⟨⟨id,kind,labels,name,pc,x,has,args,a8,aS⟩,proc,up,next,loop⟩]) a8) aS
def Im.rows (proc up next loop:Int) (out:List Im):List Sm→List Im
 | []=>out
 |s::l=>Im.rows proc up next loop (Im.one proc up (if l.length=0 then next else(out.length:Int)+1+(s.jx:Int)) loop out s) l
end
theorem Im.acB (proc up next loop:Int) (out:List Im) (s:Sm):Im.one proc up next loop out s =
 Im.rows proc ((out.length:Int)+1) (if s.kind==6 then(out.length:Int)+1 else next) (if s.kind==6 then(out.length:Int)+1 else loop)
  (Im.rows proc ((out.length:Int)+1) (if s.kind==6 then(out.length:Int)+1 else next) (if s.kind==6 then(out.length:Int)+1 else loop) (out++ [⟨s,proc,up,next,loop⟩]) s.a8) s.aS:=by
 cases s;simp only[Im.one]
mutual
theorem Zv (proc up next loop:Int) (out:List Im) : ∀ s:Sm,(Im.one proc up next loop out s).length=out.length+s.jx
 |⟨id,kind,labels,name,pc,x,has,args,a8,aS⟩=>by
  simp only[Im.one,Sm.jx]
  rw[gF,gF]
  simp only[List.length_append,List.length_cons,List.length_nil];omega
theorem gF (proc up next loop:Int) (out:List Im) : ∀ l:List Sm,(Im.rows proc up next loop out l).length=out.length+Sm.jd l
 | []=>rfl
 |s::l=>by
  simp only[Im.rows,Sm.jd]
  rw[gF,Zv];omega
end
mutual
theorem Du : ∀ s:Sm,s.jx≤s.size
 |⟨_,_,labels,_,_,x,_,args,a8,aS⟩=>by
  have:=nL a8;have:=nL aS
  simp only[Sm.jx,Sm.size];omega
theorem nL : ∀ l:List Sm,Sm.jd l≤Sm.a7 l
 | []=>Nat.le_refl _
 |s::l=>by
  have:=Du s;have:=nL l
  simp only[Sm.jd,Sm.a7];omega
end
structure Sh where
 L:List Im
 lo:List Int
 hi:List Int
def Sh.go (i:Nat) (h:Sh):List Pc→Sh
 | []=>h
 |f::l=>Sh.go (i+1) ⟨Im.rows i 0 (-1) 0 h.L f.body,h.lo++ [(h.L.length:Int)+1],h.hi++ [((Im.rows i 0 (-1) 0 h.L f.body).length:Int)+1]⟩ l
def Pg.aY (p:Pg):Sh:=Sh.go 0 ⟨[],[],[]⟩ p.procs
def Zw:Nat:=3
def Xc:Nat:=4
def Xd:Nat:=5
def U5:Nat:=6
def wF:Nat:=7
def Xe:Nat:=8
def Zx:Nat:=9
def Xf:Nat:=10
def Xg:Nat:=11
def U6:Nat:=12
def Xh:Nat:=13
def U7:Nat:=14
def xq:Nat:=15
def xr:Nat:=16
def vw:Nat:=17
def aeU:Nat:=18
def qj:Nat:=19
def sN:Nat:=20
def tU:Nat:=21
def lX:Nat:=22
def aaA:Nat:=23
def rm:Nat:=24
def tV:Nat:=25
def agl:Nat:=26
def aeV:Nat:=27
def lA:Nat:=28
def nj:Nat:=29
def aeW:Nat:=30
def acC:Nat:=31
def aeX:Nat:=32
def zh:Nat:=33
def Zy:Nat:=34
def Xi:Nat:=35
def rn:Nat:=36
def aaB:Nat:=37
def xu:Nat:=38
def xv:Nat:=39
def jH:Nat:=40
def gp:Nat:=41
def kK:Nat:=42
def kS:Nat:=43
def jm:Nat:=44
def iC:Nat:=45
def o6:Nat:=46
def oB:Nat:=47
def qw:Nat:=48
def oD:Nat:=49
def acD:Nat:=50
def LV:Nat:=51
def OZ:Nat:=52
def xw:Nat:=53
def aeY:Nat:=54
def p9:Nat:=55
def U8:Nat:=56
def acE:Nat:=57
def U9:Nat:=58
def aeZ:Nat:=59
def agm:Nat:=60
def aaC:Nat:=61
def zi:Nat:=62
def Xj:Nat:=63
def nn:Nat:=64
def nV:Nat:=65
def kq:Nat:=66
def aaD:Nat:=67
def rp:Nat:=68
def lf:Nat:=69
def uP:Nat:=70
def jZ:Nat:=71
def j7:Nat:=72
def vx:Nat:=73
def o7:Nat:=74
def gh:Nat:=75
def lO:Nat:=76
def iL:Nat:=77
def jV:Nat:=78
def eA:Nat:=79
def oO:Nat:=80
def qa:Nat:=81
def kL:Nat:=82
def agn:Nat:=83
def acF:Nat:=84
def xx:Nat:=85
def aaE:Nat:=86
def P7:Nat:=87
def LW:Nat:=88
def acG:Nat:=89
def aaF:Nat:=90
def O0:Nat:=91
def O1:Nat:=92
def LX:Nat:=93
def RF:Nat:=94
def lY:Nat:=95
def qk:Nat:=96
def vy:Nat:=97
def tW:Nat:=98
def xy:Nat:=99
def Xk:Nat:=100
def ago:Nat:=101
def Xl:Nat:=102
def Zz:Nat:=103
def rr:Nat:=104
def Bn:Nat:=105
def zj:Nat:=106
def tX:Nat:=107
def mI:Nat:=108
def kz:Nat:=109
def sO:Nat:=110
def fX:Nat:=111
def wG:Nat:=112
def np:Nat:=113
def gM:Nat:=114
def cr:Nat:=115
def acH:Nat:=116
def acI:Nat:=117
def acJ:Nat:=118
def Xm:Nat:=119
def mJ:Nat:=120
def P8:Nat:=121
def ZA:Nat:=122
def acK:Nat:=123
def acL:Nat:=124
def agp:Nat:=125
def agq:Nat:=126
def O2:Nat:=127
def oe:Nat:=128
def fY:Nat:=129
def oP:Nat:=130
def ql:Nat:=131
def vz:Nat:=132
def ry:Nat:=133
def qb:Nat:=134
def vA:Nat:=135
def rz:Nat:=136
def sq:Nat:=137
def acM:Nat:=138
def agr:Nat:=139
def Xn:Nat:=140
def xA:Nat:=141
def o8:Nat:=142
def rA:Nat:=143
def tY:Nat:=144
def lg:Nat:=145
def o9:Nat:=146
def ags:Nat:=147
def acN:Nat:=148
def acO:Nat:=149
def acP:Nat:=150
def aaG:Nat:=151
def ae0:Nat:=152
def ae1:Nat:=153
def aiM:Nat:=154
def Xo:Nat:=155
def aaH:Nat:=156
def aaI:Nat:=157
def acQ:Nat:=158
def ae2:Nat:=159
def aaJ:Nat:=160
def acR:Nat:=161
def agt:Nat:=162
def agu:Nat:=163
def Xp:Nat:=164
def ZB:Nat:=165
def acS:Nat:=166
def kT:Nat:=167
def rB:Nat:=168
def vB:Nat:=169
def vC:Nat:=170
def tZ:Nat:=171
def xB:Nat:=172
def jy:Nat:=173
def jS:Nat:=174
def xC:Nat:=175
def zk:Nat:=176
def rC:Nat:=177
def zl:Nat:=178
def acT:Nat:=179
def ae3:Nat:=180
def agv:Nat:=181
def acU:Nat:=182
def ZC:Nat:=183
def agw:Nat:=184
def ae4:Nat:=185
def agx:Nat:=186
def ae5:Nat:=187
def ae6:Nat:=188
def rD:Nat:=189
def gN:Nat:=190
def oQ:Nat:=191
def ub:Nat:=192
def Es:Nat:=193
def Xq:Nat:=194
def jz:Nat:=195
def uc:Nat:=196
def sr:Nat:=197
def acV:Nat:=198
def acW:Nat:=199
def ae7:Nat:=200
def ZD:Nat:=201
def ae8:Nat:=202
def agy:Nat:=203
def Ll:Nat:=204
def aaK:Nat:=205
def aaL:Nat:=206
def iR:Nat:=207
def Bo:Nat:=208
def DX:Nat:=209
def Bp:Nat:=210
def CA:Nat:=211
def Cc:Nat:=212
def xN:Nat:=213
def Ti:Nat:=214
def AH:Nat:=215
def Dv:Nat:=216
def Tj:Nat:=217
def Tk:Nat:=218
def acX:Nat:=219
def ae9:Nat:=220
def afa:Nat:=221
def aaM:Nat:=222
def acY:Nat:=223
def DY:Nat:=224
def KK:Nat:=225
def Lm:Nat:=226
def AJ:Nat:=227
def Fq:Nat:=228
def RG:Nat:=229
def Fs:Nat:=230
abbrev AI.o (t:Nat) (a:AO):AI:= .op (some t) none a
abbrev AI.g (t c:Nat) (b:Bool) (a:AO):AI:= .op (some t) (some (c,b)) a
abbrev AI.c (t f:Nat) (l:List X):AI:= .call (some t) none f l
abbrev AI.d (t c:Nat) (b:Bool) (f:Nat) (l:List X):AI:= .call (some t) (some (c,b)) f l
abbrev AI.m (t:Nat) (x:X):AI:= .op (some t) none (.mv x)
abbrev bu:X:= .s 0
abbrev br:X:= .s 1
abbrev dw:X:= .s 2
abbrev cz:X:= .s 3
abbrev ff:X:= .s 4
abbrev cm:X:= .s 5
abbrev dC:X:= .s 6
abbrev cZ:X:= .s 7
abbrev db:X:= .s 8
abbrev dg:X:= .s 9
abbrev cb:X:= .s 10
abbrev cJ:X:= .s 11
abbrev cU:X:= .s 12
abbrev c6:X:= .s 13
abbrev cO:X:= .s 14
abbrev dD:X:= .s 15
abbrev dj:X:= .s 16
abbrev dG:X:= .s 17
abbrev dE:X:= .s 18
abbrev dY:X:= .s 19
abbrev ez:X:= .s 20
abbrev ep:X:= .s 21
abbrev eH:X:= .s 22
abbrev eI:X:= .s 23
abbrev eR:X:= .s 24
abbrev eU:X:= .s 25
abbrev fp:X:= .s 26
abbrev fv:X:= .s 27
abbrev fZ:X:= .s 28
abbrev gb:X:= .s 29
abbrev gy:X:= .s 30
abbrev gu:X:= .s 31
abbrev gQ:X:= .s 32
abbrev gG:X:= .s 33
abbrev iD:X:= .s 34
abbrev gR:X:= .s 35
abbrev ix:X:= .s 36
abbrev je:X:= .s 37
abbrev jO:X:= .s 38
abbrev jA:X:= .s 39
abbrev j8:X:= .s 40
abbrev jP:X:= .s 41
abbrev kE:X:= .s 42
abbrev kr:X:= .s 43
abbrev kF:X:= .s 44
abbrev lJ:X:= .s 45
abbrev lK:X:= .s 46
abbrev lU:X:= .s 47
abbrev kU:X:= .s 48
abbrev kV:X:= .s 49
abbrev lL:X:= .s 50
abbrev kG:X:= .s 51
abbrev kH:X:= .s 52
abbrev kW:X:= .s 53
abbrev lM:X:= .s 54
abbrev lN:X:= .s 55
abbrev nq:X:= .s 56
abbrev oE:X:= .s 57
abbrev nW:X:= .s 58
abbrev lV:X:= .s 59
abbrev pb:X:= .s 60
abbrev qx:X:= .s 61
abbrev pT:X:= .s 62
abbrev qy:X:= .s 63
abbrev qz:X:= .s 64
abbrev ud:X:= .s 65
abbrev vD:X:= .s 66
abbrev vE:X:= .s 67
abbrev vF:X:= .s 68
abbrev zm:X:= .s 69
abbrev zn:X:= .s 70
abbrev Dw:X:= .s 71
abbrev Bq:X:= .s 72
abbrev Br:X:= .s 73
abbrev Dx:X:= .s 74
abbrev Dy:X:= .s 75
abbrev Bs:X:= .s 76
abbrev Dz:X:= .s 77
abbrev zo:X:= .s 78
abbrev FK:X:= .s 79
abbrev FL:X:= .s 80
abbrev FM:X:= .s 81
abbrev Jq:X:= .s 82
abbrev Jr:X:= .s 83
abbrev Js:X:= .s 84
abbrev Jt:X:= .s 85
abbrev Ju:X:= .s 86
abbrev Jv:X:= .s 87
abbrev Jw:X:= .s 88
abbrev DA:X:= .s 89
abbrev FN:X:= .s 90
abbrev Jx:X:= .s 91
abbrev O3:X:= .s 92
abbrev Va:X:= .s 93
abbrev Vb:X:= .s 94
abbrev Vc:X:= .s 95
abbrev acZ:X:= .s 96
abbrev ac0:X:= .s 97
abbrev ac1:X:= .s 98
abbrev ac2:X:= .s 99
abbrev Xr:X:= .s 100
abbrev Xs:X:= .s 101
abbrev Xt:X:= .s 102
abbrev Xu:X:= .s 103
abbrev Xv:X:= .s 104
abbrev Xw:X:= .s 105
abbrev Xx:X:= .s 106
abbrev Xy:X:= .s 107
abbrev Xz:X:= .s 108
abbrev agz:X:= .s 109
abbrev XA:X:= .s 110
abbrev XB:X:= .s 111
abbrev O4:X:= .s 112
abbrev XC:X:= .s 113
abbrev XD:X:= .s 114
abbrev XE:X:= .s 115
abbrev XF:X:= .s 116
abbrev XG:X:= .s 117
abbrev XH:X:= .s 118
abbrev XI:X:= .s 119
abbrev XJ:X:= .s 120
abbrev XK:X:= .s 121
abbrev XL:X:= .s 122
abbrev XM:X:= .s 123
abbrev XN:X:= .s 124
abbrev XO:X:= .s 125
abbrev agA:X:= .s 126
abbrev XP:X:= .s 127
abbrev Et:X:= .s 128
abbrev XQ:X:= .s 129
abbrev XR:X:= .s 130
abbrev agB:X:= .s 131
abbrev agC:X:= .s 132
abbrev agD:X:= .s 133
abbrev agE:X:= .s 134
abbrev agF:X:= .s 135
abbrev agG:X:= .s 136
abbrev agH:X:= .s 137
abbrev agI:X:= .s 138
abbrev agJ:X:= .s 139
abbrev agK:X:= .s 140
abbrev agL:X:= .s 141
abbrev agM:X:= .s 142
abbrev agN:X:= .s 143
abbrev agO:X:= .s 144
abbrev agP:X:= .s 145
abbrev agQ:X:= .s 146
abbrev agR:X:= .s 147
abbrev agS:X:= .s 148
abbrev agT:X:= .s 149
abbrev agU:X:= .s 150
abbrev agV:X:= .s 151
abbrev agW:X:= .s 152
abbrev agX:X:= .s 153
abbrev agY:X:= .s 154
abbrev agZ:X:= .s 155
abbrev ag0:X:= .s 156
abbrev ag1:X:= .s 157
abbrev ag2:X:= .s 158
abbrev ag3:X:= .s 159
abbrev ag4:X:= .s 160
abbrev ag5:X:= .s 161
abbrev ag6:X:= .s 162
abbrev ag7:X:= .s 163
abbrev ag8:X:= .s 164
abbrev ag9:X:= .s 165
abbrev aha:X:= .s 166
abbrev ahb:X:= .s 167
abbrev ahc:X:= .s 168
abbrev ahd:X:= .s 169
abbrev ahe:X:= .s 170
abbrev ahf:X:= .s 171
abbrev ahg:X:= .s 172
abbrev ahh:X:= .s 173
abbrev ahi:X:= .s 174
abbrev ahj:X:= .s 175
abbrev Q04:AC:= .cond cJ (.seq (.run [.o 8 (.mv (.k (.bool false)))]) .ret) .skip
abbrev Q09:AC:= .cond cO (.seq (.run [.o 8 (.mv (.k (.bool true)))]) .ret) .skip
abbrev Q0E:AC:= .cond eR (.seq (.run [.o 8 (.mv (.k (.bool true)))]) .ret) .skip
abbrev Q0K:AC:= .cond jO (.seq (.run [.o 8 (.mv (.k (.bool false)))]) .ret) .skip
abbrev Q0R:AC:= .par [.o 47 (.load dg true 5), .o 48 (.load ff true 2), .o 49 (.du [(.int .i64 0)] 1 0 []), .m 50 br, .o 51 (.app 1 8 kV lL), .m 52 dw, .o 53 (.app 1 8 kG kH), .m 54 cz, .c 55 lX [kU,kW,lM], .c 56 qj [lU,lN], .m 57 nq, .g 58 57 true (.load dg true 5), .g 59 57 true (.load ff true 2), .g 60 57 true (.mv br), .g 61 57 true (.aq dg 2), .g 62 57 true (.load qx false 1), .g 63 57 true (.CK 1 pb none (some pT)), .g 64 57 true (.mv cz), .d 65 57 true lX [lV,qy,qz], .d 66 57 true qj [nW,ud], .o 67 (.pick oE vD (.k (.bool false))), .m 8 vE] [(2,0),(3,0),(4,0),(5,0),(6,0),(1,2),(7,0),(8,0),(0,3),(9,0),(10,0),(12,0),(13,0),(14,0),(15,0),(16,0),(17,0),(18,0),(11,1),(19,0),(20,0),(21,0)]
abbrev Q0T:AC:= .seq (.seq (.run [.o 39 (.aq dg 0), .o 40 (.load jA false 1), .o 41 (.bin .eql j8 (.k (.int .i64 3)))]) (.cond jP (.seq (.run [.o 42 (.aq dg 2), .o 43 (.load kE false 1), .m 44 br, .o 45 (.len kF), .o 46 (.bin .eql kr lJ), .m 8 lK]) .ret) .skip)) (.seq Q0R .ret)
abbrev Q0U:AC:= .seq (.seq (.run [.o 29 (.aq dg 2), .o 30 (.load gb false 1), .o 31 (.bin .lss gy (.k (.int .i64 0))), .m 32 gu, .g 33 32 false (.aq dg 2), .g 34 32 false (.load gG false 1), .g 35 32 false (.mv br), .g 36 32 false (.len gR), .g 37 32 false (.bin .gtr iD ix), .o 38 (.pick gQ (.k (.bool true)) je)]) Q0K) Q0T
abbrev Q0W:AC:= .seq (.seq (.run [.o 15 (.load ff true 2), .m 16 br, .m 17 cz, .c 18 tU [dD,dj,dG], .o 19 (.un .not dE), .m 20 dY, .g 21 20 false (.mv dw), .g 22 20 false (.len ep), .g 23 20 false (.bin .gtr eH (.k (.int .i64 50))), .o 24 (.pick ez (.k (.bool true)) eI)]) Q0E) (.seq (.run [.o 25 (.load ff true 2), .m 26 br, .m 27 cz, .c 28 lX [eU,fp,fv], .o 9 (.alloc [(.int .i64 0),(.int .i64 0),(.int .i64 0),(.slice .full 0 []),(.slice .full 0 [])]), .op none none (.store dg fZ 5)]) Q0U)
abbrev Q0Z:AC:= .seq (.run [.o 4 (.box bu), .o 8 (.mv (.k (.bool false)))]) (.seq (.seq (.run [.c 10 xq [], .o 11 (.un .not cb)]) Q04) (.seq (.seq (.run [.o 12 (.load ff true 2), .c 13 xr [cU], .o 14 (.un .not c6)]) Q09) Q0W))
abbrev Q12:AC:= .run [.m 9 dw, .o 10 (.bin .eql dg (.k (.int .i64 0))), .m 11 cb, .g 12 11 true (.aq br 0), .g 13 11 true (.load cU false 1), .g 14 11 true (.bin .eql c6 (.k (.int .i64 1))), .o 15 (.pick cJ cO (.k (.bool false))), .m 16 dD, .g 17 16 true (.aq br 1), .g 18 16 true (.load dG false 1), .g 19 16 true (.bin .eql dE (.k (.int .i64 7))), .o 20 (.pick dj dY (.k (.bool false))), .m 21 ez, .g 22 21 true (.aq br 3), .g 23 21 true (.load eH false 1),(.g 24 21 true (.du [(.int .i64 0)] 1 2 [(0,(.k (.int .i64 5))),(1,(.k (.int .i64 5)))])), .d 25 21 true lA [eI,eR], .o 26 (.pick ep eU (.k (.bool false))), .m 27 fp, .g 28 27 true (.aq br 4), .g 29 27 true (.load fZ false 1), .g 30 27 true (.len gb), .g 31 27 true (.bin .eql gy (.k (.int .i64 2))), .o 32 (.pick fv gu (.k (.bool false))), .m 33 gQ, .g 34 33 true (.aq br 4), .g 35 33 true (.load iD false 1), .g 36 33 true (.cf gR (.k (.int .i64 0)) 2), .g 37 33 true (.aq ix 0), .g 38 33 true (.load je false 1), .g 39 33 true (.bin .eql jO (.k (.int .i64 2))), .o 40 (.pick gG jA (.k (.bool false))), .m 41 j8, .g 42 41 true (.aq br 4), .g 43 41 true (.load kE false 1), .g 44 41 true (.cf kr (.k (.int .i64 1)) 2), .g 45 41 true (.aq kF 1), .g 46 41 true (.load lJ false 1),(.g 47 41 true (.du [(.int .i64 0)] 1 1 [(0,(.k (.int .i64 5)))])), .d 48 41 true lA [lK,lU], .o 49 (.pick jP kU (.k (.bool false))), .m 50 kV, .g 51 50 true (.load br true 5), .d 52 50 true xu [kG], .g 53 50 true (.qP .real kH kH),(.g 54 50 true (.qP .eq kW (.k (.val (.float .f64 4619567317775286272))))), .o 55 (.pick lL lM (.k (.bool false))), .m 0 lN]
abbrev Q14:AC:= .seq (.run [.c 4 xv [],(.o 5 (.du [(.int .i64 0)] 1 2 [(0,(.k (.int .i64 5))),(1,(.k (.int .i64 2)))])),(.c 6 vw [ff,(.k (.slice .full 0 [])),(.k (.int .i64 50)),cm]), .m 3 dC, .o 7 (.ext cz 0), .o 8 (.ext cz 1), .o 1 (.alloc [(.int .i64 0),(.int .i64 0),(.int .i64 0),(.slice .full 0 []),(.slice .full 0 [])]), .op none none (.store br cZ 5), .m 2 db]) (.seq Q12 .ret)
abbrev Q15:AC:= .seq (.run [.o 0 (.mv (.k (.bool false)))]) Q14
abbrev Q1D:AC:= .par [.o 26 (.aq cm 4), .o 27 (.load fp false 1), .o 28 (.aq cm 2), .o 29 (.load fZ false 1), .o 30 (.aq cm 0), .o 31 (.load gy false 1), .m 32 cz, .c 33 gp [gu,gQ], .c 34 jH [gb,gG], .c 35 jH [fv,iD], .m 3 gR] [(4,0),(5,0),(6,0),(7,0),(2,0),(3,1),(8,0),(0,0),(1,2),(9,0),(10,0)]
abbrev Q1M:AC:= .seq (.seq (.run [.m 36 dC, .o 37 (.aq cm 1), .o 38 (.load je false 1), .o 39 (.len jO), .o 40 (.bin .lss ix jA), .m 41 j8, .g 42 41 true (.mv cz), .g 43 41 true (.bin .leq kE (.k (.int .i64 20000))), .o 44 (.pick jP kr (.k (.bool false)))]) (.cond kF .skip (.exit 2))) (.seq (.block 3 (.run [.o 47 (.aq cm 1), .o 48 (.load lU false 1), .m 49 dC, .o 50 (.cf kU kV 2), .o 51 (.aq lL 0), .o 52 (.load kG false 1), .m 53 cz, .c 54 gp [kH,kW], .m 3 lM])) (.run [.m 45 dC, .o 46 (.bin .add lJ (.k (.int .i64 1))), .m 6 lK]))
abbrev Q1R:AC:= .seq (.seq (.run [.o 6 (.mv (.k (.int .i64 0)))]) (.block 2 (.loop Q1M))) (.run [.o 55 (.aq cm 3), .o 56 (.load lN false 1), .m 57 cz, .c 58 kK [nq,oE], .m 3 nW])
abbrev Q1W:AC:= .seq (.block 1 (.seq (.run [.o 21 (.aq br 1), .o 22 (.load ep false 1), .m 23 ff, .o 24 (.cf eH eI 5), .o 25 (.load eR true 5), .o 5 (.alloc [(.str []),(.slice .full 0 []),(.slice .full 0 []),(.slice .full 0 []),(.slice .full 0 [])]), .op none none (.store cm eU 5)]) (.seq Q1D Q1R))) (.run [.m 19 ff, .o 20 (.bin .add dY (.k (.int .i64 1))), .m 4 ez])
abbrev Q1X:AC:= .seq (.seq (.run [.m 10 ff, .o 11 (.aq br 1), .o 12 (.load cJ false 1), .o 13 (.len cU), .o 14 (.bin .lss cb c6), .m 15 cO, .g 16 15 true (.mv cz), .g 17 15 true (.bin .leq dj (.k (.int .i64 20000))), .o 18 (.pick dD dG (.k (.bool false)))]) (.cond dE .skip (.exit 0))) Q1W
abbrev Q23:AC:= .seq (.seq (.run [.o 4 (.mv (.k (.int .i64 0)))]) (.block 0 (.loop Q1X))) (.seq (.run [.m 59 cz, .o 60 (.bin .leq lV (.k (.int .i64 20000))), .m 2 pb]) .ret)
abbrev Q25:AC:= .seq (.run [.o 1 (.box bu), .o 2 (.mv (.k (.bool false)))]) (.seq (.run [.o 7 (.aq br 0), .o 8 (.load cZ false 1), .c 9 jH [db,(.k (.int .i64 0))], .m 3 dg]) Q23)
abbrev Q2A:AC:= .cond eR (.seq (.run [.o 25 (.build [(.int .i64 0),(.int .i64 0),(.int .i64 0),(.slice .full 0 []),(.slice .full 0 [])] []), .op none none (.store db eU 5), .o 9 (.mv (.k (.int .i64 1)))]) .ret) .skip
abbrev Q2K:AC:= .seq (.cond ix .skip (.exit 0)) (.seq (.block 1 (.run [.m 37 cb, .m 38 cb, .o 39 (.bW jO), .o 40 (.aq jA 1), .o 41 (.load j8 false 1), .o 42 (.alloc [(.int .i64 0)]), .o 43 (.du [.dR] 1 1 [(0,kE)]), .o 44 (.app 1 8 jP kr), .o 45 (.bW je), .o 46 (.aq lJ 1), .op none none (.store lK kF 1)])) (.run [.o 47 (.bin .add gR (.k (.int .i64 1))), .m 35 lU]))
abbrev Q2L:AC:= .seq (.run [.o 36 (.bin .lss gR iD)]) Q2K
abbrev Q2V:AC:= .cond nq (.seq (.run [.o 12 (.mv (.k (.int .i64 0)))]) (.goto 0)) .skip
abbrev Q2W:AC:= .seq (.run [.m 55 c6,(.o 56 (.bin .eql lN (.k (.int .i64 (-1)))))]) Q2V
abbrev Q30:AC:= .cond qy (.seq (.run [.m 64 cb, .o 65 (.bW qz), .o 66 (.aq ud 6), .o 67 (.aq vD 0), .op none none (.store vE (.k (.int .i64 2)) 1)]) (.goto 2)) .skip
abbrev Q3C:AC:= .seq (.run [.m 102 cb, .o 103 (.aq cJ 0), .o 104 (.load Xu true 13), .c 105 oB [Xt,Xv], .m 12 Xw]) (.seq (.run [.m 106 cb, .o 107 (.bW Xx), .o 108 (.aq Xy 6), .o 109 (.aq Xz 0), .o 110 (.load agz false 1), .o 111 (.bin .eql XA (.k (.int .i64 0)))]) (.cond XB (.goto 0) .skip))
abbrev Q3G:AC:= .cond Vb (.run [.m 96 cb, .o 97 (.aq cJ 0), .o 98 (.load ac0 true 13), .c 99 o6 [acZ,ac1], .m 13 ac2]) (.seq (.run [.o 101 (.bin .eql FN (.k (.int .i64 9))), .m 100 Xs]) (.cond Xr Q3C (.run [.m 91 cb, .o 92 (.load cJ true 17), .c 93 qw [Jx,O3], .m 13 Va])))
abbrev Q3I:AC:= .block 2 (.seq (.run [.o 95 (.bin .eql FN (.k (.int .i64 4))), .m 94 Vc]) Q3G)
abbrev Q3S:AC:= .seq (.run [.m 127 cb, .o 128 (.bW XP), .o 129 (.aq Et 6), .o 130 (.load XQ true 5), .op none none (.store db XR 5), .o 9 (.mv (.k (.int .i64 0)))]) .ret
abbrev Q3U:AC:= .seq (.seq (.run [.m 121 cb, .o 122 (.bW XK), .o 123 (.aq XL 6), .o 124 (.aq XM 0), .o 125 (.load XN false 1), .o 126 (.bin .eql XO (.k (.int .i64 0)))]) (.cond agA (.goto 1) .skip)) (.seq (.label 2) Q3S)
abbrev Q3V:AC:= .seq (.run [.m 118 cb, .m 119 cU, .c 120 oD [XH,XI], .m 13 XJ]) Q3U
abbrev Q3Y:AC:= .seq (.seq (.run [.m 112 cb, .o 113 (.bW O4), .o 114 (.aq XC 6), .o 115 (.aq XD 0), .o 116 (.load XE false 1), .o 117 (.bin .eql XF (.k (.int .i64 0)))]) (.cond XG (.goto 1) .skip)) (.seq (.goto 2) (.seq (.label 0) Q3V))
abbrev Q41:AC:= .seq (.run [.m 68 cb, .o 69 (.bW vF), .o 70 (.aq zm 6), .o 71 (.aq zn 1), .o 72 (.load Dw false 1), .o 73 (.bin .add Bq (.k (.int .i64 1))), .o 74 (.bW vF), .o 75 (.aq Dx 6), .o 76 (.aq Dy 1), .op none none (.store Bs Br 1)]) (.seq (.run [.m 77 cb, .o 78 (.bW Dz), .o 79 (.aq zo 0), .o 80 (.load FK false 1), .o 81 (.bW FL), .o 82 (.aq FM 2), .o 83 (.load Jq false 1), .m 84 c6, .o 85 (.bin .sub Js (.k (.int .i64 1))), .o 86 (.cf Jr Jt 17), .o 87 (.load Ju true 17), .op none none (.store cJ Jv 17)]) (.seq (.seq (.run [.o 88 (.aq cJ 0), .o 89 (.aq Jw 1), .o 90 (.load DA false 1)]) Q3I) Q3Y))
abbrev Q43:AC:= .seq Q2W (.seq (.seq (.run [.m 57 cb, .o 58 (.bW oE), .o 59 (.aq nW 6), .o 60 (.aq lV 1), .o 61 (.load pb false 1), .m 62 dw, .o 63 (.bin .eql qx pT)]) Q30) Q41)
abbrev Q46:AC:= .seq (.run [.o 12 (.mv (.k (.int .i64 0)))]) (.seq (.run [.m 48 cb, .m 49 cb, .o 50 (.bW kV), .o 51 (.aq lL 0), .o 52 (.load kG false 1),(.c 53 iC [kH,(.k (.str [109,97,105,110]))]),(.c 54 jm [kU,kW,(.k (.slice .full 0 [])),(.k (.int .i64 0))]), .m 13 lM]) (.seq (.label 1) Q43))
abbrev Q47:AC:= .seq (.run [.o 11 (.alloc [(.int .i64 0),(.int .i64 0),(.slice .full 0 []),(.str []),(.str []),(.int .i64 0),(.int .i64 0),(.str []),(.slice .full 0 []),(.bool false),(.slice .full 0 []),(.slice .full 0 []),(.slice .full 0 []),(.int .i64 0),(.int .i64 0),(.int .i64 0),(.int .i64 0)])]) Q46
abbrev Q48:AC:= .seq (.seq (.run [.o 32 (.aq ff 0), .o 33 (.load gQ false 1), .o 34 (.len gG), .o 35 (.mv (.k (.int .i64 0)))]) (.block 0 (.loop Q2L))) Q47
abbrev Q4A:AC:= .seq (.seq (.run [.m 14 dw, .o 15 (.bin .lss cO (.k (.int .i64 0))), .m 16 dD, .g 17 16 false (.mv dw), .g 18 16 false (.bin .gtr dG (.k (.int .i64 1000000))), .o 19 (.pick dj (.k (.bool true)) dE), .m 20 dY, .g 21 20 false (.load ff true 2), .d 22 20 false sN [ep], .g 23 20 false (.un .not eH), .o 24 (.pick ez (.k (.bool true)) eI)]) Q2A) (.seq (.run [.o 26 (.load ff true 2), .c 27 kS [fp], .m 28 br, .m 29 cz, .o 30 (.build [.dR,(.slice .full 0 []),(.slice .full 0 []),(.slice .full 0 []),(.slice .full 0 []),(.slice .full 0 []),(.int .i64 0),(.int .i64 0),(.int .i64 0),(.slice .full 0 []),(.slice .full 0 [])] [(0,(1,fv)),(2,(1,fZ)),(3,(1,gb))]), .o 31 (.box gy), .m 10 gu]) Q48)
abbrev Q4B:AC:= .scope Q4A
abbrev Q4C:AC:= .seq (.run [.o 4 (.box bu), .o 8 (.alloc [(.int .i64 0),(.int .i64 0),(.int .i64 0),(.slice .full 0 []),(.slice .full 0 [])]), .o 9 (.mv (.k (.int .i64 0)))]) Q4B
abbrev Q4G:AC:= .seq (.run [.o 2 (.box bu), .o 3 (.box br), .o 4 (.mv (.k (.bool false)))]) (.seq (.run [.o 5 (.load dw true 5), .o 6 (.load cz true 5), .c 7 tV [cm,dC], .m 8 cZ, .g 9 8 true (.aq dw 4), .g 10 8 true (.load dg false 1), .g 11 8 true (.aq cz 4), .g 12 8 true (.load cJ false 1), .d 13 8 true rm [cb,cU], .o 14 (.pick db c6 (.k (.bool false))), .m 4 cO]) .ret)
abbrev Q4K:AC:= .seq (.run [.o 1 (.box bu), .o 2 (.mv (.k (.bool false)))]) (.seq (.run [.o 3 (.load br true 2), .c 4 xw [cz], .o 5 (.CM ff 0 false 1), .o 6 (.bin .eql cm (.k (.int .i64 0))), .m 2 dC]) .ret)
abbrev Q4O:AC:= .seq (.run [.o 3 (.box bu), .o 6 (.mv (.k (.bool false)))]) (.seq (.run [.o 7 (.load cz true 2), .c 8 sN [cZ], .m 9 db, .g 10 9 true (.mv dw), .g 11 9 true (.bin .geq cb (.k (.int .i64 0))), .o 12 (.pick dg cJ (.k (.bool false))), .m 13 cU, .g 14 13 true (.mv dw), .g 15 13 true (.bin .leq cO (.k (.int .i64 400))), .o 16 (.pick c6 dD (.k (.bool false))), .m 17 dj, .g 18 17 true (.mv br), .g 19 17 true (.len dE), .g 20 17 true (.bin .leq dY (.k (.int .i64 100))), .o 21 (.pick dG ez (.k (.bool false))), .m 6 ep]) .ret)
abbrev Q4Q:AC:= .par [.o 10 (.load cz true 2), .m 11 br, .m 12 dw, .o 13 (.load cz true 2), .c 14 zh [c6,(.k (.int .i64 0))], .c 15 vw [cb,cJ,cU,cO], .m 9 dD, .o 16 (.ext dg 0), .o 17 (.ext dg 1), .o 7 (.alloc [(.int .i64 0),(.int .i64 0),(.int .i64 0),(.slice .full 0 []),(.slice .full 0 [])]), .op none none (.store cZ dj 5), .m 8 dG] [(3,0),(4,0),(0,1),(1,0),(2,0),(5,0),(9,0),(6,0),(7,0),(10,0),(8,0),(11,0)]
abbrev Q4U:AC:= .seq (.run [.o 3 (.box bu), .o 6 (.alloc [(.int .i64 0),(.int .i64 0),(.int .i64 0),(.slice .full 0 []),(.slice .full 0 [])])]) (.seq Q4Q (.seq (.run [.o 18 (.load cZ true 5), .op none none (.store dC dE 5)]) .ret))
abbrev Q4Z:AC:= .cond cb (.seq (.run [.o 4 (.mv (.k (.bool false)))]) .ret) .skip
abbrev Q55:AC:= .par [.m 16 bu, .m 17 cm, .o 18 (.cf dj dG 2), .o 19 (.aq dE 0), .o 20 (.load dY false 1), .m 21 br, .m 22 cm, .o 23 (.cf ep eH 2), .o 24 (.aq eI 0), .o 25 (.load eR false 1), .o 26 (.bin .neq ez eU), .m 27 fp, .g 28 27 false (.mv bu), .g 29 27 false (.mv cm), .g 30 27 false (.cf fZ gb 2), .g 31 27 false (.aq gy 1), .g 32 27 false (.load gu false 1), .g 33 27 false (.mv br), .g 34 27 false (.mv cm), .g 35 27 false (.cf gG iD 2), .g 36 27 false (.aq gR 1), .g 37 27 false (.load ix false 1), .d 38 27 false lA [gQ,je], .g 39 27 false (.un .not jO), .o 40 (.pick fv (.k (.bool true)) jA)] [(0,0),(1,0),(2,0),(3,0),(4,0),(5,0),(6,0),(7,0),(8,0),(9,0),(10,0),(11,0),(12,0),(13,0),(14,0),(15,0),(16,0),(17,0),(18,0),(19,0),(20,0),(21,0),(22,0),(23,0),(24,0)]
abbrev Q58:AC:= .cond j8 (.seq (.run [.o 4 (.mv (.k (.bool false)))]) .ret) .skip
abbrev Q5E:AC:= .seq (.cond cO .skip (.exit 0)) (.seq (.block 1 (.seq (.run [.m 15 c6, .m 5 dD]) (.seq Q55 Q58))) (.run [.o 41 (.bin .add c6 (.k (.int .i64 1))), .m 13 jP]))
abbrev Q5I:AC:= .seq (.run [.m 11 bu, .o 12 (.len cJ), .o 13 (.mv (.k (.int .i64 0)))]) (.block 0 (.loop (.seq (.run [.o 14 (.bin .lss c6 cU)]) Q5E)))
abbrev Q5L:AC:= .seq Q5I (.seq (.run [.o 4 (.mv (.k (.bool true)))]) .ret)
abbrev Q5N:AC:= .seq (.run [.o 4 (.mv (.k (.bool false)))]) (.seq (.seq (.run [.m 6 bu, .o 7 (.len dC), .m 8 br, .o 9 (.len db), .o 10 (.bin .neq cZ dg)]) Q4Z) Q5L)
abbrev Q5P:AC:= .run [.o 5 (.aq dw 0), .o 6 (.load cm false 1), .o 7 (.aq cz 0), .o 8 (.load cZ false 1), .o 9 (.bin .eql dC db), .m 10 dg, .g 11 10 true (.aq dw 1), .g 12 10 true (.load cJ false 1), .g 13 10 true (.aq cz 1), .g 14 10 true (.load c6 false 1), .g 15 10 true (.bin .eql cU cO), .o 16 (.pick cb dD (.k (.bool false))), .m 17 dj, .g 18 17 true (.aq dw 2), .g 19 17 true (.load dE false 1), .g 20 17 true (.aq cz 2), .g 21 17 true (.load ez false 1), .g 22 17 true (.bin .eql dY ep), .o 23 (.pick dG eH (.k (.bool false))), .m 24 eI, .g 25 24 true (.aq dw 3), .g 26 24 true (.load eU false 1), .g 27 24 true (.aq cz 3), .g 28 24 true (.load fv false 1), .d 29 24 true lA [fp,fZ], .o 30 (.pick eR gb (.k (.bool false))), .m 4 gy]
abbrev Q5R:AC:= .seq (.run [.o 2 (.box bu), .o 3 (.box br), .o 4 (.mv (.k (.bool false)))]) (.seq Q5P .ret)
abbrev Q5W:AC:= .cond cb (.seq (.run [.o 4 (.mv (.k (.bool false)))]) .ret) .skip
abbrev Q62:AC:= .par [.m 16 bu, .m 17 cm, .o 18 (.cf dj dG 1), .o 19 (.load dE false 1), .m 20 br, .m 21 cm, .o 22 (.cf ez ep 1), .o 23 (.load eH false 1), .o 24 (.bin .neq dY eI)] [(0,0),(1,0),(2,0),(3,0),(4,0),(5,0),(6,0),(7,0),(8,0)]
abbrev Q65:AC:= .cond eR (.seq (.run [.o 4 (.mv (.k (.bool false)))]) .ret) .skip
abbrev Q6B:AC:= .seq (.cond cO .skip (.exit 0)) (.seq (.block 1 (.seq (.run [.m 15 c6, .m 5 dD]) (.seq Q62 Q65))) (.run [.o 25 (.bin .add c6 (.k (.int .i64 1))), .m 13 eU]))
abbrev Q6F:AC:= .seq (.run [.m 11 bu, .o 12 (.len cJ), .o 13 (.mv (.k (.int .i64 0)))]) (.block 0 (.loop (.seq (.run [.o 14 (.bin .lss c6 cU)]) Q6B)))
abbrev Q6I:AC:= .seq Q6F (.seq (.run [.o 4 (.mv (.k (.bool true)))]) .ret)
abbrev Q6K:AC:= .seq (.run [.o 4 (.mv (.k (.bool false)))]) (.seq (.seq (.run [.m 6 bu, .o 7 (.len dC), .m 8 br, .o 9 (.len db), .o 10 (.bin .neq cZ dg)]) Q5W) Q6I)
abbrev Q6O:AC:= .seq (.run [.o 1 (.box bu), .o 2 (.mv (.k (.bool false)))]) (.seq (.run [.o 3 (.load br true 4), .c 4 p9 [cz,(.k (.int .i64 20))], .m 2 ff]) .ret)
abbrev Q6Z:AC:= .seq (.run [.o 13 (.cf dg cJ 16), .o 14 (.load c6 true 16), .o 7 (.alloc [(.int .i64 0),(.int .i64 0),(.slice .full 0 []),(.str []),(.str []),(.int .i64 0),(.int .i64 0),(.str []),(.slice .full 0 []),(.bool false),(.slice .full 0 []),(.slice .full 0 []),(.slice .full 0 []),(.int .i64 0),(.int .i64 0),(.bool false)]), .op none none (.store cZ cO 16)]) (.seq (.run [.m 15 br, .o 16 (.bin .eql dD (.k (.int .i64 0))), .m 17 dj, .g 18 17 false (.aq cZ 0), .g 19 17 false (.aq dE 1), .g 20 17 false (.load dY false 1), .g 21 17 false (.mv br), .g 22 17 false (.bin .eql ez ep), .o 23 (.pick dG (.k (.bool true)) eH)]) (.cond eI (.run [.m 24 cm, .o 25 (.aq cZ 0), .o 26 (.aq eU 0), .o 27 (.load fp false 1), .o 28 (.du [(.int .i64 0)] 1 1 [(0,fv)]), .o 29 (.app 1 8 eR fZ), .m 5 gb]) .skip))
abbrev Q73:AC:= .seq (.cond cU .skip (.exit 0)) (.seq (.block 1 Q6Z) (.run [.o 30 (.bin .add cJ (.k (.int .i64 1))), .m 11 gy]))
abbrev Q77:AC:= .seq (.run [.o 8 (.load dw true 2), .c 9 zi [db], .o 10 (.len dg), .o 11 (.mv (.k (.int .i64 0)))]) (.block 0 (.loop (.seq (.run [.o 12 (.bin .lss cJ cb)]) Q73)))
abbrev Q7C:AC:= .seq (.run [.o 2 (.box bu), .o 4 (.mv (.k (.slice .full 0 [])))]) (.seq (.run [.o 5 (.mv (.k (.slice .full 0 [])))]) (.seq Q77 (.seq (.run [.m 31 cm, .m 4 gu]) .ret)))
abbrev Q7H:AC:= .cond eI (.seq (.run [.o 2 (.mv (.k (.bool false)))]) .ret) .skip
abbrev Q7O:AC:= .run [.o 33 (.aq cm 1), .o 34 (.load gG false 1), .o 35 (.len iD), .o 36 (.bin .gtr gR (.k (.int .i64 8))), .m 37 ix, .g 38 37 false (.aq cm 2), .g 39 37 false (.load jO false 1), .g 40 37 false (.len jA), .g 41 37 false (.bin .gtr j8 (.k (.int .i64 16))), .o 42 (.pick je (.k (.bool true)) jP), .m 43 kE, .g 44 43 false (.aq cm 0), .g 45 43 false (.load kF false 1), .d 46 43 false nV [lJ], .g 47 43 false (.un .not lK), .o 48 (.pick kr (.k (.bool true)) lU), .m 49 kU, .g 50 49 false (.aq cm 2), .g 51 49 false (.load lL false 1), .d 52 49 false nn [kG], .g 53 49 false (.un .not kH), .o 54 (.pick kV (.k (.bool true)) kW), .m 55 lM, .g 56 55 false (.aq cm 4), .g 57 55 false (.load nq false 1), .d 58 55 false nn [oE], .g 59 55 false (.un .not nW), .o 60 (.pick lN (.k (.bool true)) lV)]
abbrev Q7R:AC:= .cond pb (.seq (.run [.o 2 (.mv (.k (.bool false)))]) .ret) .skip
abbrev Q80:AC:= .cond Dw (.seq (.run [.o 2 (.mv (.k (.bool false)))]) .ret) .skip
abbrev Q85:AC:= .seq (.block 3 (.seq (.run [.o 66 (.cf pT qz 2), .o 67 (.load vD true 2), .o 7 (.alloc [(.str []),(.bool false)]), .op none none (.store cZ vE 2)]) (.seq (.run [.o 68 (.aq cZ 0), .o 69 (.load vF false 1), .c 70 nV [zm], .o 71 (.un .not zn)]) Q80))) (.run [.o 72 (.bin .add qz (.k (.int .i64 1))), .m 64 Bq])
abbrev Q89:AC:= .block 2 (.loop (.seq (.run [.o 65 (.bin .lss qz qy)]) (.seq (.cond ud .skip (.exit 2)) Q85)))
abbrev Q8E:AC:= .cond Dz (.seq (.run [.o 2 (.mv (.k (.bool false)))]) .ret) .skip
abbrev Q8G:AC:= .seq (.seq (.run [.o 61 (.aq cm 1), .o 62 (.load qx false 1), .o 63 (.len pT), .o 64 (.mv (.k (.int .i64 0)))]) Q89) (.seq (.run [.m 73 cz, .o 74 (.aq cm 3), .o 75 (.load Dx false 1), .c 76 kq [Br,Dy,(.k (.int .i64 1))], .o 77 (.un .not Bs)]) Q8E)
abbrev Q8L:AC:= .seq (.block 1 (.seq (.run [.o 31 (.cf fv gb 5), .o 32 (.load gu true 5), .o 5 (.alloc [(.str []),(.slice .full 0 []),(.slice .full 0 []),(.slice .full 0 []),(.slice .full 0 [])]), .op none none (.store cm gQ 5)]) (.seq (.seq Q7O Q7R) Q8G))) (.run [.o 78 (.bin .add gb (.k (.int .i64 1))), .m 29 zo])
abbrev Q8P:AC:= .block 0 (.loop (.seq (.run [.o 30 (.bin .lss gb fZ)]) (.seq (.cond gy .skip (.exit 0)) Q8L)))
abbrev Q8T:AC:= .seq (.seq (.run [.o 26 (.aq br 1), .o 27 (.load fp false 1), .o 28 (.len fv), .o 29 (.mv (.k (.int .i64 0)))]) Q8P) (.seq (.run [.o 2 (.mv (.k (.bool true)))]) .ret)
abbrev Q8V:AC:= .seq (.seq (.run [.o 8 (.aq br 0), .o 9 (.load db false 1), .o 10 (.len dg), .o 11 (.bin .gtr cb (.k (.int .i64 16))), .m 12 cJ, .g 13 12 false (.aq br 1), .g 14 12 false (.load c6 false 1), .g 15 12 false (.len cO), .g 16 12 false (.bin .gtr dD (.k (.int .i64 16))), .o 17 (.pick cU (.k (.bool true)) dj), .m 18 dG, .g 19 18 false (.aq br 0), .g 20 18 false (.load dY false 1), .d 21 18 false nn [ez], .g 22 18 false (.un .not ep), .o 23 (.pick dE (.k (.bool true)) eH)]) Q7H) (.seq (.run [.o 24 (.build [(.int .i64 0)] []), .o 25 (.box eR), .m 3 eU]) Q8T)
abbrev Q8W:AC:= .seq (.run [.o 1 (.box bu), .o 2 (.mv (.k (.bool false)))]) Q8V
open Go.Proofs
theorem kM:Has Tryz.prog wF 68 [(8,none)] Q0Z:=⟨Tryz.f7,by kernel_rfl,by kernel_rfl⟩
set_option maxRecDepth 20000 in
theorem HG : Has Tryz.prog xq 56 [(0, none)] Q15 := ⟨Tryz.f15, by kernel_rfl, by kernel_rfl⟩
theorem HH:Has Tryz.prog xr 61 [(2,none)] Q25:=⟨Tryz.f16,by kernel_rfl,by kernel_rfl⟩
theorem uQ:Has Tryz.prog vw 131 [(8,(some (true,5))),(9,none)] Q4C:=⟨Tryz.f17,by kernel_rfl,by kernel_rfl⟩
theorem Eu:Has Tryz.prog qj 15 [(4,none)] Q4G:=⟨Tryz.f19,by kernel_rfl,by kernel_rfl⟩
theorem HI:Has Tryz.prog sN 7 [(2,none)] Q4K:=⟨Tryz.f20,by kernel_rfl,by kernel_rfl⟩
theorem Ev:Has Tryz.prog tU 22 [(6,none)] Q4O:=⟨Tryz.f21,by kernel_rfl,by kernel_rfl⟩
theorem Ew:Has Tryz.prog lX 19 [(6,(some (true,5)))] Q4U:=⟨Tryz.f22,by kernel_rfl,by kernel_rfl⟩
theorem uE:Has Tryz.prog rm 42 [(4,none)] Q5N:=⟨Tryz.f24,by kernel_rfl,by kernel_rfl⟩
theorem Ey:Has Tryz.prog tV 31 [(4,none)] Q5R:=⟨Tryz.f25,by kernel_rfl,by kernel_rfl⟩
theorem vG:Has Tryz.prog lA 26 [(4,none)] Q6K:=⟨Tryz.f28,by kernel_rfl,by kernel_rfl⟩
theorem DB:Has Tryz.prog nj 5 [(2,none)] Q6O:=⟨Tryz.f29,by kernel_rfl,by kernel_rfl⟩
theorem Jy:Has Tryz.prog zh 32 [(4,none)] Q7C:=⟨Tryz.f33,by kernel_rfl,by kernel_rfl⟩
theorem Jz:Has Tryz.prog rn 79 [(2,none)] Q8W:=⟨Tryz.f36,by kernel_rfl,by kernel_rfl⟩
end Go.Abs
