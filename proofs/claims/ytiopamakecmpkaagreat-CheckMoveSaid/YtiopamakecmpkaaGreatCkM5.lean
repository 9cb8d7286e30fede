/-
  What is proved here: the statement CheckMoveSaid: whatever the arguments, the law, called, gives true, and of what was there nothing turns.
  No conditions.
-/
import Derived.Test.YtiopamakecmpkaaGreatCkM4
import Derived.WalkKit
import Derived.ProofKit
import Derived.OpenShut
import Derived.ShutString
import Derived.ChangeMaps5
import Derived.ChangeStays
import Derived.KernelRfl
import Derived.Test.YtiopamakecmpkaaGreatRows

set_option linter.unusedSimpArgs false
set_option linter.unusedVariables false

/-! Join -/

namespace Go.Abs
open Go.RowKit Go.ChangeShapes Go.WideShapes
def Fc (w:World) (b o:Nat):Option Value:=
 match w.cell? ⟨b,o,none⟩with
 | some v=>if v.oneCell'=true then some v else none
 | none=>none
theorem Lm {w:World} (b o:Nat) (v:Value) (h:Fc w b o=some v):w.cell? ⟨b,o,none⟩=some v∧v.oneCell'=true:=by
 unfold Fc at h
 split at h
 ·split at h
  ·cases h;exact⟨‹_›, ‹_›⟩
  ·cases h
 ·cases h
def AX (w:World):Map:=⟨Fc w,fun _=>(0, .any),fun _=>none⟩
theorem Kept.sameAt {w w':World} (h:Kept w w') {p:MemPlace} (hp:p.block<w.heap.size):w.sameAt w' p:=by
 have hk:=h.1.2.2 p.block hp
 cases p with
 | cell b off=>
  simp only [MemPlace.block]at hk hp
  simp only [World.sameAt,World.cell?]
  split at hk
  ·rename_i c t fr c' t' fr' e e'
   rw [e,e']
   simp only [hk.2.2.2 off (fun f=>f)]
  ·rename_i es clock zP ade e e'
   rw [e,e']
  ·rw [hk]
 | map b=>
  simp only [MemPlace.block]at hk hp
  simp only [World.sameAt]
  split at hk
  ·rename_i c t fr c' t' fr' e e'
   rw [e,e']
   obtain⟨rfl,rfl,hs,hc⟩:=hk
   have:c'=c:=by
    apply Array.ext_getElem?
    intro i
    exact hc i (fun f=>f)
   rw [this]
  ·rename_i es clock zP ade e e'
   rcases hk with f | ⟨rfl,rfl⟩
   ·exact f.elim
   ·rw [e,e']
  ·exact hk
section
variable {P:Program} {H:Type} {enc:TypeId×Value→H} {T:TypeId→Prop}
theorem D8 (K:Kids P T) (hz : ∀ {t e:TypeId},T t→P.underlying t=some (.slice e)→0<P.cellsOf e) {W W':World} (hk:Kept W W') {sp:Nat→Bool} :
 ∀ {ts:List TypeId} {vs:List Value} {ds:List (DataW H)} {ps:List MemPlace},(∀ t∈ts,T t)→(∀ p∈ps,p.block<W.heap.size)→(∀ p∈ps,sp p.block=true)→
  DataW.TrodAll enc P W 0 (fun _=>true) true ts vs ds ps→DataW.TrodAll enc P W' 0 sp true ts vs ds ps
 | [],[],[],_,_,_,_,h=>h
 | t::ts,v::vs,d::ds,ps,hT,hF,hs,⟨p,q,⟨n,h1⟩,h2,e⟩=>by
  subst e
  refine⟨p,q,⟨n,DataW.trod_stays K hz (fun f=>by cases f) (hT t (List.mem_cons_self ..)) h1 (fun x hx=>hk.sameAt (hF x (List.mem_append_left _ hx))) (fun x hx=>hs x (List.mem_append_left _ hx))⟩, ?_,rfl⟩
  exact D8 K hz hk (fun t ht=>hT t (List.mem_cons_of_mem _ ht)) (fun x hx=>hF x (List.mem_append_right _ hx)) (fun x hx=>hs x (List.mem_append_right _ hx)) h2
 | [],[],_::_,_,_,_,_,h=>h.elim
 | [],_::_,_,_,_,_,_,h=>h.elim
 | _::_,[],_,_,_,_,_,h=>h.elim
 | _::_,_::_,[],_,_,_,_,h=>h.elim
theorem UX (K:Kids P T) (hz : ∀ {t e:TypeId},T t→P.underlying t=some (.slice e)→0<P.cellsOf e) {f:Func} {s:ChangeSpec} {apart fresh handsOn again:Bool} {tb:TypeId} {W W':World} {args:Array Value} {ds gs:List (DataW H)} {before:List MemPlace}
 (hT : ∀ t∈f.params.toList,T t) (hb:P.underlying tb=some .bool) (hr:f.resultTypes = #[tb]) (D6:s.vars = []) (hW:DataW.Whole enc P f.params.toList s.vars apart W args.toList ds gs before)
 (zk:s.fn H (ds++gs) = {results:= [.lit (.bool true)],args:=ds}) (hk:Kept W W'):s.post enc P f apart fresh handsOn again W args (.bool true) W':=by
 have hW':=hW
 have hF : ∀ p∈before,p.block<W.heap.size:=fun p hp=>hW.lt p hp
 obtain⟨p,q,hA,hV,rfl,hfz,hnd⟩:=hW
 rw [D6]at hV
 obtain⟨rfl,rfl⟩:=trodVars_none hV
 simp only [List.append_nil]at hF zk
 refine JE (pa:=p) (pv:= []) hW' (fun b sp hd=> ?_) (fun sp xj=> ?_) (fun sp xj=> ?_) rfl hk (ok_one hr rfl (okWide_bool_mk hb _))
 ·rw [List.append_nil,zk,hr]
  exact trodAll_cons_mk (shut_bool hb _) trodAll_mk0
 ·rw [List.append_nil,zk]
  simp only [List.append_nil]at xj
  exact D8 K hz hk hT hF xj hA
 ·rw [List.append_nil,zk,D6]
  rfl
theorem Y5 {f:FuncId} {args:List D} {fY:Array Value} {w:World} (h:dV P f args S0 fun d _=>d = .bool true) (hl:fY.size=args.length)
 (ha : ∀ (i:Nat) (d:D) (v:Value),args[i]? = some d→fY[i]? = some v→RD (AX w) S0 d v) (jR:Oy w):Calls P f fY w fun e w'=>e = .returned (.bool true)∧Kept w w':=
 Ry (G:=Fc w) h Lm hl ha jR
end
end Go.Abs

/-! Binds1 -/

namespace Go.Abs
set_option maxRecDepth 8000
open Go.Proofs
def D9 (n:Int):List D:= [.int .i64 n]
theorem agd (n:Int):D.bp 0 0 (D9 n)=true:=rfl
theorem adg (n m:Nat) (l:List Int):D.kf n m (l.map D9)=l.map D9:=ml agd n m l
attribute [go_sem] D9 adg
def age (op:Int):aC:=
 if op=5 then [42]else if op=6 then [47]else if op=7 then [37]else if op=8 then [43]else if op=9 then [45]else if op=10 then [60]else if op=11 then [60,61]
 else if op=12 then [62]else if op=13 then [62,61]else if op=14 then [61,61]else if op=15 then [33,61]else if op=16 then [38,38]else [124,124]
def awk (op:Int):Int:=(abt (age op)).1
def RE:Nat→List aC
 | 0=> []
 | n+1=>RE n++ [[UInt8.ofNat (97+n)]]
end Go.Abs

/-! Join2 -/

namespace Go.Abs
open Go.RowKit Go.ChangeShapes Go.WideShapes
end Go.Abs

/-! Join3 -/

namespace Go.Abs
open Go.RowKit Go.ChangeShapes Go.WideShapes
def fh (W:World) (ds:List D) (cs:List Value):Prop:=ds.length=cs.length∧(∀ (i:Nat) (d:D) (v:Value),ds[i]? = some d→cs[i]? = some v→RD (AX W) S0 d v)∧∀ v∈cs,v.oneCell'=true
theorem fh.one {W:World} {d:D} {v:Value} (h:RD (AX W) S0 d v) (hv:v.oneCell'=true):fh W [d] [v]:=by
 refine⟨rfl,fun i d' v' h1 h2=> ?_,fun u hu=>by simp at hu;subst hu;exact hv⟩
 cases i with
 | zero=>simp at h1 h2;subst h1 h2;exact h
 | succ i=>simp at h1
theorem fh.app {W:World} {ds mS:List D} {cs jh:List Value} (h:fh W ds cs) (h':fh W mS jh):fh W (ds++mS) (cs++jh):=by
 obtain⟨a1,a2,a3⟩:=h
 obtain⟨b1,b2,b3⟩:=h'
 refine⟨by simp [a1,b1],fun i d v h1 h2=> ?_,fun v hv=> ?_⟩
 ·by_cases hi:i<ds.length
  ·rw [List.getElem?_append_left hi]at h1
   rw [List.getElem?_append_left (by omega)]at h2
   exact a2 i d v h1 h2
  ·rw [List.getElem?_append_right (by omega)]at h1
   rw [List.getElem?_append_right (by omega), ← a1]at h2
   exact b2 _ d v h1 h2
 ·rcases List.mem_append.1 hv with hv | hv
  ·exact a3 v hv
  ·exact b3 v hv
theorem fh.at {W:World} {ds mS:List D} {cs:List Value} {o n:Nat} (h:fh W ds ((cs.drop o).take n)) (h':fh W mS (cs.drop (o+n))):fh W (ds++mS) (cs.drop o):=by
 have e:cs.drop o=(cs.drop o).take n++cs.drop (o+n):=by rw [← List.drop_drop,List.take_append_drop]
 rw [e]
 exact h.app h'
theorem fh.end {W:World} {cs:List Value} {o:Nat} (h:cs.length=o):fh W [] (cs.drop o):=by
 rw [← h,List.drop_length]
 exact⟨rfl,fun i d v h=>by simp at h,fun v hv=>by cases hv⟩
section
variable {H:Type} {enc:TypeId×Value→H} {P:Program} {W:World} {sp:Nat→Bool}
def structOf (P:Program) (t:TypeId):List (TypeId×Nat):=
 match P.underlying t with
 | some (.struct fs)=>fs.toList.map fun f=>(f.type,f.offset)
 | _=> []
theorem ll {t:TypeId} {l:List (TypeId×Nat)} {fuel:Nat} {cs:List Value} {x:DataW H×List MemPlace} (h:structOf P t=l) (eJ:l≠ []) (ht:DataW.trod enc P W 0 sp true fuel t cs=some x) :
 ∃ n,fuel=n+1∧cs.length=P.cellsOf t∧∀ (i:Nat) (f:TypeId×Nat),l[i]? = some f→∃ y,DataW.trod enc P W 0 sp true n f.1 ((cs.drop f.2).take (P.cellsOf f.1))=some y:=by
 unfold structOf at h
 split at h
 ·rename_i fs hu
  obtain⟨xs,n,e,_,hl,hlen,hf⟩:=DataW.trod_struct hu ht
  refine⟨n,e,hl,fun i f hi=> ?_⟩
  subst h
  rw [List.getElem?_map,Option.map_eq_some_iff]at hi
  obtain⟨g,hg,rfl⟩:=hi
  have pj:fs[i]? = some g:=by simpa using hg
  have hi:i<xs.length:=by rw [hlen];exact(Array.getElem?_eq_some_iff.1 pj).1
  exact⟨xs[i],by rw [hf i g pj,List.getElem?_eq_getElem hi]⟩
 ·exact absurd h.symm eJ
theorem G0 {t:TypeId} {l:List (TypeId×Nat)} (h:structOf P t=l) (eJ:l≠ []) : ∃ fs,P.underlying t=some (.struct fs):=by
 unfold structOf at h
 split at h
 ·exact⟨_, ‹_›⟩
 ·exact absurd h.symm eJ
theorem BW {α:Type} {Q:Nat→α→Prop} : ∀ n,(∀ i,i<n→∃ y,Q i y)→∃ ys:List α,ys.length=n∧∀ i y,ys[i]? = some y→Q i y
 | 0,_=>⟨[],rfl,fun i y h=>by simp at h⟩
 | n+1,h=>by
  obtain⟨ys,h1,h2⟩:=BW n fun i hi=>h i (by omega)
  obtain⟨y,hy⟩:=h n (by omega)
  refine⟨ys++ [y],by simp [h1],fun i z hz=> ?_⟩
  by_cases hi:i<ys.length
  ·rw [List.getElem?_append_left hi]at hz;exact h2 i z hz
  ·rw [List.getElem?_append_right (by omega)]at hz
   have:i - ys.length=0:=by
    rcases Nat.eq_zero_or_pos (i - ys.length)with h | h
    ·exact h
    ·rw [List.getElem?_eq_none (by simp only [List.length_cons,List.length_nil];omega)]at hz;cases hz
   rw [this]at hz
   simp at hz
   subst hz
   have:i=n:=by omega
   subst this
   exact hy
theorem oL {α:Type} (en:α→List D) (good:α→Prop) {z:Nat} {t e:TypeId} {fuel:Nat} {cs:List Value} {x:DataW H×List MemPlace} (ht:P.underlying t=some (.slice e)) (hz:P.cellsOf e=z) (hz0:0<z) (hen : ∀ y,(en y).length=z)
 (hel : ∀ n<fuel,∀ cs x,DataW.trod enc P W 0 sp true n e cs=some x→∃ y,fh W (en y) cs∧good y) (h:DataW.trod enc P W 0 sp true fuel t cs=some x) :
 ∃ ys:List α,fh W [.slice .shared z (ys.map en)] cs∧∀ y∈ys,good y:=by
 rcases DataW.trod_slice ht h with ⟨rfl,_⟩ | ⟨a,len,cap,elems,rest,n,hn,rfl,_,hb,hl,hm,hlen,qs,_,_⟩
 ·exact⟨[],fh.one (.iP _ _ _ rfl trivial) rfl,fun y hy=>by cases hy⟩
 ·by_cases h0:len=0
  ·subst h0
   exact⟨[],fh.one (.lG _ _ _) rfl,fun y hy=>by cases hy⟩
  ·obtain⟨ys,hys,wo⟩:=BW (Q:=fun i y=>good y∧∃ jh,W.cells? 0 (a.add (i*z)) z=some jh∧fh W (en y) jh) len fun i hi=>by
    have hc:=qs i hi
    rw [List.getElem?_eq_getElem (by omega),hz,Option.bind_eq_some_iff]at hc
    obtain⟨jh,h1,h2⟩:=hc
    obtain⟨y,h3,h4⟩:=hel n (by omega) _ _ h2
    exact⟨y,h4,jh,h1,h3⟩
   have cell : ∀ i y,ys[i]? = some y→∀ (j:Nat) d,(en y)[j]? = some d→∃ v,W.cell? ((a.add (i*z)).add j)=some v∧RD (AX W) S0 d v∧v.oneCell'=true:=by
    intro i y hy j d hd
    obtain⟨_,jh,h1,h2,h3,h4⟩:=wo i y hy
    obtain⟨_,k1,k2⟩:=World.cells?_some h1
    have hj:j<z:=by rw [← hen y];exact(List.getElem?_eq_some_iff.1 hd).1
    have hv:jh[j]? = some jh[j]:=List.getElem?_eq_getElem (by omega)
    exact⟨jh[j],by rw [k2 j hj,hv],h3 j d _ hd hv,h4 _ (List.getElem_mem _)⟩
   obtain⟨b,off,spot⟩:=a
   have agf:spot=none:=by
    have hy:ys[0]? = some (ys[0]'(by omega)):=List.getElem?_eq_getElem (by omega)
    obtain⟨d,hd⟩ : ∃ d,(en (ys[0]'(by omega)))[0]? = some d:=⟨_,List.getElem?_eq_getElem (show 0<(en (ys[0]'(by omega))).length by rw [hen];exact hz0)⟩
    obtain⟨v,hv,_⟩:=cell 0 _ hy 0 _ hd
    have:=World.cell?_spot hv
    simpa [Addr.add]using this
   subst agf
   have e:(ys.map en).length=len:=by simp [hys]
   have:=RD.slice (M:=AX W) (s:=S0) .shared z (ys.map en) b off cap (by omega) (fun row hr=>by obtain⟨y,_,rfl⟩:=List.mem_map.1 hr;exact hen y)
    (fun i row j d h1 h2=>by
     rw [List.getElem?_map,Option.map_eq_some_iff]at h1
     obtain⟨y,h1,rfl⟩:=h1
     obtain⟨v,hv,_,h4⟩:=cell i y h1 j d h2
     rw [add_plain,add_plain]at hv
     refine⟨v, ?_⟩
     show Fc W b (off+(i*z+j))=_
     unfold Fc
     rw [show off+(i*z+j)=off+i*z+j by omega,hv]
     simp [h4])
    (fun i row j d u h1 h2 hu=>by
     rw [List.getElem?_map,Option.map_eq_some_iff]at h1
     obtain⟨y,h1,rfl⟩:=h1
     obtain⟨v,hv,h3,h4⟩:=cell i y h1 j d h2
     rw [add_plain,add_plain]at hv
     obtain⟨hu,_⟩:=Lm _ _ _ hu
     rw [show off+(i*z+j)=off+i*z+j by omega,hv]at hu
     cases hu
     exact h3) trivial
   rw [e]at this
   refine⟨ys,fh.one this rfl,fun y hy=> ?_⟩
   obtain⟨i,hi⟩:=List.getElem?_of_mem hy
   exact(wo i y hi).1
theorem Ea {t:TypeId} {fuel:Nat} {cs:List Value} {x:DataW H×List MemPlace} (ht:P.underlying t=some (.int .i64)) (h:DataW.trod enc P W 0 sp true fuel t cs=some x) : ∃ n:Int,fh W [.int .i64 n] cs∧n≤9223372036854775807∧ -9223372036854775808≤n:=by
 obtain⟨n,rfl,_,hw⟩:=DataW.trod_int ht h
 simp [Lit.wf,IntKind.min,IntKind.max,IntKind.signed,IntKind.bits]at hw
 exact⟨n,fh.one (.int _ _) rfl,by omega,by omega⟩
theorem Fe {t:TypeId} {fuel:Nat} {cs:List Value} {x:DataW H×List MemPlace} (ht:P.underlying t=some .bool) (h:DataW.trod enc P W 0 sp true fuel t cs=some x) : ∃ b:Bool,fh W [.bool b] cs:=by
 obtain⟨n,rfl,_⟩:=DataW.trod_bool ht h
 exact⟨n,fh.one (.bool _) rfl⟩
theorem va {t:TypeId} {fuel:Nat} {cs:List Value} {x:DataW H×List MemPlace} (ht:P.underlying t=some .string) (h:DataW.trod enc P W 0 sp true fuel t cs=some x) : ∃ s:aC,fh W (encStr s) cs∧s.length≤maxLen:=by
 obtain⟨s,rfl,_,hm⟩:=DataW.trod_string ht h
 obtain⟨⟨l⟩⟩:=s
 exact⟨l,fh.one (.str l) rfl,hm⟩
theorem agh {tE tI tN tS tK:TypeId} (hE:structOf P tE = [(tI,0),(tN,1),(tS,2),(tK,3)]) (hEc:P.cellsOf tE=4) (hI:P.underlying tI=some (.int .i64)) (hN:P.underlying tN=some (.int .i64)) (hS:P.underlying tS=some .string) (hK:P.underlying tK=some (.slice tE))
 (cI:P.cellsOf tI=1) (cN:P.cellsOf tN=1) (cS:P.cellsOf tS=1) (cK:P.cellsOf tK=1) :
 ∀ (fuel:Nat) (cs:List Value) (x:DataW H×List MemPlace),DataW.trod enc P W 0 sp true fuel tE cs=some x→∃ y:Ex,fh W (bu y) cs∧y.qU:=by
 intro fuel
 induction fuel using Nat.strongRecOn with
 | _ fuel ih=>
  intro cs x h
  obtain⟨n,rfl,hl,hf⟩:=ll hE (by simp) h
  obtain⟨y0,h0⟩:=hf 0 _ rfl
  obtain⟨y1,h1⟩:=hf 1 _ rfl
  obtain⟨y2,h2⟩:=hf 2 _ rfl
  obtain⟨y3,h3⟩:=hf 3 _ rfl
  dsimp only at h0 h1 h2 h3
  rw [cI]at h0
  rw [cN]at h1
  rw [cS]at h2
  rw [cK]at h3
  obtain⟨op,r0,_⟩:=Ea hI h0
  obtain⟨m,r1,hm,_⟩:=Ea hN h1
  obtain⟨s,r2,_⟩:=va hS h2
  obtain⟨ks,r3,hg⟩:=oL (W:=W) bu Ex.qU hK hEc (by decide) Vy (fun k hk cs x hx=>ih k (by omega) cs x hx) h3
  refine⟨⟨op,m,s,ks⟩, ?_,hm, ?_⟩
  ·have:=r0.at (r1.at (r2.at (r3.at (fh.end (by rw [hl,hEc])))))
   rw [gk]
   simpa [encStr]using this
  ·clear r3
   induction ks with
   | nil=>exact trivial
   | cons k ks ihk=>exact⟨hg k (by simp),ihk fun y hy=>hg y (by simp [hy])⟩
theorem fh.agg {ds:List D} {v:Value} (h:fh W ds v.cells.toList) (hv : ∃ vs,v = .agg vs):RD (AX W) S0 (.agg ds) v:=by
 obtain⟨vs,rfl⟩:=hv
 obtain⟨h1,h2,h3⟩:=h
 have e:(Value.agg vs).cells=vs:=rfl
 rw [e]at h1 h2 h3
 refine .agg ds vs (by simpa using h1) (fun v hv=>h3 v (by simpa using hv)) fun i d v hd hv=>h2 i d v hd (by simpa using hv)
end
end Go.Abs

/-! Join4 -/

namespace Go.Abs
open Go.Proofs Go.RowKit Go.ChangeShapes Go.WideShapes
section
variable {H:Type} {enc:TypeId×Value→H} {W:World} {sp:Nat→Bool}
theorem RF (fuel:Nat) (cs:List Value) (x:DataW H×List MemPlace) (h:DataW.trod enc Tryz.prog W 0 sp true fuel 50 cs=some x) : ∃ y:Ex,fh W (bu y) cs∧y.qU:=
 agh (tE:=50) (tI:=3) (tN:=2) (tS:=9) (tK:=48) (by kernel_rfl) (by kernel_rfl) (by kernel_rfl) (by kernel_rfl) (by kernel_rfl) (by kernel_rfl) (by kernel_rfl) (by kernel_rfl) (by kernel_rfl) (by kernel_rfl) _ _ _ h
theorem Y6:Tryz.prog.underlying 22=some (.slice 9):=by kernel_rfl
theorem xT:Tryz.prog.underlying 9=some .string:=by kernel_rfl
theorem RG:Tryz.prog.underlying 3=some (.int .i64):=by kernel_rfl
theorem Ff:Tryz.prog.underlying 4=some .bool:=by kernel_rfl
theorem AY:Tryz.prog.cellsOf 9=1:=by kernel_rfl
theorem adk:Tryz.prog.cellsOf 3=1:=by kernel_rfl
theorem Fg:Tryz.prog.cellsOf 4=1:=by kernel_rfl
theorem Fh:Tryz.prog.cellsOf 22=1:=by kernel_rfl
theorem Xc:Tryz.prog.cellsOf 50=4:=by kernel_rfl
theorem yS {fuel:Nat} {cs:List Value} {x:DataW H×List MemPlace} (h:DataW.trod enc Tryz.prog W 0 sp true fuel 22 cs=some x) : ∃ l:List aC,fh W [.slice .shared 1 (l.map encStr)] cs:=by
 obtain⟨l,h,_⟩:=oL (W:=W) encStr (fun _=>True) Y6 AY (by decide) (fun _=>rfl) (fun k hk cs x hx=>by
  obtain⟨s,hs,_⟩:=va xT hx
  exact⟨s,hs,trivial⟩) h
 exact⟨l,h⟩
theorem adl {fuel:Nat} {cs:List Value} {x:DataW H×List MemPlace} (h:DataW.trod enc Tryz.prog W 0 sp true fuel 42 cs=some x) : ∃ y:Pm,fh W (fK y) cs:=by
 obtain⟨n,rfl,hl,hf⟩:=ll (l:= [(9,0),(4,1)]) (by kernel_rfl) (by simp) h
 have hc:Tryz.prog.cellsOf 42=2:=by kernel_rfl
 obtain⟨y0,h0⟩:=hf 0 _ rfl
 obtain⟨y1,h1⟩:=hf 1 _ rfl
 dsimp only at h0 h1
 rw [AY]at h0
 rw [Fg]at h1
 obtain⟨s,r0,_⟩:=va xT h0
 obtain⟨b,r1⟩:=Fe Ff h1
 refine⟨⟨s,b⟩, ?_⟩
 have:=r0.at (r1.at (fh.end (by rw [hl,hc])))
 simpa [encStr,fK]using this
theorem adn {fuel:Nat} {cs:List Value} {x:DataW H×List MemPlace} (h:DataW.trod enc Tryz.prog W 0 sp true fuel 123 cs=some x) : ∃ y:Ar,fh W (ej y) cs∧y.x.qU:=by
 obtain⟨n,rfl,hl,hf⟩:=ll (l:= [(4,0),(9,1),(50,2)]) (by kernel_rfl) (by simp) h
 have hc:Tryz.prog.cellsOf 123=6:=by kernel_rfl
 obtain⟨y0,h0⟩:=hf 0 _ rfl
 obtain⟨y1,h1⟩:=hf 1 _ rfl
 obtain⟨y2,h2⟩:=hf 2 _ rfl
 dsimp only at h0 h1 h2
 rw [Fg]at h0
 rw [AY]at h1
 rw [Xc]at h2
 obtain⟨b,r0⟩:=Fe Ff h0
 obtain⟨s,r1,_⟩:=va xT h1
 obtain⟨e,r2,hr⟩:=RF _ _ _ h2
 refine⟨⟨b,s,e⟩, ?_,hr⟩
 have:=r0.at (r1.at (r2.at (fh.end (by rw [hl,hc]))))
 rw [gk]at this
 simpa [encStr,ej]using this
theorem yT : ∀ {l:List Sm},(∀ s∈l,s.qU)→Sm.wL l
 | [],_=>trivial
 | s::l,h=>⟨h s (List.mem_cons_self ..),yT fun t m=>h t (List.mem_cons_of_mem _ m)⟩
theorem ado : ∀ (fuel:Nat) (cs:List Value) (x:DataW H×List MemPlace),DataW.trod enc Tryz.prog W 0 sp true fuel 53 cs=some x→∃ y:Sm,fh W (aU y) cs∧y.qU:=by
 intro fuel
 induction fuel using Nat.strongRecOn with
 | _ fuel ih=>
  intro cs x h
  obtain⟨n,rfl,hl,hf⟩:=ll (l:= [(3,0),(3,1),(22,2),(9,3),(9,4),(50,5),(4,9),(51,10),(44,11),(44,12)]) (by kernel_rfl) (by simp) h
  have hc:Tryz.prog.cellsOf 53=13:=by kernel_rfl
  have ca:Tryz.prog.cellsOf 51=1:=by kernel_rfl
  have jh:Tryz.prog.cellsOf 44=1:=by kernel_rfl
  have ua:Tryz.prog.underlying 51=some (.slice 123):=by kernel_rfl
  have us:Tryz.prog.underlying 44=some (.slice 53):=by kernel_rfl
  have ca6:Tryz.prog.cellsOf 123=6:=by kernel_rfl
  obtain⟨y0,h0⟩:=hf 0 _ rfl
  obtain⟨y1,h1⟩:=hf 1 _ rfl
  obtain⟨y2,h2⟩:=hf 2 _ rfl
  obtain⟨y3,h3⟩:=hf 3 _ rfl
  obtain⟨y4,h4⟩:=hf 4 _ rfl
  obtain⟨y5,h5⟩:=hf 5 _ rfl
  obtain⟨y6,h6⟩:=hf 6 _ rfl
  obtain⟨y7,h7⟩:=hf 7 _ rfl
  obtain⟨y8,h8⟩:=hf 8 _ rfl
  obtain⟨y9,h9⟩:=hf 9 _ rfl
  dsimp only at h0 h1 h2 h3 h4 h5 h6 h7 h8 h9
  rw [adk]at h0 h1
  rw [Fh]at h2
  rw [AY]at h3 h4
  rw [Xc]at h5
  rw [Fg]at h6
  rw [ca]at h7
  rw [jh]at h8 h9
  obtain⟨id,r0,_⟩:=Ea RG h0
  obtain⟨kind,r1,_⟩:=Ea RG h1
  obtain⟨labels,r2⟩:=yS h2
  obtain⟨name,r3,_⟩:=va xT h3
  obtain⟨proc,r4,_⟩:=va xT h4
  obtain⟨e,r5,hr⟩:=RF _ _ _ h5
  obtain⟨b,r6⟩:=Fe Ff h6
  obtain⟨args,r7,ha⟩:=oL (W:=W) ej (fun a=>a.x.qU) ua ca6 (by decide) (fun _=>rfl) (fun k hk cs x hx=>adn hx) h7
  obtain⟨aY,r8,ht⟩:=oL (W:=W) aU Sm.qU us hc (by decide) G5 (fun k hk cs x hx=>ih k (by omega) cs x hx) h8
  obtain⟨aP,r9,he⟩:=oL (W:=W) aU Sm.qU us hc (by decide) G5 (fun k hk cs x hx=>ih k (by omega) cs x hx) h9
  refine⟨⟨id,kind,labels,name,proc,e,b,args,aY,aP⟩, ?_,hr,ha,yT ht,yT he⟩
  have:=r0.at (r1.at (r2.at (r3.at (r4.at (r5.at (r6.at (r7.at (r8.at (r9.at (fh.end (by rw [hl,hc])))))))))))
  rw [gk]at this
  rw [cH]
  simpa [encStr]using this
theorem adp {fuel:Nat} {cs:List Value} {x:DataW H×List MemPlace} (h:DataW.trod enc Tryz.prog W 0 sp true fuel 46 cs=some x) : ∃ y:Pc,fh W (bq y) cs∧Sm.wL y.body:=by
 obtain⟨n,rfl,hl,hf⟩:=ll (l:= [(9,0),(43,1),(22,2),(44,3),(22,4)]) (by kernel_rfl) (by simp) h
 have hc:Tryz.prog.cellsOf 46=5:=by kernel_rfl
 have cp:Tryz.prog.cellsOf 43=1:=by kernel_rfl
 have jh:Tryz.prog.cellsOf 44=1:=by kernel_rfl
 have up:Tryz.prog.underlying 43=some (.slice 42):=by kernel_rfl
 have us:Tryz.prog.underlying 44=some (.slice 53):=by kernel_rfl
 have cp2:Tryz.prog.cellsOf 42=2:=by kernel_rfl
 have ao1:Tryz.prog.cellsOf 53=13:=by kernel_rfl
 obtain⟨y0,h0⟩:=hf 0 _ rfl
 obtain⟨y1,h1⟩:=hf 1 _ rfl
 obtain⟨y2,h2⟩:=hf 2 _ rfl
 obtain⟨y3,h3⟩:=hf 3 _ rfl
 obtain⟨y4,h4⟩:=hf 4 _ rfl
 dsimp only at h0 h1 h2 h3 h4
 rw [AY]at h0
 rw [cp]at h1
 rw [Fh]at h2 h4
 rw [jh]at h3
 obtain⟨name,r0,_⟩:=va xT h0
 obtain⟨ps,r1,_⟩:=oL (W:=W) fK (fun _=>True) up cp2 (by decide) (fun _=>rfl) (fun k hk cs x hx=>by
  obtain⟨y,hy⟩:=adl hx
  exact⟨y,hy,trivial⟩) h1
 obtain⟨vars,r2⟩:=yS h2
 obtain⟨body,r3,hb⟩:=oL (W:=W) aU Sm.qU us ao1 (by decide) G5 (fun k hk cs x hx=>ado k cs x hx) h3
 obtain⟨fin,r4⟩:=yS h4
 refine⟨⟨name,ps,vars,body,fin⟩, ?_,yT hb⟩
 have:=r0.at (r1.at (r2.at (r3.at (r4.at (fh.end (by rw [hl,hc]))))))
 simpa [encStr,bq]using this
theorem adq {fuel:Nat} {cs:List Value} {x:DataW H×List MemPlace} (h:DataW.trod enc Tryz.prog W 0 sp true fuel 25 cs=some x) : ∃ y:Pg,fh W (bC y) cs∧y.qU:=by
 obtain⟨n,rfl,hl,hf⟩:=ll (l:= [(22,0),(23,1)]) (by kernel_rfl) (by simp) h
 have hc:Tryz.prog.cellsOf 25=2:=by kernel_rfl
 have cp:Tryz.prog.cellsOf 23=1:=by kernel_rfl
 have up:Tryz.prog.underlying 23=some (.slice 46):=by kernel_rfl
 have cp5:Tryz.prog.cellsOf 46=5:=by kernel_rfl
 obtain⟨y0,h0⟩:=hf 0 _ rfl
 obtain⟨y1,h1⟩:=hf 1 _ rfl
 dsimp only at h0 h1
 rw [Fh]at h0
 rw [cp]at h1
 obtain⟨globals,r0⟩:=yS h0
 obtain⟨procs,r1,hp⟩:=oL (W:=W) bq (fun f=>Sm.wL f.body) up cp5 (by decide) (fun _=>rfl) (fun k hk cs x hx=>adp hx) h1
 refine⟨⟨globals,procs⟩, ?_,hp⟩
 have:=r0.at (r1.at (fh.end (by rw [hl,hc])))
 simpa [bC]using this
end
end Go.Abs

/-! Join5 -/

namespace Go.Abs
open Go.Proofs Go.ChangeShapes Go.WideShapes Go.ChangeAt Go.RowKit
theorem Gl {H:Type} {enc:TypeId×Value→H} {P:Program} {W:World} {sp:Nat→Bool} {t:TypeId} {ts:List TypeId} {ps:List MemPlace} : ∀ {l:List Value} {ds:List (DataW H)},DataW.TrodAll enc P W 0 sp true (t::ts) l ds ps→
 ∃ v l' d mS p q,l=v::l'∧ds=d::mS∧DataW.Trod enc P W 0 sp true t v d p∧DataW.TrodAll enc P W 0 sp true ts l' mS q
 | v::l,d::ds,⟨p,q,h1,h2,e⟩=>⟨v,l,d,ds,p,q,rfl,rfl,h1,h2⟩
 | [],[],h=>h.elim
 | [],_::_,h=>h.elim
 | _::_,[],h=>h.elim
theorem UY {H:Type} {enc:TypeId×Value→H} {P:Program} {W:World} {sp:Nat→Bool} {ps:List MemPlace} : ∀ {l:List Value} {ds:List (DataW H)},DataW.TrodAll enc P W 0 sp true [] l ds ps→l = []∧ds = []
 | [],[],_=>⟨rfl,rfl⟩
 | [],_::_,h=>h.elim
 | _::_,ds,h=>by cases ds <;> exact h.elim
end Go.Abs

/-! CheckMove -/

namespace Go.Proofs.YtiopamakecmpkaaGreat.checkMove
open Go.ChangeShapes Go.WideShapes Go.ChangeAt Go.RowKit Go.Abs
theorem own:ownKnob Tryz.prog.godebug=none:=by kernel_rfl
theorem kids:Kids Tryz.prog (· < Tryz.prog.types.size):=kids_rows (by kernel_rfl) (by kernel_rfl)
theorem full : ∀ {t e:TypeId},t<Tryz.prog.types.size→Tryz.prog.underlying t=some (.slice e)→0<Tryz.prog.cellsOf e:=fun {t e}=>slices_full_of Tryz.prog (by kernel_rfl) t e
theorem walk (w:World) (x0:Pg) (OU:x0.qU) (v0:Value) (hv0:RD (AX w) S0 (.agg (bC x0)) v0) (x1:Int):Calls Tryz.prog 11 #[v0, .int .i64 x1] w fun e w'=>e = .returned (.bool true)∧Kept w w':=by
 refine Y5 (args:= [.agg (bC x0), .int .i64 x1]) ((GZ x0 x1 S0).mono fun _ _ h=>h.1) rfl ?_ (fun _ _ h=>nomatch h)
 intro i d v h1 h2
 match i,h1,h2 with
 | 0,h1,h2=>simp at h1 h2;subst h1 h2;exact hv0
 | 1,h1,h2=>simp at h1 h2;subst h1 h2;exact RD.int _ _
set_option maxRecDepth 100000 in
theorem lifted (os : Os) (started : os.Started) (H : Type) (enc : TypeId × Value → H) :
   ReturnsInHanded {} Tryz.checked os 11 .any (Rows.checkMoveSpec.pre6 enc Tryz.prog Tryz.f11 Rows.checkMoveRow.domain false) (Rows.checkMoveSpec.post enc Tryz.prog Tryz.f11 false true false false) := by
 refine returnsInHanded_of_change (C := Tryz.checked) own started (by kernel_rfl) Tryz.func11
   (ChangeSpec.witness6 (enc := enc) (C := Tryz.checked) false ⟨#[], #[.agg #[.slice none 0 0, .slice none 0 0], .int .i64 0], []⟩ 8 (by kernel_rfl) (by kernel_rfl) (by kernel_rfl) (by kernel_rfl)) ?_
 intro W base args ds gs before agm hW kO _
 have rB : ∀ (j : Nat) t v, Tryz.f11.params[j]? = some t → args[j]? = some v → Value.okWide Tryz.prog W .any base t v := agm
 have hW' := hW
 obtain ⟨p, q, hA0, hV, rfl, hfz, hnd⟩ := hW
 have hA : DataW.TrodAll enc Tryz.prog W 0 (fun _ => true) true Tryz.f11.params.toList args.toList ds p := hA0
 rw [Tryz.params11] at hA rB
 obtain ⟨l⟩ := args
 obtain ⟨v0, l0, d0, HU, p0, q0, e0, e0d, IY, hA0⟩ := Gl hA
 obtain ⟨v1, l1, d1, ds1, p1, q1, e1, e1d, IZ, hA1⟩ := Gl hA0
 obtain ⟨en, end_⟩ := UY hA1
 have el : l = [v0, v1] := by rw [show l = _ from e0, e1, en]
 subst el
 have ed : ds = [d0, d1] := by rw [e0d, e1d, end_]
 clear e0d
 subst ed
 have Rq : ∀ (i : Nat) (v : Value), Tryz.f11.params[i]? = some 25 → (⟨[v0, v1]⟩ : Array Value)[i]? = some v → ∀ {d ps}, DataW.Trod enc Tryz.prog W 0 (fun _ => true) true 25 v d ps → ∃ x : Pg, RD (AX W) S0 (.agg (bC x)) v ∧ x.qU := by
   intro i v hp hv d ps ⟨fuel, hf⟩
   obtain ⟨y, h1, h2⟩ := adq hf
   obtain ⟨fs, CO⟩ := G0 (P := Tryz.prog) (t := 25) (l := [(22, 0), (23, 1)]) (by kernel_rfl) (by simp)
   obtain ⟨cs, e, _⟩ := okWide_struct CO (rB i 25 v (by rw [← Tryz.params11]; exact hp) hv)
   exact ⟨y, h1.agg ⟨cs, e⟩, h2⟩
 obtain ⟨x0, hv0, OU⟩ := Rq 0 v0 (by rw [Tryz.params11]; rfl) rfl IY
 obtain ⟨x1, rfl, rfl, rfl, hi1⟩ := open_int Tryz.underlying3 (rB 1 _ _ rfl rfl) IZ
 obtain ⟨rfl, rfl⟩ := trodVars_none hV
 refine (walk W x0 OU v0 hv0 x1).mono fun e W' ⟨he, hg⟩ => ?_
 subst he
 exact ⟨_, rfl, UX kids full (by rw [Tryz.params11]; decide) Tryz.underlying4 (by kernel_rfl) rfl hW' rfl hg⟩
theorem over:Rows.checkMoveRow.holds Tryz.pinned (OpenSpec.ofChange Rows.checkMoveSpec):=
 OpenClaim.holds_of_wide 11 Tryz.f11 rfl rfl rfl rfl rfl rfl rfl ⟨rfl,rfl,rfl,rfl,rfl⟩ rfl rfl rfl rfl rfl (by kernel_rfl) Tryz.func11 (by kernel_rfl)
  (of_decide_eq_true (by kernel_rfl)) (by unfold Func.isWrapper;first | (rw [if_pos (by decide +kernel)];kernel_rfl) | (rw [if_neg (by decide +kernel)];exact⟨rfl,rfl⟩))
  (fun os started H enc _=>lifted os started H enc)
theorem proved:Rows.CheckMoveSaid:=
 over
#print axioms proved
end Go.Proofs.YtiopamakecmpkaaGreat.checkMove
