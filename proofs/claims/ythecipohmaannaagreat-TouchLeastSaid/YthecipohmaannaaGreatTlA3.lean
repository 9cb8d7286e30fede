/-
  What is proved here: the statement TouchLeastSaid: whatever the arguments, the law, called, gives true, and of what was there nothing turns.
  No conditions.
-/
import Derived.Test.YthecipohmaannaaGreatTlA2
import Derived.Sort.Walk0
import Derived.RowKit3
import Derived.WalkKit
import Derived.ProofKit
import Derived.OpenShut
import Derived.ShutString
import Derived.ChangeMaps5
import Derived.ChangeStays
import Derived.KernelRfl
import Derived.Test.YthecipohmaannaaGreatRows

set_option linter.unusedSimpArgs false
set_option linter.unusedVariables false

/-! SortR -/

namespace Go.Abs
open Go.Proofs
section
variable {P:Program} {B:fp} {nt:Nat}
theorem Nx {x:Operand} {t:Nat} (h:cX x=some (.s t)):x = .tmp t:=by
 unfold cX at h
 split at h
 ·cases h;rfl
 ·obtain⟨d,_,h⟩:=map_some h;cases h
 ·cases h
 ·cases h
theorem FE {ops:Array Oper} {o:Oper} {g g':Option (Nat×Bool)} {dst:Option Nat} {f:Nat} {xs:List X} (h:om P ops o g=some (.call dst g' f xs)) :
 g'=g∧∃ args ky,o.op = .call ⟨.value (.func f),args,ky⟩∧enters P f=true∧rL args.toList=some xs:=by
 unfold om at h
 split at h
 ·rename_i f' args ky jF
  split at h
  ·rename_i he
   obtain⟨xs',h1,h2⟩:=map_some h
   cases h2
   exact⟨rfl,args,ky,jF,he,h1⟩
  ·cases h
 ·obtain⟨_,_,h⟩:=map_some h;cases h
 ·split at h
  ·cases h
  ·split at h <;> cases h
theorem H5 {ops:Array Oper} {o:Oper} {tmps:Array Value} (hg:pP ops o.guard=some none):Region.wanted o (yielded ops tmps)=true:=by
 have:o.guard=none:=by
  cases yL:o.guard with
  | none=>rfl
  | some p=>
   obtain⟨j,b⟩:=p
   rw [yL]at hg
   unfold pP at hg
   simp only at hg
   split at hg <;> cases hg
 simp [Region.wanted,this]
theorem Sem.Qq {a k b f:Nat} {is:List AI} {Q:Exit→Tm→St→Prop} {tm:Tm} {s:St}
 (Sy : ∀ act w,Holds B nt (tm.put (some a) (tm.get k)) s act w→Calls P f #[act.tmps.getD a Go.undef] w fun e w'=>∃ v,e = .returned v∧∃ bp s',Holds B nt bp s' (act.put (some b) v) w'∧fO P is (Q .normal) bp s') :
 Sem P B nt (.run (.op (some a) none (.mv (.s k)):: .call (some b) none f [.s a]::is)) Q tm s:=by
 intro c hc act w hh
 obtain⟨id,ops,rfl,hi⟩:=jg hc
 refine wp_region ?_
 have key : ∀ (l:List Nat) (ol:List Oper),l.map (ops[·]?)=ol.map some→mV P nt ops ol=some (.op (some a) none (.mv (.s k)):: .call (some b) none f [.s a]::is)→wpOps P ops (lN B nt Q) l act w:=by
  intro l ol hl ri
  match ol,l,hl with
  | [],_,_=>simp [mV]at ri
  | o0::ol,[],hl=>simp at hl
  | o0::ol,j0::l,hl=>
   simp only [List.map_cons,List.cons.injEq]at hl
   obtain⟨hj0,hl⟩:=hl
   unfold mV at ri
   split at ri
   ·rename_i i0 is0 h1 h2
    cases ri
    match ol,l,hl,h2 with
    | [],_,_,h2=>simp [mV]at h2
    | o1::ol,[],hl,_=>simp at hl
    | o1::ol,j1::l,hl,h2=>
     simp only [List.map_cons,List.cons.injEq]at hl
     obtain⟨hj1,hl⟩:=hl
     unfold mV at h2
     split at h2
     ·rename_i i1 is1 h3 h4
      cases h2
      obtain⟨M,e,r,ht,hn,hd⟩:=hh
      have zg:=oJ h1
      have Mf:=oJ h3
      simp only [AI.dst]at zg Mf
      refine rh (K':=fun bp s'=>bp=tm.put (some a) (tm.get k)∧s'=s) hj0 h1 r (B.laid.ext e) ht (by simp only [fO,guarded,aM,X.ev,and_self]) (fun d v s1 w1 M1 hk e1 r1 hv=> ?_)
      obtain⟨vv,rfl⟩:=hk
      have hH:=Holds.put e ht hn hd (rS h1) e1 r1 hv
      simp only [AI.dst]at vv
      rw [← zg]at hH ⊢
      rw [vv]at hH
      obtain⟨g,hg,_,hb⟩:=um h3
      obtain⟨rfl,args,ky,jF,sC,kT⟩:=FE hb
      simp only [wpOps,hj1,H5 hg,if_true]
      left
      have Wc:args.map (act.put (some a) v).eval = #[(act.put (some a) v).tmps.getD a Go.undef]:=by
       have:args.toList = [.tmp a]:=by
        match hA:args.toList with
        | []=>rw [hA]at kT;simp [rL]at kT
        | [x]=>
         rw [hA]at kT
         simp only [rL]at kT
         split at kT
         ·rename_i x' r' hx hr
          cases kT
          rw [Nx hx]
         ·cases kT
        | x::y::z=>
         rw [hA]at kT
         simp only [rL]at kT
         split at kT
         ·rename_i x' r' hx hr
          cases kT
          split at hr
          ·cases hr
          ·cases hr
         ·cases kT
       have:args = #[.tmp a]:=by rw [← Array.toArray_toList (xs:=args),this]
       rw [this]
       simp only [List.map_toArray,List.map_cons,List.map_nil]
       rfl
      have hex:(execOp (act.put (some a) v).eval o1).run P w1 = .ok (.enter f #[(act.put (some a) v).tmps.getD a Go.undef]) w1:=by
       obtain⟨dst,op,type,pos,after,guard⟩:=o1
       simp only at jF
       subst jF
       rw [← Wc]
       exact q8 (act.put (some a) v).eval dst f args ky type pos after guard rfl sC w1
      unfold Oper.wp
      rw [hex,Oper.upon_enter]
      refine(Sy _ _ hH).mono ?_
      rintro en w' ⟨v',rfl,bp,s',hH',hvc⟩
      rw [← Mf]
      exact uf (Q:=Q) l ol _ hl h4 bp s' _ w' hvc hH'
     ·cases h2
   ·cases ri
 exact key _ _ (ug ops) hi
theorem zw (hB:B.s = ⟨[],[]⟩) {tm:Tm} {s:St} {act:Act} {w:World} (h:Holds B nt tm s act w) {t:Nat} {l:List aA} (ht:s.av[t]? = some (some l.length)) {k0:Nat} (HO:tm.get k0 = .slice (.tok t) 1 (l.map encStr)) :
 (l = []∧∀ k,tm.get k = .slice (.tok t) 1 (l.map encStr)→(act.tmps.getD k Go.undef = .slice none 0 0∨∃ b q,act.tmps.getD k Go.undef = .slice (some ⟨b,q,none⟩) 0 0))∨
 ∃ (b cap:Nat) (vs:Array Value) (T:TypeId),(∀ k,tm.get k = .slice (.tok t) 1 (l.map encStr)→act.tmps.getD k Go.undef = .slice (some ⟨b,0,none⟩) l.length cap)∧l.length≤cap∧w.heap[b]? = some (.cells vs T (0,0))∧vs.size=cap∧B.w.heap.size≤b∧
  ∀ j (hj:j<l.length),vs[j]? = some (.string ⟨⟨l[j]⟩⟩):=by
 obtain⟨M,e,r,hr,_,_⟩:=h
 rcases r.tok t _ ht with ⟨h3,h4⟩ | ⟨b,cap,z,vs,T,h3,h4,h5,h6,h7⟩
 ·have hl:l = []:=List.eq_nil_of_length_eq_zero h4
  subst hl
  refine .inl ⟨rfl,fun k hk=> ?_⟩
  have hv:=hr k
  rw [hk]at hv
  generalize act.tmps.getD k Go.undef=v at hv
  cases hv with
  | gA _ _ cap hc lK=>subst hc;exact .inl rfl
  | slice _ _ _ b q cap hl hs h1 h2 lK=>
   rcases(lK.2 _ ht).2 rfl with ⟨_,h0,_⟩ | ⟨b',_,gY⟩
   ·subst h0;exact .inr ⟨b,q,rfl⟩
   ·rw [h3]at gY;cases gY
 ·right
  have each : ∀ k,tm.get k = .slice (.tok t) 1 (l.map encStr)→z=1∧act.tmps.getD k Go.undef = .slice (some ⟨b,0,none⟩) l.length cap∧l.length≤cap∧∀ j (hj:j<l.length),∃ u,M.G b j=some u∧RD M s (.str l[j]) u:=by
   intro k hk
   have hv:=hr k
   rw [hk]at hv
   generalize act.tmps.getD k Go.undef=v at hv
   generalize iP:l.map encStr=rows at hv
   cases hv with
   | gA _ _ cap hc lK=>
    have hl:l = []:=by cases l <;> simp at iP;rfl
    subst hl
    rcases(lK.2 _ ht).2 rfl with ⟨h0,_⟩ | ⟨b',h0,_⟩
    ·rw [h3]at h0;cases h0
    ·cases h0
   | slice _ _ _ b2 q adR hl hs h1 h2 lK=>
    subst iP
    rw [List.length_map]at hl lK
    rcases(lK.2 _ ht).2 rfl with ⟨h0,_⟩ | ⟨b',hb,gY⟩
    ·rw [h3]at h0;cases h0
    ·cases hb
     rw [h3]at gY
     cases gY
     refine⟨rfl,by rw [List.length_map],hl,fun j hj=> ?_⟩
     have e1:(l.map encStr)[j]? = some [.str l[j]]:=by rw [List.getElem?_map,List.getElem?_eq_getElem hj];rfl
     obtain⟨u,hu⟩:=h1 j _ 0 _ e1 rfl
     refine⟨u,by simpa using hu,h2 j _ 0 _ u e1 rfl hu⟩
  obtain⟨rfl,_,oY,jf⟩:=each k0 HO
  have dg:B.w.heap.size≤b:=by
   rcases e.mT t b cap 1 ⟨_,ht⟩ h3 with ⟨⟨n,hn⟩,_⟩ | h
   ·rw [hB]at hn;simp at hn
   ·exact h
  refine⟨b,cap,vs,T,fun k hk=>(each k hk).2.1,oY,h4,by simpa [zs]using h5,dg,fun j hj=> ?_⟩
  obtain⟨u,hu,lX⟩:=jf j hj
  have:=(r.comm _ _ _ hu).1
  rw [iw h4,lX.iC]at this
  exact this
theorem B2 (hB:B.s = ⟨[],[]⟩) {tm:Tm} {s:St} {act pf:Act} {w w':World} (h:Holds B nt tm s act w) {b cap:Nat} {vs:Array Value} {T:TypeId} (dI:vs.size=cap) (qL:B.w.heap.size≤b)
 (jd : ∀ q,q<B.w.heap.size→w'.heap[q]? = w.heap[q]?) (dj:w'.heap[b]? = some (.cells vs T (0,0))) (CX:w.heap.size≤w'.heap.size) (yT:w'.os=w.os) (wT:w'.tape=w.tape) (II:w'.output=w.output)
 {l:List aA} (hl:l.length≤cap) (jf : ∀ j (hj:j<l.length),vs[j]? = some (.string ⟨⟨l[j]⟩⟩)) {k:Nat} (FF:pf.tmps.getD k Go.undef = .slice (some ⟨b,0,none⟩) l.length cap) (hn:pf.tmps.size=nt) (hd:pf.defers = []) :
 Holds B nt [(k, .slice (.tok 0) 1 (l.map encStr))] ⟨[],[some l.length]⟩ pf w':=by
 obtain⟨M,e,r,hr,_,_⟩:=h
 let M':Map:=⟨fun q o=>if q=b then(if o<l.length then(l[o]?).map fun x=>Value.string ⟨⟨x⟩⟩else none)else B.M.G q o,B.M.loc,fun _=>some (b,cap,1)⟩
 have Tt : ∀ q o v,B.M.G q o=some v→q<B.w.heap.size∧w'.cell? ⟨q,o,none⟩=some v∧v.oneCell'=true:=by
  intro q o v hq
  obtain⟨h1,h2⟩:=r.comm q o v (e.le.G q o v hq)
  have hD:=B.WX q o v hq
  refine⟨hD, ?_,h2⟩
  rw [← h1]
  simp [World.cell?,jd q hD]
 have qt : ∀ j (hj:j<l.length),w'.cell? ⟨b,j,none⟩=some (.string ⟨⟨l[j]⟩⟩):=fun j hj=>by rw [iw dj];exact jf j hj
 have hF : ∀ (j:Nat) v,(if j<l.length then(l[j]?).map fun x=>Value.string ⟨⟨x⟩⟩else none)=some v→∃ hj:j<l.length,v = .string ⟨⟨l[j]⟩⟩:=by
  intro j v hv
  split at hv
  ·rename_i hj
   rw [List.getElem?_eq_getElem hj]at hv
   exact⟨hj,by simpa using hv.symm⟩
  ·cases hv
 refine⟨M',⟨⟨fun q o v hq=> ?_,by simp [hB],fun o ho=>rfl,by rw [hB];exact Nat.zero_le _,fun t n' ht _=>by rw [hB]at ht;exact absurd ht (Nat.not_lt_zero _)⟩,fun q hq _ _=> ?_,fun o _ h2=>absurd h2 (Nat.not_lt_zero _),fun t q c z _ hb=> ?_,fun q o dX=> ?_,Nat.le_trans e.size CX,yT.trans e.os,wT.trans e.tape,II.trans e.output⟩,
  ⟨fun q o v hq=> ?_,fun o ds ho=>by simp at ho,fun o ho=>absurd ho (Nat.not_lt_zero _),fun o o' ho=>absurd ho (Nat.not_lt_zero _),fun t n ht=> ?_,fun t q c z o _ _ ho=>absurd ho (Nat.not_lt_zero _),fun t t' q c z c' z' zf jQ _ _=> ?_⟩,fun u=> ?_,hn,hd⟩
 ·show(if q=b then _ else B.M.G q o)=some v
  rw [if_neg (by have:=(Tt q o v hq).1;omega)]
  exact hq
 ·rw [jd q hq]
  exact e.kept q hq (fun o ho=>by rw [hB]at ho;exact absurd ho (Nat.not_lt_zero _)) (fun t c z jQ=>by rw [hB]at jQ;obtain⟨n,tq⟩:=jQ;simp at tq)
 ·cases hb;exact .inr qL
 ·by_cases hq:q=b
  ·subst hq;exact .inl qL
  ·exact absurd (show(if q=b then _ else B.M.G q o)=B.M.G q o from if_neg hq) dX
 ·have nS:(if q=b then(if o<l.length then(l[o]?).map fun x=>Value.string ⟨⟨x⟩⟩else none)else B.M.G q o)=some v:=hq
  by_cases Qs:q=b
  ·rw [if_pos Qs]at nS
   obtain⟨hj,rfl⟩:=hF o v nS
   rw [Qs]
   exact⟨qt o hj,rfl⟩
  ·rw [if_neg Qs]at nS
   exact(Tt q o v nS).2
 ·match t with
  | 0=>
   simp at ht
   subst ht
   refine .inr ⟨b,cap,1,vs,T,rfl,dj,by simp [zs,dI],hl,fun off ho=> ?_,fun h=>by cases h⟩
   show(if b=b then(if off<l.length then _ else none)else B.M.G b off)=none
   rw [if_pos rfl,if_neg (by simp [zs]at ho;omega)]
  | t+1=>simp at ht
 ·obtain⟨n1,h1⟩:=zf
  obtain⟨n2,h2⟩:=jQ
  have a1:=(List.getElem?_eq_some_iff.1 h1).1
  have a2:=(List.getElem?_eq_some_iff.1 h2).1
  simp at a1 a2
  omega
 ·simp only [Tm.get]
  split
  ·rename_i Qt
   subst Qt
   rw [FF]
   have:=RD.slice (M:=M') (s:=⟨[],[some l.length]⟩) (.tok 0) 1 (l.map encStr) b 0 cap (by simpa using hl) (fun row hr=>by
    obtain⟨x,_,rfl⟩:=List.mem_map.1 hr;rfl) (fun i row j d e1 e2=> ?_) (fun i row j d u e1 e2 eu=> ?_) ⟨by simp,fun n tq=>by
    simp at tq
    subst tq
    exact⟨by simp,fun _=> .inr ⟨b,rfl,rfl⟩⟩⟩
   ·simpa using this
   ·rw [List.getElem?_map]at e1
    cases ta:l[i]? with
    | none=>rw [ta]at e1;cases e1
    | some x=>
     have mZ:=(List.getElem?_eq_some_iff.1 ta).1
     rw [ta]at e1
     cases e1
     have hj:j=0:=by cases j with | zero=>rfl | succ j=>simp [encStr]at e2
     subst hj
     refine⟨.string ⟨⟨x⟩⟩, ?_⟩
     show(if b=b then(if 0+(i*1+0)<l.length then _ else none)else _)=_
     rw [if_pos rfl,if_pos (by omega)]
     simp [ta]
   ·rw [List.getElem?_map]at e1
    cases ta:l[i]? with
    | none=>rw [ta]at e1;cases e1
    | some x=>
     have mZ:=(List.getElem?_eq_some_iff.1 ta).1
     rw [ta]at e1
     cases e1
     have hj:j=0:=by cases j with | zero=>rfl | succ j=>simp [encStr]at e2
     subst hj
     have Da:(if b=b then(if 0+(i*1+0)<l.length then(l[0+(i*1+0)]?).map fun x=>Value.string ⟨⟨x⟩⟩else none)else B.M.G b (0+(i*1+0)))=some u:=eu
     rw [if_pos rfl,if_pos (by omega)]at Da
     simp [ta]at Da
     subst Da
     simp [encStr]at e2
     subst e2
     exact .str x
  ·exact .junk _
theorem Dn (hB:B.s = ⟨[],[]⟩) {tm:Tm} {s:St} {act pf:Act} {w:World} (h:Holds B nt tm s act w) {k:Nat} (FF:pf.tmps.getD k Go.undef = .slice none 0 0∨∃ b q,pf.tmps.getD k Go.undef = .slice (some ⟨b,q,none⟩) 0 0) (hn:pf.tmps.size=nt) (hd:pf.defers = []) :
 Holds B nt [(k, .slice (.tok 0) 1 (([] : List aA).map encStr))] ⟨[],[some 0]⟩ pf w:=by
 obtain⟨M,e,r,hr,_,_⟩:=h
 let M':Map:=⟨B.M.G,B.M.loc,fun _=>none⟩
 refine⟨M',⟨⟨fun q o v hq=>hq,by simp [hB],fun o ho=>rfl,by rw [hB];exact Nat.zero_le _,fun t n' ht _=>by rw [hB]at ht;exact absurd ht (Nat.not_lt_zero _)⟩,fun q hq _ _=> ?_,fun o _ h2=>absurd h2 (Nat.not_lt_zero _),fun t q c z _ hb=>(by cases hb),fun q o dX=>absurd rfl dX,e.size,e.os,e.tape,e.output⟩,
  ⟨fun q o v hq=>r.comm q o v (e.le.G q o v hq),fun o ds ho=>by simp at ho,fun o ho=>absurd ho (Nat.not_lt_zero _),fun o o' ho=>absurd ho (Nat.not_lt_zero _),fun t n ht=> ?_,fun t q c z o _ _ ho=>absurd ho (Nat.not_lt_zero _),fun t t' q c z c' z' zf jQ h1 _=>by cases h1⟩,fun u=> ?_,hn,hd⟩
 ·exact e.kept q hq (fun o ho=>by rw [hB]at ho;exact absurd ho (Nat.not_lt_zero _)) (fun t c z jQ=>by rw [hB]at jQ;obtain⟨n,tq⟩:=jQ;simp at tq)
 ·match t with
  | 0=>simp at ht;subst ht;exact .inl ⟨rfl,rfl⟩
  | t+1=>simp at ht
 ·simp only [Tm.get]
  split
  ·rename_i Qt
   subst Qt
   have lK : ∀ base,fI M' ⟨[],[some 0]⟩ (.tok 0) 1 0 base 0:=fun base=>⟨by simp,fun n tq=>by
    simp at tq
    subst tq
    exact⟨Nat.le_refl _,fun _=> .inl ⟨rfl,rfl,fun h=>by cases h⟩⟩⟩
   rcases FF with h | ⟨b,q,h⟩
   ·rw [h];exact .gA _ _ 0 rfl (lK none)
   ·rw [h];exact .slice (.tok 0) 1 [] b q 0 (Nat.le_refl _) (by simp) (by simp) (by simp) (lK _)
  ·exact .junk _
theorem B3 {α:Type} [Inhabited α] (enc:α→Value) (d:Array α) (c:Array Value) (j:Nat):(Sort.putCells enc 0 d c)[j]? = if j<d.size then(c[j]?).map fun _=>enc d[j]! else c[j]? :=by
 simp only [Sort.putCells,Array.getElem?_mapIdx]
 cases h:c[j]? with
 | none=>simp
 | some x=>by_cases hj:j<d.size <;> simp [hj]
theorem zz {w:World} {b n cap:Nat} {vs:Array Value} {T:TypeId} (dj:w.heap[b]? = some (.cells vs T (0,0))) (dI:vs.size=cap) (l:List aA) (hl:l.length≤cap) (os:Array Obj) :
 (∀ q,q≠b→q<w.heap.size→(Sort.grow (Sort.putRow Go.Proofs.encStr (Sort.ahead w n) b 0 l.toArray) os).heap[q]? = w.heap[q]?)∧
 (Sort.grow (Sort.putRow Go.Proofs.encStr (Sort.ahead w n) b 0 l.toArray) os).heap[b]? = some (.cells (Sort.putCells Go.Proofs.encStr 0 l.toArray vs) T (0,0))∧w.heap.size≤(Sort.grow (Sort.putRow Go.Proofs.encStr (Sort.ahead w n) b 0 l.toArray) os).heap.size∧
 (Sort.putCells Go.Proofs.encStr 0 l.toArray vs).size=cap∧∀ j (hj:j<l.length),(Sort.putCells Go.Proofs.encStr 0 l.toArray vs)[j]? = some (.string ⟨⟨l[j]⟩⟩):=by
 have hb:b<w.heap.size:=(Array.getElem?_eq_some_iff.1 dj).1
 refine⟨fun q hq hD=> ?_, ?_, ?_, ?_,fun j hj=> ?_⟩
 ·simp only [Sort.grow,Sort.putRow,Sort.mapBlock,Sort.ahead]
  rw [Array.getElem?_append_left (by simpa using hD),Array.getElem?_modify]
  simp [Ne.symm hq]
 ·simp only [Sort.grow,Sort.putRow,Sort.mapBlock,Sort.ahead]
  rw [Array.getElem?_append_left (by simpa using hb),Array.getElem?_modify]
  simp [dj,Sort.onCells]
 ·simp [Sort.grow,Sort.putRow,Sort.mapBlock,Sort.ahead]
 ·simp [Sort.putCells,dI]
 ·rw [B3]
  have h1:j<l.toArray.size:=by simpa using hj
  have h2:vs[j]? = some vs[j]:=Array.getElem?_eq_getElem (by omega)
  rw [if_pos h1,h2]
  simp [hj]
def jo (l:List aA):List aA:=l.mergeSort fun x y=>decide (x≤y)
theorem B4 {act:Act} {b:Nat} {v:Value} {u:Nat} (h:u≠b):(act.put (some b) v).tmps.getD u Go.undef=act.tmps.getD u Go.undef:=by
 simp only [Act.put,Array.getD_eq_getD_getElem?]
 rw [Array.getElem?_setIfInBounds_ne (fun e=>h e.symm)]
theorem zA {act:Act} {b:Nat} {v:Value} (h:b<act.tmps.size):(act.put (some b) v).tmps.getD b Go.undef=v:=by
 simp only [Act.put,Array.getD_eq_getD_getElem?]
 simp [h]
theorem Sem.sort (hB:B.s = ⟨[],[]⟩) {a k b t:Nat} {l:List aA} {is:List AI} {Q:Exit→Tm→St→Prop} {tm:Tm} {s:St} (hak:a≠k) (Tv:b≠k) (L9:a≠b)
 (hk:tm.get k = .slice (.tok t) 1 (l.map encStr)) (ht:s.av[t]? = some (some l.length)) (hl:l.length<4611686018427387904)
 (h:fO Tryz.prog is (Q .normal) [(k, .slice (.tok 0) 1 ((jo l).map encStr))] ⟨[],[some l.length]⟩) :
 Sem Tryz.prog B nt (.run (.op (some a) none (.mv (.s k)):: .call (some b) none gb [.s a]::is)) Q tm s:=by
 refine Sem.Qq fun act w hh=> ?_
 have s4:(tm.put (some a) (tm.get k)).get k = .slice (.tok t) 1 (l.map encStr):=by rw [Tm.iE,if_neg (by simpa using hak)];exact hk
 have B5:(tm.put (some a) (tm.get k)).get a = .slice (.tok t) 1 (l.map encStr):=by rw [Tm.iE,if_pos rfl];exact hk
 have xD:(jo l).length=l.length:=List.length_mergeSort l
 have hn:(act.put (some b) (.tuple #[])).tmps.size=nt:=by obtain⟨_,_,_,_,h1,_⟩:=hh;simpa [Act.put]using h1
 have hd:(act.put (some b) (.tuple #[])).defers = []:=by obtain⟨_,_,_,_,_,h1⟩:=hh;simpa [Act.put]using h1
 have dI:(act.tmps).size=nt:=by obtain⟨_,_,_,_,h1,_⟩:=hh;exact h1
 rcases zw hB hh ht B5 with ⟨rfl,hv⟩ | ⟨b',cap,vs,T,hv,oY,dj,lb,qL,jf⟩
 ·rw [show jo [] = [] by simp [jo]]at h
  have call : ∀ p,act.tmps.getD a Go.undef = .slice p 0 0→Calls Tryz.prog gb #[act.tmps.getD a Go.undef] w fun e w'=>∃ v,e = .returned v∧∃ bp s',Holds B nt bp s' (act.put (some b) v) w'∧fO Tryz.prog is (Q .normal) bp s':=by
   intro p hp
   rw [hp]
   refine(Tryz.slices_Sort_string_none p 0 w).mono ?_
   rintro e w' ⟨rfl,rfl⟩
   refine⟨_,rfl,_,_,Dn hB hh (k:=k) ?_ hn hd,h⟩
   rw [B4 (Ne.symm Tv)]
   exact hv k s4
  rcases hv a B5 with h1 | ⟨b',q,h1⟩
  ·exact call _ h1
  ·exact call _ h1
 ·rw [hv a B5]
  have hD:b'<w.heap.size:=(Array.getElem?_eq_some_iff.1 dj).1
  refine(Tryz.slices_Sort_string b' 0 cap l w (fun j hj=> ?_) hD hl).mono ?_
  ·have H6:j<l.length:=by simpa using hj
   refine⟨?_,by simp [World.frozen?,dj]⟩
   rw [Nat.zero_add,iw dj,jf j H6]
   simp [H6]
  ·rintro e w' ⟨rfl,n,os,rfl⟩
   obtain⟨p1,p2,p3,p4,p5⟩:=zz (n:=n) dj lb (jo l) (by omega) os
   have hH:=B2 hB hh (pf:=act.put (some b) (.tuple #[])) (l:=jo l) (k:=k) p4 qL (fun q hq=>p1 q (by omega) (by obtain⟨M,e,_⟩:=hh;exact Nat.lt_of_lt_of_le hq e.size)) p2 p3 rfl rfl rfl (by omega) p5 (by rw [B4 (Ne.symm Tv),hv k s4,xD]) hn hd
   rw [xD]at hH
   exact⟨_,rfl,_,_,hH,h⟩
theorem CK (l:List aA):(Lib.compact l).length≤l.length:=by
 unfold Lib.compact Lib.compactUpTo
 rw [List.length_map]
 exact Nat.le_trans (List.length_filter_le _ _) (by simp)
theorem Sem.compact (hB:B.s = ⟨[],[]⟩) {a k b t:Nat} {l:List aA} {is:List AI} {Q:Exit→Tm→St→Prop} {tm:Tm} {s:St} (hbt:b<nt)
 (hk:tm.get k = .slice (.tok t) 1 (l.map encStr)) (ht:s.av[t]? = some (some l.length)) (hl:l.length<4611686018427387904)
 (h:fO Tryz.prog is (Q .normal) [(b, .slice (.tok 0) 1 ((Lib.compact l).map encStr))] ⟨[],[some (Lib.compact l).length]⟩) :
 Sem Tryz.prog B nt (.run (.op (some a) none (.mv (.s k)):: .call (some b) none gv [.s a]::is)) Q tm s:=by
 refine Sem.Qq fun act w hh=> ?_
 have B5:(tm.put (some a) (tm.get k)).get a = .slice (.tok t) 1 (l.map encStr):=by rw [Tm.iE,if_pos rfl];exact hk
 have dI:(act.tmps).size=nt:=by obtain⟨_,_,_,_,h1,_⟩:=hh;exact h1
 have hn : ∀ v,(act.put (some b) v).tmps.size=nt:=fun v=>by simpa [Act.put]using dI
 have hd : ∀ v,(act.put (some b) v).defers = []:=by obtain⟨_,_,_,_,_,h1⟩:=hh;intro v;simpa [Act.put]using h1
 rcases zw hB hh ht B5 with ⟨rfl,hv⟩ | ⟨b',cap,vs,T,hv,oY,dj,lb,qL,jf⟩
 ·rw [show Lib.compact ([] : List aA) = []from rfl]at h
  have call : ∀ p,act.tmps.getD a Go.undef = .slice p 0 0→(p=none∨∃ b q,p=some ⟨b,q,none⟩)→Calls Tryz.prog gv #[act.tmps.getD a Go.undef] w fun e w'=>∃ v,e = .returned v∧∃ bp s',Holds B nt bp s' (act.put (some b) v) w'∧fO Tryz.prog is (Q .normal) bp s':=by
   intro p hp hq
   rw [hp]
   refine(Tryz.slices_Compact_string_empty p 0 w).mono ?_
   rintro e w' ⟨rfl,rfl⟩
   refine⟨_,rfl,_,_,Dn hB hh (k:=b) ?_ (hn _) (hd _),h⟩
   rw [zA (by omega)]
   rcases hq with rfl | ⟨x,y,rfl⟩
   ·exact .inl rfl
   ·exact .inr ⟨x,y,rfl⟩
  rcases hv a B5 with h1 | ⟨b',q,h1⟩
  ·exact call _ h1 (.inl rfl)
  ·exact call _ h1 (.inr ⟨b',q,rfl⟩)
 ·rw [hv a B5]
  have wX:(Lib.compact l).length≤l.length:=CK l
  refine(Tryz.slices_Compact_string b' 0 cap l w (fun j hj=> ?_) (by omega) oY).mono ?_
  ·have H6:j<l.length:=by simpa using hj
   refine⟨?_,by simp [World.frozen?,dj]⟩
   rw [Nat.zero_add,iw dj,jf j H6]
   simp [H6]
  ·rintro e w' ⟨rfl,q,rfl⟩
   obtain⟨p1,p2,p3,p4,p5⟩:=zz (n:=q) dj lb (Lib.compact l++List.replicate (l.length - (Lib.compact l).length) []) (by simp;omega) #[]
   rw [Sort.grow_empty]at p1 p2 p3
   have hH:=B2 hB hh (pf:=act.put (some b) (.slice (some ⟨b',0,none⟩) (Lib.compact l).length cap)) (l:=Lib.compact l) (k:=b) p4 qL (fun q hq=>p1 q (by omega) (by obtain⟨M,e,_⟩:=hh;exact Nat.lt_of_lt_of_le hq e.size)) p2 p3 rfl rfl rfl (by omega)
    (fun j hj=>by
     have:=p5 j (by simp;omega)
     rw [List.getElem_append_left hj]at this
     exact this) (zA (by omega)) (hn _) (hd _)
   exact⟨_,rfl,_,_,hH,h⟩
end
end Go.Abs

/-! SrtP -/

namespace Go.Abs
theorem xE {a b:UInt8} : a<b↔a.toNat<b.toNat:=UInt8.lt_iff_toNat_lt
theorem sj : ∀ a:aA,bytesLess a a=false
 | []=>rfl
 | x::a=>by
  show Go.Op.bytesLess (x::a) (x::a)=false
  have h:=sj a
  have h:Go.Op.bytesLess a a=false:=h
  simp [Go.Op.bytesLess,h]
theorem sk : ∀ a b:aA,bytesLess a b=true∨a=b∨bytesLess b a=true
 | [],[]=> .inr (.inl rfl)
 | [],y::b=> .inl rfl
 | x::a,[]=> .inr (.inr rfl)
 | x::a,y::b=>by
  show Go.Op.bytesLess (x::a) (y::b)=true∨_∨Go.Op.bytesLess (y::b) (x::a)=true
  have h:Go.Op.bytesLess a b=true∨a=b∨Go.Op.bytesLess b a=true:=sk a b
  simp only [Go.Op.bytesLess,Bool.or_eq_true,Bool.and_eq_true,decide_eq_true_eq,beq_iff_eq,List.cons.injEq]
  by_cases e:x=y
  ·subst e
   rcases h with h | h | h
   ·exact .inl (.inr ⟨rfl,h⟩)
   ·exact .inr (.inl ⟨rfl,h⟩)
   ·exact .inr (.inr (.inr ⟨rfl,h⟩))
  ·have:x.toNat≠y.toNat:=fun h=>e (UInt8.toNat_inj.1 h)
   rcases Nat.lt_or_gt_of_ne this with h | h
   ·exact .inl (.inl (xE.2 h))
   ·exact .inr (.inr (.inl (xE.2 h)))
theorem xF : ∀ a b c:aA,bytesLess a b=true→bytesLess b c=true→bytesLess a c=true
 | a,b,[],h1,h2=>by cases b <;> cases h2
 | a,[],z::c,h1,h2=>by cases a <;> cases h1
 | [],y::b,z::c,h1,h2=>rfl
 | x::a,y::b,z::c,h1,h2=>by
  have h1:Go.Op.bytesLess (x::a) (y::b)=true:=h1
  have h2:Go.Op.bytesLess (y::b) (z::c)=true:=h2
  show Go.Op.bytesLess (x::a) (z::c)=true
  simp only [Go.Op.bytesLess,Bool.or_eq_true,Bool.and_eq_true,decide_eq_true_eq,beq_iff_eq]at h1 h2 ⊢
  rcases h1 with e1 | ⟨i1,e1⟩
  ·rcases h2 with e2 | ⟨i2,e2⟩
   ·exact .inl (xE.2 (Nat.lt_trans (xE.1 e1) (xE.1 e2)))
   ·exact .inl (i2 ▸ e1)
  ·rcases h2 with e2 | ⟨i2,e2⟩
   ·exact .inl (i1 ▸ e2)
   ·exact .inr ⟨i1.trans i2,xF a b c e1 e2⟩
def uP (l:List aA):Prop:=l.Pairwise fun a b=>bytesLess a b=true
theorem rD : ∀ {a b:List aA},uP a→uP b→(∀ x,x∈a↔x∈b)→a=b
 | [],[],_,_,_=>rfl
 | [],y::b,_,_,h=>absurd ((h y).2 List.mem_cons_self) (by simp)
 | x::a,[],_,_,h=>absurd ((h x).1 List.mem_cons_self) (by simp)
 | x::a,y::b,h1,h2,h=>by
  obtain⟨g1,g2⟩:=List.pairwise_cons.1 h1
  obtain⟨g3,g4⟩:=List.pairwise_cons.1 h2
  have e:x=y:=by
   rcases List.mem_cons.1 ((h x).1 List.mem_cons_self)with e | m
   ·exact e
   ·rcases List.mem_cons.1 ((h y).2 List.mem_cons_self)with e | m'
    ·exact e.symm
    ·have:=xF _ _ _ (g3 x m) (g1 y m');rw [sj]at this;cases this
  subst e
  rw [rD g2 g4 fun z=> ?_]
  constructor
  ·intro m
   rcases List.mem_cons.1 ((h z).1 (List.mem_cons_of_mem _ m))with e | m'
   ·subst e;have:=g1 z m;rw [sj]at this;cases this
   ·exact m'
  ·intro m
   rcases List.mem_cons.1 ((h z).2 (List.mem_cons_of_mem _ m))with e | m'
   ·subst e;have:=g3 z m;rw [sj]at this;cases this
   ·exact m'
theorem pJ (out:List aA) : ∀ (l:List aA) (c:aA) (a:Bool),
 let q:=j8 out l c a
 (q.2=false↔a=false∧∀ x∈l,x∈out)∧(q.2=true→((a=true∧q.1=c)∨(q.1∈l∧q.1∉out))∧(a=true→bytesLess c q.1=false)∧∀ x∈l,x∉out→bytesLess x q.1=false)
 | [],c,a=>by
  simp only [j8]
  refine⟨by simp,fun h=>⟨.inl ⟨h,by trivial⟩,fun _=>sj c,fun x m=>(by cases m)⟩⟩
 | s::l,c,a=>by
  simp only [j8]
  by_cases h1:dK out s=true
  ·have m:=(gd _ _).1 h1
   simp only [h1,Bool.not_true,Bool.false_and,Bool.false_eq_true,if_false]
   obtain⟨k1,k2⟩:=pJ out l c a
   refine⟨k1.trans ⟨fun h=>⟨h.1,fun x hx=> ?_⟩,fun h=>⟨h.1,fun x hx=>h.2 x (List.mem_cons_of_mem _ hx)⟩⟩,fun h=> ?_⟩
   ·rcases List.mem_cons.1 hx with rfl | hx
    ·exact m
    ·exact h.2 x hx
   ·obtain⟨g1,g2,g3⟩:=k2 h
    refine⟨g1.imp_right fun h=>⟨List.mem_cons_of_mem _ h.1,h.2⟩,g2,fun x hx hn=> ?_⟩
    rcases List.mem_cons.1 hx with rfl | hx
    ·exact absurd m hn
    ·exact g3 x hx hn
  ·have m:s∉out:=fun m=>h1 ((gd _ _).2 m)
   have nT:dK out s=false:=by simpa using h1
   by_cases h2:(!a || bytesLess s c)=true
   ·simp only [nT,h2,Bool.not_false,Bool.and_self,if_true]
    obtain⟨k1,k2⟩:=pJ out l s true
    refine⟨⟨fun h=>absurd (k1.1 h).1 (by simp),fun h=>absurd (h.2 s List.mem_cons_self) m⟩,fun h=> ?_⟩
    obtain⟨g1,g2,g3⟩:=k2 h
    have g4:=g2 rfl
    refine⟨.inr ?_,fun ha=> ?_,fun x hx hn=> ?_⟩
    ·rcases g1 with ⟨_,e⟩ | g1
     ·rw [e];exact⟨List.mem_cons_self,m⟩
     ·exact⟨List.mem_cons_of_mem _ g1.1,g1.2⟩
    ·have h3:bytesLess s c=true:=by simpa [ha]using h2
     cases hh:bytesLess c (j8 out l s true).1
     ·rfl
     ·have:=xF _ _ _ h3 hh;rw [g4]at this;cases this
    ·rcases List.mem_cons.1 hx with rfl | hx
     ·exact g4
     ·exact g3 x hx hn
   ·have rU:(!a || bytesLess s c)=false:=by simpa using h2
    have ha:a=true:=by cases a <;> simp_all
    have h3:bytesLess s c=false:=by cases a <;> simp_all
    simp only [nT,rU,Bool.not_false,Bool.and_false,Bool.false_eq_true,if_false]
    obtain⟨k1,k2⟩:=pJ out l c a
    refine⟨⟨fun h=>absurd (k1.1 h).1 (by simp [ha]),fun h=>absurd h.1 (by simp [ha])⟩,fun h=> ?_⟩
    obtain⟨g1,g2,g3⟩:=k2 h
    refine⟨g1.imp_right fun h=>⟨List.mem_cons_of_mem _ h.1,h.2⟩,g2,fun x hx hn=> ?_⟩
    rcases List.mem_cons.1 hx with rfl | hx
    ·cases hh:bytesLess x (j8 out l c a).1
     ·rfl
     ·have g4:=g2 ha
      rcases sk x c with e | e | e
      ·rw [h3]at e;cases e
      ·subst e;rw [g4]at hh;cases hh
      ·have:=xF _ _ _ e hh;rw [g4]at this;cases this
    ·exact g3 x hx hn
theorem rE (l:List aA) : ∀ (n:Nat) (out:List aA),uP out→(∀ x∈out,x∈l)→(∀ x∈out,∀ y∈l,y∉out→bytesLess x y=true)→
 uP (lG l n out)∧(∀ x∈lG l n out,x∈l)∧(∀ x∈out,x∈lG l n out)∧((∀ x∈l,x∈lG l n out)∨(lG l n out).length=out.length+n)
 | 0,out,h1,h2,h3=>⟨h1,h2,fun x m=>m, .inr rfl⟩
 | n+1,out,h1,h2,h3=>by
  simp only [lG,H4]
  obtain⟨k1,k2⟩:=pJ out l [] false
  cases hq:(j8 out l [] false).2
  ·simp only [Bool.false_eq_true,if_false]
   obtain⟨g1,g2,g3,g4⟩:=rE l n out h1 h2 h3
   exact⟨g1,g2,g3, .inl fun x m=>g3 x ((k1.1 hq).2 x m)⟩
  ·simp only [if_true]
   obtain⟨g1,_,g3⟩:=k2 hq
   have g1:(j8 out l [] false).1∈l∧(j8 out l [] false).1∉out:=by
    rcases g1 with ⟨h,_⟩ | g1
    ·cases h
    ·exact g1
   generalize (j8 out l [] false).1=c at g1 g3
   obtain⟨r1,r2,r3,r4⟩:=rE l n (out++ [c])
    (by
     refine List.pairwise_append.2 ⟨h1,by simp,fun x hx y hy=> ?_⟩
     have:y=c:=by simpa using hy
     subst this
     exact h3 x hx y g1.1 g1.2)
    (fun x hx=>by
     rcases List.mem_append.1 hx with hx | hx
     ·exact h2 x hx
     ·have:x=c:=by simpa using hx
      subst this;exact g1.1)
    (fun x hx y hy hn=>by
     have Tw:y∉out:=fun m=>hn (List.mem_append_left _ m)
     have hyc:y≠c:=fun e=>hn (List.mem_append_right _ (by simp [e]))
     rcases List.mem_append.1 hx with hx | hx
     ·exact h3 x hx y hy Tw
     ·have:x=c:=by simpa using hx
      subst this
      rcases sk x y with h | h | h
      ·exact h
      ·exact absurd h.symm hyc
      ·rw [g3 y hy Tw]at h;cases h)
   refine⟨r1,r2,fun x m=>r3 x (List.mem_append_left _ m),r4.imp_right fun h=> ?_⟩
   rw [h];simp;omega
theorem qX : ∀ (a l:List aA),a.Nodup→(∀ x∈a,x∈l)→a.length≤l.length
 | [],l,_,_=>Nat.zero_le _
 | x::a,l,h,hm=>by
  obtain⟨h1,h2⟩:=List.nodup_cons.1 h
  have m:=hm x List.mem_cons_self
  have:=qX a (l.erase x) h2 fun y hy=>(List.mem_erase_of_ne (fun e=>h1 (by rw [← e];exact hy))).2 (hm y (List.mem_cons_of_mem _ hy))
  rw [List.length_erase_of_mem m]at this
  have:0<l.length:=List.length_pos_of_mem m
  simp only [List.length_cons];omega
theorem nJ {l:List aA} (h:uP l):l.Nodup:=h.imp fun {a b} h e=>by subst e;rw [sj]at h;cases h
theorem fE (l:List aA):uP (gK l)∧∀ x,x∈gK l↔x∈l:=by
 obtain⟨h1,h2,h3,h4⟩:=rE l l.length [] List.Pairwise.nil (fun x m=>(by cases m)) (fun x m=>(by cases m))
 refine⟨h1,fun x=>⟨h2 x,fun m=> ?_⟩⟩
 rcases h4 with h4 | h4
 ·exact h4 x m
 ·refine Classical.byContradiction fun hn=> ?_
  have:=qX (x::lG l l.length []) l (List.nodup_cons.2 ⟨hn,nJ h1⟩) fun y hy=>by
   rcases List.mem_cons.1 hy with rfl | hy
   ·exact m
   ·exact h2 y hy
  simp only [List.length_cons,h4,List.length_nil]at this
  omega
theorem CN (zs:List aA) (hs:zs.Pairwise fun a b=>bytesLess b a=false) : ∀ m,m≤zs.length→
 uP (Lib.compactUpTo zs.toArray m)∧(∀ x,x∈Lib.compactUpTo zs.toArray m↔x∈zs.take m):=by
 intro m
 induction m with
 | zero=>intro _;exact⟨by simp [Lib.compactUpTo,uP],fun x=>by simp [Lib.compactUpTo]⟩
 | succ m ih=>
  intro hm
  obtain⟨h1,h2⟩:=ih (by omega)
  have hz:zs[m]? = some zs[m]:=List.getElem?_eq_getElem (by omega)
  have e1:zs.toArray[m]! = zs[m]:=by simp [hm,Nat.lt_of_succ_le hm]
  have et:zs.take (m+1)=zs.take m++ [zs[m]]:=by rw [List.take_add_one,hz];rfl
  rw [Lib.compactUpTo_succ,e1,et]
  by_cases hk:Lib.keeps zs.toArray m=true
  ·rw [if_pos hk]
   refine⟨List.pairwise_append.2 ⟨h1,by simp,fun x hx y hy=> ?_⟩,fun x=>by rw [List.mem_append,List.mem_append,h2]⟩
   have hy:y=zs[m]:=by simpa using hy
   subst hy
   have hx:=(h2 x).1 hx
   simp only [Lib.keeps,decide_eq_true_eq]at hk
   rcases hk with rfl | hk
   ·simp at hx
   ·have BT:m - 1<zs.length:=by omega
    have e2:zs.toArray[m - 1]! = zs[m - 1]:=by simp [BT]
    rw [e1,e2]at hk
    have h0:0<m:=by
     cases m with
     | zero=>simp at hx
     | succ m=>omega
    have hle : ∀ i j (hi:i<zs.length) (hj:j<zs.length),i<j→bytesLess zs[j] zs[i] = false:=fun i j hi hj Lj=>List.pairwise_iff_getElem.1 hs i j hi hj Lj
    have g1:bytesLess zs[m] zs[m - 1] = false:=hle (m - 1) m BT (by omega) (by omega)
    have g2:bytesLess zs[m - 1] zs[m] = true:=by
     rcases sk zs[m - 1] zs[m]with h | h | h
     ·exact h
     ·exact absurd h.symm hk
     ·rw [g1]at h;cases h
    obtain⟨i,hi,rfl⟩:=List.mem_iff_getElem.1 hx
    rw [List.length_take]at hi
    rw [List.getElem_take]
    by_cases vz:i=m - 1
    ·subst vz;exact g2
    ·have g3:=hle i (m - 1) (by omega) BT (by omega)
     rcases sk zs[i] zs[m - 1]with h | h | h
     ·exact xF _ _ _ h g2
     ·rw [h];exact g2
     ·rw [g3]at h;cases h
  ·rw [if_neg hk]
   simp only [List.append_nil]
   refine⟨h1,fun x=> ?_⟩
   rw [h2]
   simp only [Lib.keeps,decide_eq_true_eq,not_or,ne_eq,Decidable.not_not]at hk
   obtain⟨k1,k2⟩:=hk
   have BT:m - 1<zs.length:=by omega
   have e2:zs.toArray[m - 1]! = zs[m - 1]:=by simp [BT]
   rw [e1,e2]at k2
   simp only [List.mem_append,List.mem_singleton]
   constructor
   ·exact .inl
   ·rintro(h | rfl)
    ·exact h
    ·rw [k2]
     exact List.mem_iff_getElem.2 ⟨m - 1,by rw [List.length_take];omega,by rw [List.getElem_take]⟩
theorem zB (l:List aA):(jo l).Pairwise fun a b=>bytesLess b a=false:=by
 have h:=List.pairwise_mergeSort (le:=fun x y:aA=>decide (x≤y)) (fun a b c h1 h2=> ?_) (fun a b=> ?_) l
 ·refine h.imp fun {a b} h=> ?_
  rw [decide_eq_true_eq]at h
  show Go.Op.bytesLess b a=false
  rw [Go.Proofs.bytesLess_eq]
  simpa using h
 ·rw [decide_eq_true_eq]at h1 h2 ⊢
  exact List.le_trans h1 h2
 ·have:=List.le_total a b
  simpa using this
theorem uQ (l:List aA):Lib.compact (jo l)=gK l:=by
 obtain⟨h1,h2⟩:=CN (jo l) (zB l) (jo l).length (Nat.le_refl _)
 obtain⟨h3,h4⟩:=fE l
 refine rD h1 h3 fun x=> ?_
 rw [h4]
 refine(h2 x).trans ?_
 rw [List.take_length]
 exact(List.mergeSort_perm _ _).mem_iff
end Go.Abs

/-! Tc1 -/

namespace Go.Abs
set_option maxRecDepth 8000
open Go.Proofs
def ja:List Sm→List aA
 | []=> []
 | v::l=>if v.kind==4 then v.proc::ja l else ja l
theorem vJ : ∀ l:List Sm,(ja l).length≤l.length
 | []=>Nat.le_refl _
 | v::l=>by
  simp only [ja]
  have:=vJ l
  split <;> simp <;> omega
def Pc.calls (f:Pc):List aA:=gK (ja (Sm.dW f.body))
theorem uR {name:aA} : ∀ {l:List Pc} {k:Nat} {f:Pc},jn name l=some f→∃ j,l[j]? = some f∧jB (fun f:Pc=>f.name==name) (k:Int) l=((k+j:Nat):Int)
 | g::l,k,f,h=>by
  simp only [jn]at h
  cases e:(g.name==name)
  ·rw [e]at h
   simp only [Bool.false_eq_true,if_false]at h
   obtain⟨j,h1,h2⟩:=uR (k:=k+1) h
   refine⟨j+1,by simpa using h1, ?_⟩
   simp only [jB,e,Bool.false_eq_true,if_false]
   rw [show((k:Int)+1)=((k+1:Nat):Int)from rfl,h2]
   congr 1;omega
  ·rw [e]at h
   simp only [if_true,Option.some.injEq]at h
   exact⟨0,by simpa using h,by simp [jB,e]⟩
theorem Dp {p:Pg} (h:p.l9) {name:aA} {f:Pc} (hf:p.find name=some f) (s:St):aG Tryz.prog mh [.dd (iS p) 0, .str name] s (.slice .shared 1 (f.calls.map encStr)) s:=by
 refine aG.pure ?_ (by simp [D.bG,D.ok,yo]) (by simp only [D.ok,Tag.ok,dJ];rfl) s
 obtain⟨rQ,qR,vG⟩:=h.procs
 obtain⟨j,hj,s6⟩:=uR (k:=0) hf
 have s6:p.at name=((j:Nat):Int):=by unfold Pg.at;simpa using s6
 have zr:=fun s=>Hy (p:=p) (by omega) name s
 rw [s6]at zr
 obtain⟨it,sg,H2⟩:=Ka hj (by omega)
 have Qm:it.length≤900000:=by
  have e:=congrArg List.length sg
  obtain⟨a,b,e',_,_,e3,e4⟩:=(qO p).2 j f hj
  have e5:=qP p
  have e6:=congrArg List.length e3
  rw [e4]at e5
  simp only [List.length_map,List.length_append]at e e5 e6
  omega
 unfold S0
 obtain⟨fn,tt,B1⟩:=xc
 refine aG.intro ⟨fn,tt,B1⟩ (Nat.le_of_ble_eq_true rfl) fun B hB=> ?_
 generalize hQ:n7 (⟨[],[]⟩:St).au.length (⟨[],[]⟩:St).av.length _ _ (⟨[],[]⟩:St)=Q
 have⟨hD,hF,hJ,hP⟩:=bP
 refine Sem.o5 ?_
 repeat' (first
 | simp only [go_sem,hD,hF,hJ,hP]
 | (with_reducible refine aJ hQ ?_;simp only [aw,ay,Option.some.injEq,exists_eq_left',go_sem,hD,hF,hJ,hP];repeat' (first | exact Ok.out | with_reducible refine aI ?_ ?_ | (simp;done))))
 refine Sem.o5 ?_
 repeat' (first
 | simp only [go_sem,hD,hF,hJ,hP]
 | (with_reducible refine aJ hQ ?_;simp only [aw,ay,Option.some.injEq,exists_eq_left',go_sem,hD,hF,hJ,hP];repeat' (first | exact Ok.out | with_reducible refine aI ?_ ?_ | (simp;done))))
 refine Sem.o5 ?_
 repeat' (first
 | simp only [go_sem,hD,hF,hJ,hP]
 | (with_reducible refine CU (zr _) ?_)
 | (with_reducible refine CU (H2 _) ?_)
 | (with_reducible refine aJ hQ ?_;simp only [aw,ay,Option.some.injEq,exists_eq_left',go_sem,hD,hF,hJ,hP];repeat' (first | exact Ok.out | with_reducible refine aI ?_ ?_ | (simp;done))))
 refine bk.ng 5 1 rfl ?_
 simp only [go_sem,hD,hF,hJ,hP]
 obtain⟨R,hR⟩ : ∃ R,R=ja (Sm.dW f.body):=⟨_,rfl⟩
 have Tx:R.length≤900000:=by rw [hR, ← sg];have:=vJ (it.map Im.s);rw [List.length_map]at this;omega
 refine dc 0 1 (bk.ind (ι:=List Im×Nat×List aA×Nat) (fun i=>it.drop i.2.1=i.1∧i.2.2.1++ja (i.1.map Im.s)=R∧i.2.2.2=i.2.2.1.length) (fun i=>i.1.length)
  (fun i=> [(5, .slice (.tok 0) 1 (i.2.2.1.map encStr)),(12, .slice .shared 17 (it.map eH)),(13, .int .i64 (it.length:Int)),(14, .int .i64 (i.2.1:Int))]) (fun i=>⟨[],[some i.2.2.2]⟩) ?_ (it,0,[],0) ⟨rfl,by rw [hR,sg];rfl,rfl⟩)
 rintro⟨rest,k,out,n⟩ ⟨h1,h2,h3⟩ IH
 dsimp only at h1 h2 h3
 subst h3
 have lY:out.length≤900000:=by have:=congrArg List.length h2;rw [List.length_append]at this;omega
 cases rest with
 | cons a rest=>
  obtain⟨hF,g2,hD,g4⟩:=drop_cons h1
  have bq:k<4611686018427387904:=by omega
  have hJ:(out.length+1)*17≤bb:=by unfold bb;omega
  simp only [List.map_cons,ja]at h2
  rcases Bool.eq_false_or_eq_true (a.s.kind==4)with c1 | c1
  ·simp only [c1,if_true]at h2
   repeat' (first
 | simp only [go_sem,hD,hF,hJ,hP,c1]
 | (with_reducible refine aJ hQ ?_;simp only [aw,ay,Option.some.injEq,exists_eq_left',go_sem,hD,hF,hJ,hP];repeat' (first | exact Ok.out | with_reducible refine aI ?_ ?_ | (simp;done))))
   refine da 0 1 ?_ ?_ (IH (rest,k+1,out++ [a.s.proc],out.length+1) ⟨g2,by rw [← h2];simp,by simp⟩ (Nat.lt_succ_self _))
   ·(simp only [go_sem,hD,hF,hJ,hP,aD bq,List.map_append,List.map_cons,List.map_nil,encStr];try exact bo)
   ·(simp only [go_sem,hD,hF,hJ,hP,aD bq,List.map_append,List.map_cons,List.map_nil,encStr];try exact bo)
  ·simp only [c1,Bool.false_eq_true,if_false]at h2
   repeat' (first
 | simp only [go_sem,hD,hF,hJ,hP,c1]
 | (with_reducible refine aJ hQ ?_;simp only [aw,ay,Option.some.injEq,exists_eq_left',go_sem,hD,hF,hJ,hP];repeat' (first | exact Ok.out | with_reducible refine aI ?_ ?_ | (simp;done))))
   refine da 0 1 ?_ ?_ (IH (rest,k+1,out,_) ⟨g2,h2,rfl⟩ (Nat.lt_succ_self _))
   ·(simp only [go_sem,hD,hF,hJ,hP,aD bq];try exact bo)
   ·(simp only [go_sem,hD,hF,hJ,hP,aD bq];try exact bo)
 | nil=>
  have hD:=drop_nil h1
  simp only [List.map_nil,ja,List.append_nil]at h2
  subst h2
  have xD:(jo out).length=out.length:=List.length_mergeSort out
  repeat' (first
 | simp only [go_sem,hD,hF,hJ,hP]
 | (with_reducible refine aJ hQ ?_;simp only [aw,ay,Option.some.injEq,exists_eq_left',go_sem,hD,hF,hJ,hP];repeat' (first | exact Ok.out | with_reducible refine aI ?_ ?_ | (simp;done))))
  refine Sem.seq (Sem.sort (k:=5) (t:=0) (l:=out) hB (by decide) (by decide) (by decide) rfl rfl (by omega) ?_)
  show Sem _ _ _ _ _ _ _
  refine Sem.seq (Sem.compact (k:=5) (t:=0) (l:=jo out) hB (by decide) rfl (by rw [xD];rfl) (by rw [xD];omega) ?_)
  rw [uQ]
  have Wg:f.calls=gK out:=by unfold Pc.calls;rw [hR]
  rw [Wg]at hQ
  refine gO (ac:= .ret) (Q:=Q) (tm:= [(32, .slice (.tok 0) 1 ((gK out).map encStr)),(4, .slice (.tok 0) 1 ((gK out).map encStr))]) (s:=⟨[],[some (gK out).length]⟩) ?_
  repeat' (first
 | simp only [go_sem,hD,hF,hJ,hP]
 | (with_reducible refine aJ hQ ?_;simp only [aw,ay,Option.some.injEq,exists_eq_left',go_sem,hD,hF,hJ,hP];repeat' (first | exact Ok.out | with_reducible refine aI ?_ ?_ | (simp;done))))
end Go.Abs

/-! Tc2 -/

namespace Go.Abs
set_option maxRecDepth 8000
open Go.Proofs
theorem zC {name:aA} : ∀ {l:List Pc},name∈l.map (·.name)→∃ f,jn name l=some f
 | f::l,h=>by
  simp only [jn]
  cases e:(f.name==name)
  ·simp only [Bool.false_eq_true,if_false]
   refine zC ?_
   rcases List.mem_cons.1 h with h | h
   ·rw [h]at e;simp at e
   ·exact h
  ·exact⟨f,rfl⟩
theorem zD {p:Pg} {f:Pc} {procs:List aA} : ∀ {l:List Sm},uN p f procs l=none→∀ v∈l,v.known p f procs=true
 | v::l,h,w,m=>by
  simp only [uN]at h
  split at h
  ·rename_i e
   rcases List.mem_cons.1 m with rfl | m
   ·exact e
   ·exact zD h w m
  ·cases h
theorem zE {p:Pg} {procs:List aA} : ∀ {l:List Pc},((qg p procs l).1==0)=true→∀ f∈l,e8 (p.globals++f.own)=false∧∀ v∈Sm.dW f.body,v.known p f procs=true
 | g::l,h,f,m=>by
  simp only [qg]at h
  split at h
  ·cases h
  ·rename_i e
   split at h
   ·cases h
   ·rename_i e2
    rcases List.mem_cons.1 m with rfl | m
    ·exact⟨by simpa using e,zD e2⟩
    ·exact zE h f m
theorem KN {p:Pg} (h:(p.scope.1==0)=true):e8 p.globals=false∧e8 p.pn=false∧p.sh=false∧∀ f∈p.procs,e8 (p.globals++f.own)=false∧∀ v∈Sm.dW f.body,v.known p f p.pn=true:=by
 unfold Pg.scope at h
 split at h
 ·split at h
  ·cases h
  ·rename_i e
   simp only [Bool.or_eq_true,not_or,Bool.not_eq_true]at e
   exact⟨e.1,e.2.1,e.2.2,zE h⟩
 ·cases h
theorem rF {x:aA} : ∀ {l:List Sm},x∈ja l↔∃ v∈l,v.kind=4∧v.proc=x
 | []=>by simp [ja]
 | v::l=>by
  simp only [ja]
  cases e:(v.kind==4)
  ·have:v.kind≠4:=by simpa using e
   simp [this,rF (l:=l)]
  ·have:v.kind=4:=by simpa using e
   simp only [if_true,List.mem_cons,rF (l:=l),exists_eq_or_imp,this,true_and]
   constructor
   ·rintro(h | h)
    ·exact .inl h.symm
    ·exact .inr h
   ·rintro(h | h)
    ·exact .inl h.symm
    ·exact .inr h
theorem H7 {f:Pc} {x:aA} : x∈f.calls↔∃ v∈Sm.dW f.body,v.kind=4∧v.proc=x:=by
 unfold Pc.calls;rw [(fE _).2,rF]
theorem rG {p:Pg} (h:(p.scope.1==0)=true) {f:Pc} (hf:f∈p.procs) {x:aA} (m:x∈f.calls) : ∃ g,p.find x=some g:=by
 obtain⟨v,hv,h4,rfl⟩:=H7.1 m
 have hk:=((KN h).2.2.2 f hf).2 v hv
 simp only [Sm.known,h4,Bool.and_eq_true,Bool.or_eq_true]at hk
 rcases hk.2 with h | ⟨_,h⟩
 ·simp at h
 ·exact zC ((gd _ _).1 h)
def oT (p:Pg) (x:aA):List aA:=match p.find x with | some f=>f.calls | none=> []
def rH (out:List aA):List aA→List aA
 | []=>out
 | x::l=>rH (kr out x) l
def nK (p:Pg):Nat→Nat→List aA→List aA
 | 0,_,out=>out
 | n+1,i,out=>match out[i]? with
  | some x=>nK p n (i+1) (rH out (oT p x))
  | none=>out
def Pg.work (p:Pg) (name:aA):List aA:=nK p (p.procs.length+1) 0 [name]
def Good (p:Pg) (out:List aA):Prop:=out.Nodup∧∀ x∈out,∃ f,p.find x=some f
theorem Good.len {p:Pg} {out:List aA} (h:Good p out):out.length≤p.procs.length:=by
 have:=qX out p.pn h.1 fun x m=>by
  obtain⟨f,hf⟩:=h.2 x m
  obtain⟨h1,h2⟩:=iO hf
  rw [← h2];exact List.mem_map_of_mem h1
 simpa [Pg.pn]using this
theorem Good.Ty {p:Pg} {out:List aA} (h:Good p out) {x:aA} (hx : ∃ f,p.find x=some f):Good p (kr out x):=by
 unfold kr
 split
 ·exact h
 ·rename_i e
  have:x∉out:=fun m=>e ((gd _ _).2 m)
  refine⟨List.nodup_append.2 ⟨h.1,by simp,fun a ha b hb e'=> ?_⟩,fun y hy=> ?_⟩
  ·have hbx:b=x:=by simpa using hb
   rw [e',hbx]at ha;exact this ha
  ·rcases List.mem_append.1 hy with hy | hy
   ·exact h.2 y hy
   ·have:y=x:=by simpa using hy
    subst this;exact hx
theorem Good.add {p:Pg} : ∀ {l out:List aA},Good p out→(∀ x∈l,∃ f,p.find x=some f)→Good p (rH out l)
 | [],out,h,_=>h
 | x::l,out,h,hx=>Good.add (l:=l) (out:=kr out x) (Good.Ty h (hx x List.mem_cons_self)) fun y m=>hx y (List.mem_cons_of_mem _ m)
end Go.Abs

/-! Tc3 -/

namespace Go.Abs
set_option maxRecDepth 8000
open Go.Proofs
def tgB:Bool→Tag
 | true=> .tok 0
 | false=> .full
def tkB:Bool→Nat→List (Option Nat)
 | true,n=> [some n]
 | false,_=> []
end Go.Abs

/-! Bsl -/

namespace Go.Abs
def sN:AI→AI
 | .op d g (.cE z k n ps)=> .op d g (.pM z k n ps)
 | a=>a
section
variable {P:Program}
theorem CO {nt:Nat} {ops:Array Oper} {i:Nat} {o:Oper} {ai:AI} (hi:ops[i]? = some o) (hc:cI P nt ops o=some ai)
 {M:Map} {s:St} {w:World} {tm:Tm} {act:Act} (r:Rel M s w) (iQ:Laid M s w) (ht:je M s tm act.tmps) {K':Tm→St→Prop} (h:fO P [sN ai] K' tm s)
 {K:Act→World→Prop} {Q:Exit→Act→World→Prop}
 (hK : ∀ d v s1 w1 M1,K' (tm.put ai.dst d) s1→Ext M s w M1 s1 w1→Rel M1 s1 w1→RD M1 s1 d v→K (act.put o.dst v) w1):wpOp P ops Q i K act w:=by
 by_cases hb : ∃ d g z k n ps,ai = .op d g (.cE z k n ps)
 ·obtain⟨d0,g0,z,k,n,ps,rfl⟩:=hb
  obtain⟨g,hg,_,hb⟩:=um hc
  rw [oI hb]at hK
  simp only [wpOp,hi]
  have skip:K' (tm.put o.dst (.tuple [])) s→K (act.put o.dst Go.undef) w:=fun hk=>hK _ _ _ _ _ hk (Ext.refl M s w) r .undef
  have hd:=oI hb
  simp only [AI.dst]at hd
  subst hd
  have kz:wG P o=some (.cE z k n ps)∧g0=g:=by
   unfold om at hb
   split at hb
   ·split at hb
    ·obtain⟨xs,_,h⟩:=map_some hb;cases h
    ·cases hb
   ·obtain⟨xs,_,h⟩:=map_some hb;cases h
   ·split at hb
    ·cases hb
    ·split at hb
     ·rename_i kz
      simp only [Option.some.injEq,AI.op.injEq,true_and]at hb
      obtain⟨h1,h2⟩:=hb
      split at h2
      ·cases h2
      ·cases h2;exact⟨kz,h1.symm⟩
     ·rename_i ao dX kz
      simp only [Option.some.injEq,AI.op.injEq,true_and]at hb
      obtain⟨h1,h2⟩:=hb
      subst h2
      exact⟨kz,h1.symm⟩
     ·cases hb
  obtain⟨kz,rfl⟩:=kz
  simp only [sN,fO]at h
  rcases gH hg ht h with ⟨hw,hA⟩ | ⟨hw,hB⟩
  ·simp only [hw,if_true]
   left
   split at hA
   ·rename_i d s' mN
    obtain⟨v,w',M',de,r',hv,e'⟩:=sB kz r ht mN
    unfold Oper.wp
    rcases de with de | ⟨de,rfl⟩
    ·rw [de,Oper.upon_value]
     exact hK _ _ _ _ _ hA e' r' hv
    ·rw [de,Oper.upon_skip]
     exact hK _ _ _ _ _ hA e' r' hv
   ·exact hA.elim
  ·simp only [hw]
   exact skip hB
 ·have hs:sN ai=ai:=by
   unfold sN
   split
   ·rename_i d g z k n ps;exact absurd ⟨d,g,z,k,n,ps,rfl⟩ hb
   ·rfl
  rw [hs]at h
  exact rh hi hc r iQ ht h hK
theorem Ny {a:AI} {r:List AI} {K:Tm→St→Prop} {tm:Tm} {s:St} (h:fO P (a::r) K tm s):fO P [a] (fO P r K) tm s:=by
 cases a <;> exact h
theorem zF {B:fp} {nt:Nat} {ops:Array Oper} {Q:Exit→Tm→St→Prop} : ∀ (l:List Nat) (ol:List Oper) (is:List AI),l.map (ops[·]?)=ol.map some→mV P nt ops ol=some is→
 ∀ (tm:Tm) (s:St) (act:Act) (w:World),fO P (is.map sN) (Q .normal) tm s→Holds B nt tm s act w→wpOps P ops (lN B nt Q) l act w
 | [],[],is,_,hc,tm,s,act,w,h,hh=>by cases hc;exact⟨tm,s,h,hh⟩
 | [],_::_,_,hl,_,_,_,_,_,_,_=>by simp at hl
 | _::_,[],_,hl,_,_,_,_,_,_,_=>by simp at hl
 | i::l,o::ol,is,hl,hc,tm,s,act,w,h,hh=>by
  simp only [List.map_cons,List.cons.injEq]at hl
  obtain⟨hi,hl⟩:=hl
  unfold mV at hc
  split at hc
  ·rename_i ai Gf h1 h2
   cases hc
   obtain⟨M,e,r,ht,hn,hd⟩:=hh
   have mz:=rS h1
   have hdd:=oJ h1
   rw [List.map_cons]at h
   have key:=CO (K:=fun act w=>wpOps P ops (lN B nt Q) l act w) (Q:=lN B nt Q) hi h1 r (B.laid.ext e) ht (Ny h) (fun d v s1 w1 M1 hk e1 r1 hv=>
    zF (Q:=Q) l ol Gf hl h2 _ _ _ _ hk (hdd ▸ Holds.put e ht hn hd mz e1 r1 hv))
   simpa only [wpOps,wpOp,hi]using key
  ·cases hc
theorem Sem.swap {B:fp} {nt:Nat} {is:List AI} {Q:Exit→Tm→St→Prop} {tm:Tm} {s:St} (h:iK P B nt (.run (is.map sN)) Q tm s):Sem P B nt (.run is) Q tm s:=by
 intro c hc act w hh
 obtain⟨id,ops,rfl,hi⟩:=jg hc
 refine wp_region ?_
 exact zF _ _ is (ug ops) hi tm s act w (kH h) hh
end
end Go.Abs

/-! Tc4 -/

namespace Go.Abs
set_option maxRecDepth 8000
open Go.Proofs
theorem FG {l:List aA} (h:l.Nodup):jo l=gK l:=by
 refine rD ?_ (fE l).1 fun x=> ?_
 ·have h1:=zB l
  have h2:(jo l).Nodup:=(List.mergeSort_perm l _).nodup_iff.2 h
  refine(List.pairwise_and_iff.2 ⟨h1,h2⟩).imp fun {a b} L9=> ?_
  rcases sk a b with e | e | e
  ·exact e
  ·exact absurd e L9.2
  ·rw [L9.1]at e;cases e
 ·rw [(fE l).2];exact(List.mergeSort_perm l _).mem_iff
theorem uS {p:Pg} (jG:(p.scope.1==0)=true) : ∀ (n i:Nat) (out:List aA),Good p out→Good p (nK p n i out)
 | 0,i,out,h=>h
 | n+1,i,out,h=>by
  simp only [nK]
  split
  ·rename_i x hx
   obtain⟨g,hg⟩:=h.2 x (List.mem_of_getElem? hx)
   refine uS jG n _ _ (h.add fun y m=> ?_)
   unfold oT at m
   rw [hg]at m
   exact rG jG (iO hg).1 m
  ·exact h
theorem wv {p:Pg} {name:aA} {f:Pc} (hf:p.find name=some f):Good p [name]:=
 ⟨by simp,fun x m=>by
  have:x=name:=by simpa using m
  subst this;exact⟨f,hf⟩⟩
theorem Mg {p:Pg} (h:p.l9) (jG:(p.scope.1==0)=true) {name:aA} {f:Pc} (hf:p.find name=some f) (s:St):aG Tryz.prog oB [.dd (iS p) 0, .str name] s (.slice .shared 1 ((gK (p.work name)).map encStr)) s:=by
 refine aG.pure ?_ (by simp [D.bG,D.ok,yo]) (by simp only [D.ok,Tag.ok,dJ];rfl) s
 obtain⟨rQ,qR,vG⟩:=h.procs
 obtain⟨R,hR⟩ : ∃ R,p.work name=R:=⟨_,rfl⟩
 have Tz:Good p R:=hR ▸ uS jG _ _ _ (wv hf)
 rw [hR, ← FG Tz.1]
 unfold Pg.work at hR
 have hg0:Good p [name]:=wv hf
 have Tx:=Tz.len
 unfold S0
 obtain⟨fn,tt,B1⟩:=z1
 refine aG.intro ⟨fn,tt,B1⟩ (Nat.le_of_ble_eq_true rfl) fun B hB=> ?_
 generalize hQ:n7 (⟨[],[]⟩:St).au.length (⟨[],[]⟩:St).av.length _ _ (⟨[],[]⟩:St)=Q
 have⟨hD,hF,hJ,hP⟩:=bP
 refine Sem.o5 ?_
 repeat' (first
 | simp only [go_sem,hD,hF,hJ,hP]
 | (with_reducible refine aJ hQ ?_;simp only [aw,ay,Option.some.injEq,exists_eq_left',go_sem,hD,hF,hJ,hP];repeat' (first | exact Ok.out | with_reducible refine aI ?_ ?_ | (simp;done))))
 refine Sem.seq (Sem.swap ?_)
 simp only [List.map_cons,List.map_nil,sN]
 repeat' (first
 | simp only [go_sem,hD,hF,hJ,hP]
 | (with_reducible refine aJ hQ ?_;simp only [aw,ay,Option.some.injEq,exists_eq_left',go_sem,hD,hF,hJ,hP];repeat' (first | exact Ok.out | with_reducible refine aI ?_ ?_ | (simp;done))))
 refine Sem.o5 ?_
 repeat' (first
 | simp only [go_sem,hD,hF,hJ,hP]
 | (with_reducible refine aJ hQ ?_;simp only [aw,ay,Option.some.injEq,exists_eq_left',go_sem,hD,hF,hJ,hP];repeat' (first | exact Ok.out | with_reducible refine aI ?_ ?_ | (simp;done))))
 refine dc 0 1 (bk.ind (ι:=Nat×Nat×List aA×Nat) (fun i=>nK p i.1 i.2.1 i.2.2.1=R∧Good p i.2.2.1∧i.1+i.2.1=p.procs.length+1∧i.2.2.2=i.2.2.1.length) (fun i=>i.1)
  (fun i=> [(0, .dd (iS p) 0),(5, .slice (.tok 0) 1 (i.2.2.1.map encStr)),(6, .int .i64 (i.2.1:Int))]) (fun i=>⟨[],[some i.2.2.2]⟩) ?_ (p.procs.length+1,0,[name],1) ⟨hR,hg0,rfl,rfl⟩)
 rintro⟨n,i,out,no⟩ ⟨h1,h2,h3,h4⟩ IH
 dsimp only at h1 h2 h3 h4
 subst h4
 have lY:=h2.len
 cases hx:out[i]? with
 | none=>
  have hD:decide ((i:Int)<(out.length:Int))=false:=by have:=List.getElem?_eq_none_iff.1 hx;simp;omega
  have:R=out:=by
   cases n with
   | zero=>simpa [nK]using h1.symm
   | succ n=>simp only [nK,hx]at h1;exact h1.symm
  subst this
  repeat' (first
 | simp only [go_sem,hD,hF,hJ,hP]
 | (with_reducible refine aJ hQ ?_;simp only [aw,ay,Option.some.injEq,exists_eq_left',go_sem,hD,hF,hJ,hP];repeat' (first | exact Ok.out | with_reducible refine aI ?_ ?_ | (simp;done))))
  refine Sem.seq (Sem.sort (k:=5) (t:=0) (l:=R) hB (by decide) (by decide) (by decide) rfl rfl (by omega) ?_)
  refine gO (ac:=Tk) (Q:=Q) (tm:= [(5, .slice (.tok 0) 1 ((jo R).map encStr))]) (s:=⟨[],[some R.length]⟩) ?_
  repeat' (first
 | simp only [go_sem,hD,hF,hJ,hP]
 | (with_reducible refine aJ hQ ?_;simp only [aw,ay,Option.some.injEq,exists_eq_left',go_sem,hD,hF,hJ,hP];repeat' (first | exact Ok.out | with_reducible refine aI ?_ ?_ | (simp;done))))
 | some x=>
  have mZ:=(List.getElem?_eq_some_iff.1 hx).1
  have hD:decide ((i:Int)<(out.length:Int))=true:=by simp;omega
  have vz:i<4611686018427387904:=by omega
  cases n with
  | zero=>omega
  | succ n=>
  simp only [nK,hx]at h1
  obtain⟨g,B6⟩:=h2.2 x (List.mem_of_getElem? hx)
  have Qv:=(iO B6).1
  have zG:=fun s=>Dp h B6 s
  have hcn:oT p x=g.calls:=by unfold oT;rw [B6]
  rw [hcn]at h1
  have TA : ∀ y∈g.calls,∃ f,p.find y=some f:=fun y m=>rG jG Qv m
  have adS:g.calls.length≤p.procs.length:=Good.len ⟨nJ (fE _).1,TA⟩
  obtain⟨W,hW⟩ : ∃ W,rH out g.calls=W:=⟨_,rfl⟩
  rw [hW]at h1
  repeat' (first
 | simp only [go_sem,hD,hF,hJ,hP,hx]
 | (with_reducible refine CU (zG _) ?_)
 | (with_reducible refine aJ hQ ?_;simp only [aw,ay,Option.some.injEq,exists_eq_left',go_sem,hD,hF,hJ,hP];repeat' (first | exact Ok.out | with_reducible refine aI ?_ ?_ | (simp;done))))
  refine dc 0 1 (bk.ind (ι:=List aA×Nat×List aA×Nat) (fun j=>g.calls.drop j.2.1=j.1∧rH j.2.2.1 j.1=W∧Good p j.2.2.1∧j.2.2.2=j.2.2.1.length) (fun j=>j.1.length)
   (fun j=> [(0, .dd (iS p) 0),(5, .slice (.tok 0) 1 (j.2.2.1.map encStr)),(6, .int .i64 (i:Int)),(22, .slice .shared 1 (g.calls.map encStr)),(23, .int .i64 (g.calls.length:Int)),(24, .int .i64 (j.2.1:Int))]) (fun j=>⟨[],[some j.2.2.2]⟩) ?_ (g.calls,0,out,out.length) ⟨rfl,hW,h2,rfl⟩)
  clear hW
  rintro⟨rest,k,bt,n'⟩ ⟨j1,j2,j3,j4⟩ Md
  dsimp only at j1 j2 j3 j4
  subst j4
  have adT:=j3.len
  cases rest with
  | nil=>
   have Wh:=drop_nil j1
   simp only [rH]at j2
   subst j2
   repeat' (first
 | simp only [go_sem,hD,hF,hJ,hP,Wh]
 | (with_reducible refine aJ hQ ?_;simp only [aw,ay,Option.some.injEq,exists_eq_left',go_sem,hD,hF,hJ,hP];repeat' (first | exact Ok.out | with_reducible refine aI ?_ ?_ | (simp;done))))
   refine da 0 1 ?_ ?_ (IH (n,i+1,bt,bt.length) ⟨h1,j3,by dsimp only;omega,rfl⟩ (Nat.lt_succ_self _))
   ·(simp only [go_sem,hD,hF,hJ,hP,aD vz];try exact bo)
   ·(simp only [go_sem,hD,hF,hJ,hP,aD vz];try exact bo)
  | cons y rest=>
   obtain⟨oi,Dk,xC,Tq⟩:=drop_cons j1
   have si:k<4611686018427387904:=by omega
   have hJ:(bt.length+1)*17≤bb:=by unfold bb;omega
   have zH:=fun g s=>ik (l:=bt) (by omega) y g s
   have hy:=TA y (List.mem_of_getElem? oi)
   have pV:=j3.Ty hy
   simp only [rH]at j2
   rcases Bool.eq_false_or_eq_true (dK bt y)with c1 | c1
   ·simp only [kr,c1,if_true]at j2
    repeat' (first
 | simp only [go_sem,hD,hF,hJ,hP,xC,oi,c1]
 | (with_reducible refine CU (zH _ _) ?_)
 | (with_reducible refine aJ hQ ?_;simp only [aw,ay,Option.some.injEq,exists_eq_left',go_sem,hD,hF,hJ,hP];repeat' (first | exact Ok.out | with_reducible refine aI ?_ ?_ | (simp;done))))
    refine da 0 1 ?_ ?_ (Md (rest,k+1,bt,bt.length) ⟨Dk,j2,j3,rfl⟩ (Nat.lt_succ_self _))
    ·(simp only [go_sem,hD,hF,hJ,hP,aD si];try exact bo)
    ·(simp only [go_sem,hD,hF,hJ,hP,aD si];try exact bo)
   ·simp only [kr,c1,Bool.false_eq_true,if_false]at j2 pV
    repeat' (first
 | simp only [go_sem,hD,hF,hJ,hP,xC,oi,c1]
 | (with_reducible refine CU (zH _ _) ?_)
 | (with_reducible refine aJ hQ ?_;simp only [aw,ay,Option.some.injEq,exists_eq_left',go_sem,hD,hF,hJ,hP];repeat' (first | exact Ok.out | with_reducible refine aI ?_ ?_ | (simp;done))))
    refine da 0 1 ?_ ?_ (Md (rest,k+1,bt++ [y],bt.length+1) ⟨Dk,j2,pV,by simp⟩ (Nat.lt_succ_self _))
    ·(simp only [go_sem,hD,hF,hJ,hP,aD si,List.map_append,List.map_cons,List.map_nil,encStr];try exact bo)
    ·(simp only [go_sem,hD,hF,hJ,hP,aD si,List.map_append,List.map_cons,List.map_nil,encStr];try exact bo)
end Go.Abs

/-! Tc5 -/

namespace Go.Abs
set_option maxRecDepth 8000
open Go.Proofs
theorem B7 (name:aA) : ∀ l:List Pc,l.any (fun f=>f.name==name)=(jn name l).isSome
 | []=>rfl
 | f::l=>by
  simp only [List.any_cons,jn]
  cases e:(f.name==name)
  ·simp [B7 name l]
  ·simp
theorem KO (name:aA) (f:Pc):aG Tryz.prog kZ ([.agg (bR f)]++ [.ptr 0 0]) ⟨[[.str name]],[]⟩ (.bool (f.name==name)) ⟨[[.str name]],[]⟩:=by
 show aG Tryz.prog kZ [.agg (bR f), .ptr 0 0] _ _ _
 refine aG.go vq rfl fun B Q hB hQ=> ?_
 have⟨hD,hF,hJ,hP⟩:=bP
 repeat' (first
 | simp only [go_sem,hD,hF,hJ,hP]
 | (with_reducible refine aJ hQ ?_;simp only [aw,ay,Option.some.injEq,exists_eq_left',go_sem,hD,hF,hJ,hP];repeat' (first | exact Ok.out | with_reducible refine aI ?_ ?_ | (simp;done))))
def Pg.lT (p:Pg) (name:aA):Option Pc:=if p.scope.1==0 then p.find name else none
theorem wx {p:Pg} (h:p.l9) (name:aA) (s:St):aG Tryz.prog kD [.agg (bX p), .str name] s (.bool (p.lT name).isSome) s:=by
 refine aG.pure ?_ (by simp [D.bG,D.ok,kN]) rfl s
 obtain⟨rQ,qR,vG⟩:=h.procs
 have CY:=fun s=>B0 h s
 have hi:=fun {s:St} {o:Nat} (ho:s.au[o]? = some [.str name])=>uF (tB (l:=p.procs) (f:=kZ) (row:= [.str name]) (b:=fun f:Pc=>f.name==name) (by omega) rfl (by with_unfolding_all rfl) (fun x _=>KO name x)) rfl (Ap _) rfl ho
 have gk:=fun {s:St} {o:Nat} (ho:s.au[o]? = some [.str name])=>(show aG Tryz.prog e7 [.slice .shared 5 (p.procs.map bR), .fa 77 [.ptr o 0]] s (.bool (p.procs.any fun f:Pc=>f.name==name)) s from hi ho)
 simp only [B7]at gk
 unfold Pg.lT Pg.find
 unfold S0
 rcases Bool.eq_false_or_eq_true (p.scope.1==0)with b1 | b1
 ·simp only [b1,if_true]
  refine aG.go qJ rfl fun B Q hB hQ=> ?_
  have⟨hD,hF,hJ,hP⟩:=bP
  repeat' (first
 | simp only [go_sem,hD,hF,hJ,hP,b1]
 | (with_reducible refine CU (CY _) ?_)
 | (with_reducible refine CU (gk (by with_unfolding_all rfl)) ?_)
 | (with_reducible refine aJ hQ ?_;simp only [aw,ay,Option.some.injEq,exists_eq_left',go_sem,hD,hF,hJ,hP];repeat' (first | exact Ok.out | with_reducible refine aI ?_ ?_ | (simp;done))))
 ·simp only [b1,Bool.false_eq_true,if_false,Option.isSome_none]
  refine aG.go qJ rfl fun B Q hB hQ=> ?_
  have⟨hD,hF,hJ,hP⟩:=bP
  repeat' (first
 | simp only [go_sem,hD,hF,hJ,hP,b1]
 | (with_reducible refine CU (CY _) ?_)
 | (with_reducible refine CU (gk (by with_unfolding_all rfl)) ?_)
 | (with_reducible refine aJ hQ ?_;simp only [aw,ay,Option.some.injEq,exists_eq_left',go_sem,hD,hF,hJ,hP];repeat' (first | exact Ok.out | with_reducible refine aI ?_ ?_ | (simp;done))))
def Pg.ic (p:Pg) (name:aA):List aA:=match p.lT name with | some f=>f.calls | none=> []
def Pg.jE (p:Pg) (name:aA):List aA:=match p.lT name with | some _=>gK (p.work name) | none=> []
theorem ly {p:Pg} {name:aA} {f:Pc} (h:p.lT name=some f):(p.scope.1==0)=true∧p.find name=some f:=by
 unfold Pg.lT at h
 split at h
 ·exact⟨by assumption,h⟩
 ·cases h
theorem tu {p:Pg} (h:p.l9) (name:aA) (s:St):aG Tryz.prog me [.agg (bX p), .str name] s (.slice .shared 1 ((p.ic name).map encStr)) s:=by
 refine aG.pure ?_ (by simp [D.bG,D.ok,kN]) (by simp only [D.ok,Tag.ok,dJ];rfl) s
 obtain⟨rQ,qR,vG⟩:=h.procs
 have hk:=fun s=>wx h name s
 have dg:=fun s=>As (p:=p) (by omega) s
 unfold Pg.ic
 unfold S0
 cases qh:p.lT name with
 | none=>
  simp only [qh,Option.isSome_none]at hk
  simp only [List.map_nil]
  refine aG.go qH rfl fun B Q hB hQ=> ?_
  have⟨hD,hF,hJ,hP⟩:=bP
  repeat' (first
 | simp only [go_sem,hD,hF,hJ,hP]
 | (with_reducible refine CU (hk _) ?_)
 | (with_reducible refine aJ hQ ?_;simp only [aw,ay,Option.some.injEq,exists_eq_left',go_sem,hD,hF,hJ,hP];repeat' (first | exact Ok.out | with_reducible refine aI ?_ ?_ | (simp;done))))
 | some f=>
  obtain⟨jG,hf⟩:=ly qh
  have zG:=fun s=>Dp h hf s
  simp only [qh,Option.isSome_some]at hk
  refine aG.go qH rfl fun B Q hB hQ=> ?_
  have⟨hD,hF,hJ,hP⟩:=bP
  repeat' (first
 | simp only [go_sem,hD,hF,hJ,hP]
 | (with_reducible refine CU (hk _) ?_)
 | (with_reducible refine CU (dg _) ?_)
 | (with_reducible refine CU (zG _) ?_)
 | (with_reducible refine aJ hQ ?_;simp only [aw,ay,Option.some.injEq,exists_eq_left',go_sem,hD,hF,hJ,hP];repeat' (first | exact Ok.out | with_reducible refine aI ?_ ?_ | (simp;done))))
theorem vK {p:Pg} (h:p.l9) (name:aA) (s:St):aG Tryz.prog oA [.agg (bX p), .str name] s (.slice .shared 1 ((p.jE name).map encStr)) s:=by
 refine aG.pure ?_ (by simp [D.bG,D.ok,kN]) (by simp only [D.ok,Tag.ok,dJ];rfl) s
 obtain⟨rQ,qR,vG⟩:=h.procs
 have hk:=fun s=>wx h name s
 have dg:=fun s=>As (p:=p) (by omega) s
 unfold Pg.jE
 unfold S0
 cases qh:p.lT name with
 | none=>
  simp only [qh,Option.isSome_none]at hk
  simp only [List.map_nil]
  refine aG.go tf rfl fun B Q hB hQ=> ?_
  have⟨hD,hF,hJ,hP⟩:=bP
  repeat' (first
 | simp only [go_sem,hD,hF,hJ,hP]
 | (with_reducible refine CU (hk _) ?_)
 | (with_reducible refine aJ hQ ?_;simp only [aw,ay,Option.some.injEq,exists_eq_left',go_sem,hD,hF,hJ,hP];repeat' (first | exact Ok.out | with_reducible refine aI ?_ ?_ | (simp;done))))
 | some f=>
  obtain⟨jG,hf⟩:=ly qh
  have zG:=fun s=>Mg h jG hf s
  simp only [qh,Option.isSome_some]at hk
  refine aG.go tf rfl fun B Q hB hQ=> ?_
  have⟨hD,hF,hJ,hP⟩:=bP
  repeat' (first
 | simp only [go_sem,hD,hF,hJ,hP]
 | (with_reducible refine CU (hk _) ?_)
 | (with_reducible refine CU (dg _) ?_)
 | (with_reducible refine CU (zG _) ?_)
 | (with_reducible refine aJ hQ ?_;simp only [aw,ay,Option.some.injEq,exists_eq_left',go_sem,hD,hF,hJ,hP];repeat' (first | exact Ok.out | with_reducible refine aI ?_ ?_ | (simp;done))))
end Go.Abs

/-! Tc6 -/

namespace Go.Abs
set_option maxRecDepth 8000
open Go.Proofs
def lH (p:Pg) (out:List aA):List aA→List aA
 | []=>out
 | v::l=>lH p (if dK p.globals v then out++ [v]else out) l
def lI (p:Pg) (out:List aA):List Sm→List aA
 | []=>out
 | v::l=>lI p (lH p out v.said) l
def jq (p:Pg) (n:aA):List Sm:=match p.find n with | some f=>Sm.dW f.body | none=> []
def mq (p:Pg) (out:List aA):List aA→List aA
 | []=>out
 | n::l=>mq p (lI p out (jq p n)) l
theorem sO (p:Pg) : ∀ (l out:List aA),out.length≤(lH p out l).length∧(lH p out l).length≤out.length+l.length
 | [],out=>⟨Nat.le_refl _,Nat.le_refl _⟩
 | v::l,out=>by
  simp only [lH]
  have h:=sO p l (if dK p.globals v then out++ [v]else out)
  have h2:out.length≤(if dK p.globals v then out++ [v]else out).length∧(if dK p.globals v then out++ [v]else out).length≤out.length+1:=by split <;> simp
  simp only [List.length_cons]
  omega
def iT:List Sm→Nat
 | []=>0
 | v::l=>v.said.length+iT l
theorem uT : ∀ a b:List Sm,iT (a++b)=iT a+iT b
 | [],b=>by simp [iT]
 | v::a,b=>by simp only [List.cons_append,iT,uT a b];omega
theorem Nz (v:Sm):v.said.length≤1+v.x.size+2*Ar.aN v.args:=by
 have : ∀ (l:List Ar) (out:List aA),(Ar.said out l).length≤out.length+2*Ar.aN l:=by
  intro l
  induction l with
  | nil=>intro out;simp [Ar.said]
  | cons a l ih=>
   intro out
   simp only [Ar.said,Ar.aN]
   refine Nat.le_trans (ih _) ?_
   have:=eU a.x
   have:1≤a.x.size:=by obtain⟨_,_,_,_⟩:=a.x;simp [Ex.size]
   simp only [List.length_append]
   split <;> simp <;> omega
 have h1:=this v.args (v.nF++v.x.names)
 have h2:=eU v.x
 have h4:v.nF.length≤1:=by unfold Sm.nF;split <;> simp
 simp only [List.length_append]at h1
 unfold Sm.said
 omega
mutual
theorem H8 : ∀ s:Sm,iT s.pre≤2*s.size
 | ⟨id,kind,labels,name,proc,x,has,args,a7,aU⟩=>by
  simp only [Sm.pre,iT,uT,Sm.size]
  have h1:=Nz ⟨id,kind,labels,name,proc,x,has,args,a7,aU⟩
  have h2:=nL a7
  have h3:=nL aU
  dsimp only at h1
  omega
theorem nL : ∀ l:List Sm,iT (Sm.dW l)≤2*Sm.aN l
 | []=>by simp [Sm.dW,iT,Sm.aN]
 | s::l=>by
  simp only [Sm.dW,uT,Sm.aN]
  have:=H8 s;have:=nL l;omega
end
theorem sP (p:Pg) : ∀ (l:List Sm) (out:List aA),out.length≤(lI p out l).length∧(lI p out l).length≤out.length+iT l
 | [],out=>⟨Nat.le_refl _,Nat.le_refl _⟩
 | v::l,out=>by
  simp only [lI,iT]
  have h:=sP p l (lH p out v.said)
  have h2:=sO p v.said out
  omega
theorem sQ {p:Pg} (h:p.l9) : ∀ (l out:List aA),out.length≤(mq p out l).length∧(mq p out l).length≤out.length+l.length*1800000
 | [],out=>⟨Nat.le_refl _,by simp [mq]⟩
 | n::l,out=>by
  simp only [mq]
  have h1:=sQ h l (lI p out (jq p n))
  have h2:=sP p (jq p n) out
  have h3:iT (jq p n)≤1800000:=by
   unfold jq
   split
   ·rename_i f hf
    have:=nL f.body
    have h4:=Pc.bA (iO hf).1
    have h5:=h.procs.2.1
    simp only [Pc.size]at h4
    omega
   ·simp [iT]
  simp only [List.length_cons]
  omega
theorem zI {p:Pg} (h:p.may=true):p.procs.length≤16:=by
 unfold Pg.may at h
 split at h
 ·cases h
 ·rename_i c
  simp only [Bool.or_eq_true,decide_eq_true_eq,not_or,Int.not_lt,gt_iff_lt]at c
  have:=c.1.2
  omega
def Pg.oj (p:Pg) (name:aA):List aA:=mq p [] (gK (p.work name))
def Pg.ma (p:Pg) (name:aA):List aA:=match p.lT name with | some _=>gK (p.oj name) | none=> []
theorem sR {p:Pg} (jG:(p.scope.1==0)=true) {name:aA} {f:Pc} (hf:p.find name=some f):Good p (gK (p.work name)):=by
 have h:=uS jG (p.procs.length+1) 0 [name] (wv hf)
 refine⟨nJ (fE _).1,fun x m=>h.2 x ?_⟩
 exact((fE _).2 x).1 m
theorem zJ {p:Pg} (h:p.l9) (name:aA) (s:St):aG Tryz.prog kX [.agg (bX p), .str name] s (.slice .shared 1 ((p.ma name).map encStr)) s:=by
 refine aG.pure ?_ (by simp [D.bG,D.ok,kN]) (by simp only [D.ok,Tag.ok,dJ];rfl) s
 have hk:=fun s=>wx h name s
 have dg:=fun s=>As (p:=p) (by have:=h.procs;omega) s
 unfold Pg.ma
 unfold S0
 cases qh:p.lT name with
 | none=>
  simp only [qh,Option.isSome_none]at hk
  simp only [List.map_nil]
  refine aG.go po rfl fun B Q hB hQ=> ?_
  have⟨hD,hF,hJ,hP⟩:=bP
  repeat' (first
 | simp only [go_sem,hD,hF,hJ,hP]
 | (with_reducible refine CU (hk _) ?_)
 | (with_reducible refine aJ hQ ?_;simp only [aw,ay,Option.some.injEq,exists_eq_left',go_sem,hD,hF,hJ,hP];repeat' (first | exact Ok.out | with_reducible refine aI ?_ ?_ | (simp;done))))
 | some f=>
 obtain⟨jG,hf⟩:=ly qh
 simp only [qh,Option.isSome_some]at hk
 dsimp only
 obtain⟨rQ,qR,vG⟩:=h.procs
 have hN:=sR jG hf
 obtain⟨N,Qw⟩ : ∃ N,gK (p.work name)=N:=⟨_,rfl⟩
 rw [Qw]at hN
 have hNl:=hN.len
 obtain⟨R,hR⟩ : ∃ R,p.oj name=R:=⟨_,rfl⟩
 rw [hR]
 unfold Pg.oj at hR
 rw [Qw]at hR
 have Tx:R.length≤28800000:=by
  have:=(sQ h N []).2
  rw [hR]at this
  have h4:=zI (zv jG)
  have h3:N.length*1800000≤16*1800000:=Nat.mul_le_mul_right _ (by omega)
  simp only [List.length_nil]at this
  omega
 have zG:=fun s=>Mg h jG hf s
 simp only [Qw]at zG
 obtain⟨fn,tt,B1⟩:=po
 refine aG.intro ⟨fn,tt,B1⟩ (Nat.le_of_ble_eq_true rfl) fun B hB=> ?_
 generalize hQ:n7 (⟨[],[]⟩:St).au.length (⟨[],[]⟩:St).av.length _ _ (⟨[],[]⟩:St)=Q
 have⟨hD,hF,hJ,hP⟩:=bP
 refine Sem.o5 ?_
 repeat' (first
 | simp only [go_sem,hD,hF,hJ,hP]
 | (with_reducible refine aJ hQ ?_;simp only [aw,ay,Option.some.injEq,exists_eq_left',go_sem,hD,hF,hJ,hP];repeat' (first | exact Ok.out | with_reducible refine aI ?_ ?_ | (simp;done))))
 refine Sem.o5 ?_
 repeat' (first
 | simp only [go_sem,hD,hF,hJ,hP]
 | (with_reducible refine CU (hk _) ?_)
 | (with_reducible refine aJ hQ ?_;simp only [aw,ay,Option.some.injEq,exists_eq_left',go_sem,hD,hF,hJ,hP];repeat' (first | exact Ok.out | with_reducible refine aI ?_ ?_ | (simp;done))))
 refine Sem.o5 ?_
 repeat' (first
 | simp only [go_sem,hD,hF,hJ,hP]
 | (with_reducible refine CU (dg _) ?_)
 | (with_reducible refine aJ hQ ?_;simp only [aw,ay,Option.some.injEq,exists_eq_left',go_sem,hD,hF,hJ,hP];repeat' (first | exact Ok.out | with_reducible refine aI ?_ ?_ | (simp;done))))
 refine Sem.o5 ?_
 repeat' (first
 | simp only [go_sem,hD,hF,hJ,hP]
 | (with_reducible refine aJ hQ ?_;simp only [aw,ay,Option.some.injEq,exists_eq_left',go_sem,hD,hF,hJ,hP];repeat' (first | exact Ok.out | with_reducible refine aI ?_ ?_ | (simp;done))))
 refine Sem.o5 ?_
 repeat' (first
 | simp only [go_sem,hD,hF,hJ,hP]
 | (with_reducible refine CU (zG _) ?_)
 | (with_reducible refine aJ hQ ?_;simp only [aw,ay,Option.some.injEq,exists_eq_left',go_sem,hD,hF,hJ,hP];repeat' (first | exact Ok.out | with_reducible refine aI ?_ ?_ | (simp;done))))
 refine bk.ng 6 1 rfl ?_
 simp only [go_sem,hD,hF,hJ,hP]
 refine dc 1 1 (bk.ind (ι:=List aA×Nat×List aA×Nat) (fun i=>N.drop i.2.1=i.1∧mq p i.2.2.1 i.1=R∧i.2.2.1.length≤R.length∧i.2.2.2=i.2.2.1.length) (fun i=>i.1.length)
  (fun i=> [(2, .ptr 0 0),(5, .dd (iS p) 0),(6, .slice (.tok 0) 1 (i.2.2.1.map encStr)),(21, .slice .shared 1 (N.map encStr)),(22, .int .i64 (N.length:Int)),(23, .int .i64 (i.2.1:Int))]) (fun i=>⟨[bX p],[some i.2.2.2]⟩) ?_ (N,0,[],0) ⟨rfl,hR,Nat.zero_le _,rfl⟩)
 rintro⟨rest,k,out,no⟩ ⟨h1,h2,h3,h4⟩ IH
 dsimp only at h1 h2 h3 h4
 subst h4
 cases rest with
 | nil=>
  have hD:=drop_nil h1
  simp only [mq]at h2
  subst h2
  have xD:(jo out).length=out.length:=List.length_mergeSort out
  repeat' (first
 | simp only [go_sem,hD,hF,hJ,hP]
 | (with_reducible refine aJ hQ ?_;simp only [aw,ay,Option.some.injEq,exists_eq_left',go_sem,hD,hF,hJ,hP];repeat' (first | exact Ok.out | with_reducible refine aI ?_ ?_ | (simp;done))))
  refine Sem.seq (Sem.sort (k:=6) (t:=0) (l:=out) hB (by decide) (by decide) (by decide) rfl rfl (by omega) ?_)
  refine Sem.seq (Sem.compact (k:=6) (t:=0) (l:=jo out) hB (by decide) rfl (by rw [xD];rfl) (by rw [xD];omega) ?_)
  rw [uQ]
  refine gO (ac:= .ret) (Q:=Q) (tm:= [(59, .slice (.tok 0) 1 ((gK out).map encStr)),(4, .slice (.tok 0) 1 ((gK out).map encStr))]) (s:=⟨[],[some (gK out).length]⟩) ?_
  repeat' (first
 | simp only [go_sem,hD,hF,hJ,hP]
 | (with_reducible refine aJ hQ ?_;simp only [aw,ay,Option.some.injEq,exists_eq_left',go_sem,hD,hF,hJ,hP];repeat' (first | exact Ok.out | with_reducible refine aI ?_ ?_ | (simp;done))))
 | cons x rest=>
  obtain⟨hF,g2,hD,g4⟩:=drop_cons h1
  have bq:k<4611686018427387904:=by omega
  obtain⟨g,B6⟩:=hN.2 x (List.mem_of_getElem? hF)
  have Qv:=(iO B6).1
  have hbd:jq p x=Sm.dW g.body:=by unfold jq;rw [B6]
  simp only [mq,hbd]at h2
  obtain⟨j,hj,s6⟩:=uR (k:=0) B6
  have s6:p.at x=((j:Nat):Int):=by unfold Pg.at;simpa using s6
  have zr:=fun s=>Hy (p:=p) (by omega) x s
  simp only [s6]at zr
  obtain⟨it,sg,H2⟩:=Ka hj (by omega)
  have Qm:it.length≤900000:=by
   have e:=congrArg List.length sg
   obtain⟨a,b,e',_,_,e3,e4⟩:=(qO p).2 j g hj
   have e5:=qP p
   have e6:=congrArg List.length e3
   rw [e4]at e5
   simp only [List.length_map,List.length_append]at e e5 e6
   omega
  rw [← sg]at h2
  repeat' (first
 | simp only [go_sem,hD,hF,hJ,hP,hF]
 | (with_reducible refine CU (zr _) ?_)
 | (with_reducible refine CU (H2 _) ?_)
 | (with_reducible refine aJ hQ ?_;simp only [aw,ay,Option.some.injEq,exists_eq_left',go_sem,hD,hF,hJ,hP];repeat' (first | exact Ok.out | with_reducible refine aI ?_ ?_ | (simp;done))))
  obtain⟨W,hW⟩ : ∃ W,lI p out (it.map Im.s)=W:=⟨_,rfl⟩
  rw [hW]at h2
  have hWR:W.length≤R.length:=by have:=(sQ h rest W).1;rw [h2]at this;exact this
  have H0:out.length≤W.length:=by have:=(sP p (it.map Im.s) out).1;rw [hW]at this;exact this
  refine dc 1 1 (bk.ind (ι:=List Im×Nat×List aA×Nat) (fun i=>it.drop i.2.1=i.1∧lI p i.2.2.1 (i.1.map Im.s)=W∧i.2.2.1.length≤W.length∧i.2.2.2=i.2.2.1.length) (fun i=>i.1.length)
   (fun i=> [(2, .ptr 0 0),(5, .dd (iS p) 0),(6, .slice (.tok 0) 1 (i.2.2.1.map encStr)),(21, .slice .shared 1 (N.map encStr)),(22, .int .i64 (N.length:Int)),(23, .int .i64 (k:Int)),(31, .slice .shared 17 (it.map eH)),(32, .int .i64 (it.length:Int)),(33, .int .i64 (i.2.1:Int))]) (fun i=>⟨[bX p],[some i.2.2.2]⟩) ?_ (it,0,out,out.length) ⟨rfl,hW,H0,rfl⟩)
  rintro⟨qY,k2,wy,no⟩ ⟨j1,j2,j3,j4⟩ xp
  dsimp only at j1 j2 j3 j4
  subst j4
  cases qY with
  | nil=>
   have Wi:=drop_nil j1
   simp only [List.map_nil,lI]at j2
   subst j2
   repeat' (first
 | simp only [go_sem,hD,hF,hJ,hP,Wi]
 | (with_reducible refine aJ hQ ?_;simp only [aw,ay,Option.some.injEq,exists_eq_left',go_sem,hD,hF,hJ,hP];repeat' (first | exact Ok.out | with_reducible refine aI ?_ ?_ | (simp;done))))
   refine da 1 1 ?_ ?_ (IH (rest,k+1,wy,wy.length) ⟨g2,h2,hWR,rfl⟩ (Nat.lt_succ_self _))
   ·(simp only [go_sem,hD,hF,hJ,hP,aD bq];try exact bo)
   ·(simp only [go_sem,hD,hF,hJ,hP,aD bq];try exact bo)
  | cons y qY=>
   obtain⟨oi,Dk,xC,Tq⟩:=drop_cons j1
   have si:k2<4611686018427387904:=by omega
   have hym:y.s∈Sm.dW g.body:=by rw [← sg];exact List.mem_map_of_mem (List.mem_of_getElem? oi)
   have Ll:=h.said Qv _ hym
   have Ma:=fun s=>uI Ll s
   have xD:=BV _ Ll
   simp only [List.map_cons,lI]at j2
   repeat' (first
 | simp only [go_sem,hD,hF,hJ,hP,xC,oi]
 | (with_reducible refine CU (Ma _) ?_)
 | (with_reducible refine aJ hQ ?_;simp only [aw,ay,Option.some.injEq,exists_eq_left',go_sem,hD,hF,hJ,hP];repeat' (first | exact Ok.out | with_reducible refine aI ?_ ?_ | (simp;done))))
   obtain⟨V,hV⟩ : ∃ V,lH p wy y.s.said=V:=⟨_,rfl⟩
   rw [hV]at j2
   have hVW:V.length≤W.length:=by have:=(sP p (qY.map Im.s) V).1;rw [j2]at this;exact this
   have hoV:wy.length≤V.length:=by have:=(sO p y.s.said wy).1;rw [hV]at this;exact this
   refine dc 1 1 (bk.ind (ι:=List aA×Nat×List aA×Nat) (fun i=>y.s.said.drop i.2.1=i.1∧lH p i.2.2.1 i.1=V∧i.2.2.1.length≤V.length∧i.2.2.2=i.2.2.1.length) (fun i=>i.1.length)
    (fun i=> [(2, .ptr 0 0),(5, .dd (iS p) 0),(6, .slice (.tok 0) 1 (i.2.2.1.map encStr)),(21, .slice .shared 1 (N.map encStr)),(22, .int .i64 (N.length:Int)),(23, .int .i64 (k:Int)),(31, .slice .shared 17 (it.map eH)),(32, .int .i64 (it.length:Int)),(33, .int .i64 (k2:Int)),(39, .slice .shared 1 (y.s.said.map encStr)),(40, .int .i64 (y.s.said.length:Int)),(41, .int .i64 (i.2.1:Int))]) (fun i=>⟨[bX p],[some i.2.2.2]⟩) ?_ (y.s.said,0,wy,wy.length) ⟨rfl,hV,hoV,rfl⟩)
   rintro⟨xG,k3,sS,no⟩ ⟨l1,l2,l3,l4⟩ TB
   dsimp only at l1 l2 l3 l4
   subst l4
   cases xG with
   | nil=>
    have Wj:=drop_nil l1
    simp only [lH]at l2
    subst l2
    repeat' (first
 | simp only [go_sem,hD,hF,hJ,hP,Wj]
 | (with_reducible refine aJ hQ ?_;simp only [aw,ay,Option.some.injEq,exists_eq_left',go_sem,hD,hF,hJ,hP];repeat' (first | exact Ok.out | with_reducible refine aI ?_ ?_ | (simp;done))))
    refine da 1 1 ?_ ?_ (xp (qY,k2+1,sS,sS.length) ⟨Dk,j2,hVW,rfl⟩ (Nat.lt_succ_self _))
    ·(simp only [go_sem,hD,hF,hJ,hP,aD si];try exact bo)
    ·(simp only [go_sem,hD,hF,hJ,hP,aD si];try exact bo)
   | cons z xG=>
    obtain⟨Qx,TC,TD,lg4⟩:=drop_cons l1
    have Mh:k3<4611686018427387904:=by omega
    have zH:=fun g s=>ik (l:=p.globals) (by omega) z g s
    simp only [lH]at l2
    rcases Bool.eq_false_or_eq_true (dK p.globals z)with c1 | c1
    ·simp only [c1,if_true]at l2
     have hJ:(sS.length+1)*17≤bb:=by unfold bb;omega
     have hoo:(sS++ [z]).length≤V.length:=by have:=(sO p xG (sS++ [z])).1;rw [l2]at this;exact this
     repeat' (first
 | simp only [go_sem,hD,hF,hJ,hP,TD,Qx,c1]
 | (with_reducible refine CU (zH _ _) ?_)
 | (with_reducible refine aJ hQ ?_;simp only [aw,ay,Option.some.injEq,exists_eq_left',go_sem,hD,hF,hJ,hP];repeat' (first | exact Ok.out | with_reducible refine aI ?_ ?_ | (simp;done))))
     refine da 1 1 ?_ ?_ (TB (xG,k3+1,sS++ [z],sS.length+1) ⟨TC,l2,hoo,by simp⟩ (Nat.lt_succ_self _))
     ·(simp only [go_sem,hD,hF,hJ,hP,aD Mh,List.map_append,List.map_cons,List.map_nil,encStr];try exact bo)
     ·(simp only [go_sem,hD,hF,hJ,hP,aD Mh,List.map_append,List.map_cons,List.map_nil,encStr];try exact bo)
    ·simp only [c1,Bool.false_eq_true,if_false]at l2
     repeat' (first
 | simp only [go_sem,hD,hF,hJ,hP,TD,Qx,c1]
 | (with_reducible refine CU (zH _ _) ?_)
 | (with_reducible refine aJ hQ ?_;simp only [aw,ay,Option.some.injEq,exists_eq_left',go_sem,hD,hF,hJ,hP];repeat' (first | exact Ok.out | with_reducible refine aI ?_ ?_ | (simp;done))))
     refine da 1 1 ?_ ?_ (TB (xG,k3+1,sS,sS.length) ⟨TC,l2,l3,rfl⟩ (Nat.lt_succ_self _))
     ·(simp only [go_sem,hD,hF,hJ,hP,aD Mh];try exact bo)
     ·(simp only [go_sem,hD,hF,hJ,hP,aD Mh];try exact bo)
end Go.Abs

/-! Tc7 -/

namespace Go.Abs
set_option maxRecDepth 8000
open Go.Proofs
end Go.Abs

/-! ScPr -/

namespace Go.Abs
set_option maxRecDepth 8000
open Go.Proofs
mutual
theorem KP : ∀ (s:Sm) (n:Nat),(∀ (i:Nat) (v:Sm),s.pre[i]? = some v→v.id=((n+i+1:Nat):Int))→Sm.num true n s=(s,n+s.pre.length)
 | ⟨id,kind,labels,name,proc,x,has,args,a7,aU⟩,n,h=>by
  simp only [Sm.pre]at h
  have h0:=h 0 _ rfl
  have e1:=qZ a7 (n+1) fun i v hv=>by
   have:=h (i+1) v (by rw [List.getElem?_cons_succ,List.getElem?_append_left (List.getElem?_eq_some_iff.1 hv).1];exact hv)
   rw [this];congr 1;omega
  have e2:=qZ aU (n+1+(Sm.dW a7).length) fun i v hv=>by
   have:=h ((Sm.dW a7).length+i+1) v (by rw [List.getElem?_cons_succ,List.getElem?_append_right (by omega)];simpa using hv)
   rw [this];congr 1;omega
  simp only at h0
  simp only [Sm.num,Sm.pre,e1,e2,h0,if_true,List.length_cons,List.length_append,Nat.add_zero,Prod.mk.injEq,true_and]
  omega
theorem qZ : ∀ (l:List Sm) (n:Nat),(∀ (i:Nat) (v:Sm),(Sm.dW l)[i]? = some v→v.id=((n+i+1:Nat):Int))→Sm.eC true n l=(l,n+(Sm.dW l).length)
 | [],n,_=>rfl
 | s::l,n,h=>by
  simp only [Sm.dW]at h
  have e1:=KP s n fun i v hv=>h i v (by rw [List.getElem?_append_left (List.getElem?_eq_some_iff.1 hv).1];exact hv)
  have e2:=qZ l (n+s.pre.length) fun i v hv=>by
   have:=h (s.pre.length+i) v (by rw [List.getElem?_append_right (by omega)];simpa using hv)
   rw [this];congr 1;omega
  simp only [Sm.eC,Sm.dW,e1,e2,List.length_append,Prod.mk.injEq,true_and]
  omega
end
theorem xH : ∀ (l:List Pc) (n:Nat),(∀ (i:Nat) (v:Sm),((l.map fun f=>Sm.dW f.body).flatten)[i]? = some v→v.id=((n+i+1:Nat):Int))→Pc.eC n l=l
 | [],n,_=>rfl
 | f::l,n,h=>by
  simp only [List.map_cons,List.flatten_cons]at h
  have e1:=qZ f.body n fun i v hv=>h i v (by rw [List.getElem?_append_left (List.getElem?_eq_some_iff.1 hv).1];exact hv)
  have e2:=xH l (n+(Sm.dW f.body).length) fun i v hv=>by
   have:=h ((Sm.dW f.body).length+i) v (by rw [List.getElem?_append_right (by omega)];simpa using hv)
   rw [this];congr 1;omega
  simp only [Pc.eC,e1,e2]
theorem CP {p:Pg} (h:p.may=true):p.number=p:=by
 unfold Pg.number
 rw [xH p.procs 0 fun i v hv=>by
  have:=Qj (p:=p) h (i:=i) (v:=v) hv
  rw [this];congr 1;omega]
theorem CQ {p:Pg} (h:p.may=true) (ho:p.l9):p.rW=some p:=by
 unfold Pg.rW
 rw [CP h,if_pos]
 obtain⟨h1,h2,h3⟩:=ho.procs
 unfold Pg.size
 omega
theorem NA {p:Pg} (h:p.l9) (name:aA) (s:St):aG Tryz.prog pZ [.agg (bX p), .str name] s (kI (if p.may then p.find name else none)) s:=by
 refine aG.pure ?_ (by simp [D.bG,D.ok,kN]) (Qh _) s
 have hm:=fun s=>HH h.KE s
 simp only [yx]at hm
 obtain⟨rQ,qR,vG⟩:=h.procs
 obtain⟨q,hq⟩ : ∃ q,(if p.may then p.find name else none)=q:=⟨_,rfl⟩
 rw [hq]
 unfold S0
 rcases Bool.eq_false_or_eq_true p.may with hb | hb
 case inr=>
  simp only [hb]at hm
  simp only [hb,Bool.false_eq_true,if_false]at hq
  subst hq
  refine aG.go rX rfl fun B Q hB hQ=> ?_
  have⟨hD,hF,hJ,hP⟩:=bP
  repeat' (first
 | simp only [go_sem,hD,hF,hJ,hP,kI,Option.getD_none,Option.isSome_none,xA]
 | (with_reducible refine CU (hm _) ?_)
 | (with_reducible first | refine cR fun hc=> ?_ | refine cT fun hc=> ?_ | refine cU (fun hc=> ?_) fun hc=> ?_) <;> (try simp only [hc,bs, ↓reduceIte]at h) <;> try simp only [hc]
 | (with_reducible refine aJ hQ ?_;simp only [aw,ay,cm,cq,go_sem,hD,hF,hJ,hP,kI,Option.getD_none,Option.isSome_none,xA];repeat' (first | exact Ok.out | with_reducible refine aI ?_ ?_ | (simp;done))))
 have hn:=fun s=>KD (CQ hb h) s
 simp only [hb]at hm
 simp only [hb,if_true,Pg.find]at hq
 refine aG.go rX rfl fun B Q hB hQ=> ?_
 have⟨hD,hF,hJ,hP⟩:=bP
 repeat' (first
 | simp only [go_sem,hD,hF,hJ,hP,HW]
 | (with_reducible refine CU (hm _) ?_)
 | (with_reducible refine CU (hn _) ?_)
 | (with_reducible first | refine cR fun hc=> ?_ | refine cT fun hc=> ?_ | refine cU (fun hc=> ?_) fun hc=> ?_) <;> (try simp only [hc,bs, ↓reduceIte]at h) <;> try simp only [hc]
 | (with_reducible refine aJ hQ ?_;simp only [aw,ay,cm,cq,go_sem,hD,hF,hJ,hP,HW];repeat' (first | exact Ok.out | with_reducible refine aI ?_ ?_ | (simp;done))))
 refine dc 3 0 (bk.ind (ι:=List Pc×Nat) (fun i=>p.procs.drop i.2=i.1∧jn name i.1=q) (fun i=>i.1.length)
  (fun i=> [(1, .str name),(4, .ptr 1 0),(16, .slice .shared 5 (p.procs.map bR)),(17, .int .i64 (p.procs.length:Int)),(18, .int .i64 (i.2:Int))]) (fun i=>⟨[bX p,[.str [], .slice .full 0 [], .slice .full 0 [], .slice .full 0 [], .slice .full 0 []],bX p],[]⟩) ?_ (p.procs,0) ⟨rfl,hq⟩)
 rintro⟨rest,k⟩ ⟨h1,h⟩ IH
 dsimp only at h1 h
 cases rest with
 | nil=>
  have hD:=drop_nil h1
  simp only [jn]at h
  subst h
  repeat' (first
 | simp only [go_sem,hD,hF,hJ,hP,kI,Option.getD_none,Option.isSome_none,xA]
 | (with_reducible first | refine cR fun hc=> ?_ | refine cT fun hc=> ?_ | refine cU (fun hc=> ?_) fun hc=> ?_) <;> (try simp only [hc,bs, ↓reduceIte]at h) <;> try simp only [hc]
 | (with_reducible refine aJ hQ ?_;simp only [aw,ay,cm,cq,go_sem,hD,hF,hJ,hP,kI,Option.getD_none,Option.isSome_none,xA];repeat' (first | exact Ok.out | with_reducible refine aI ?_ ?_ | (simp;done))))
 | cons a rest=>
  obtain⟨hF,g2,hD,g4⟩:=drop_cons h1
  have bq:k<4611686018427387904:=by omega
  simp only [jn]at h
  rcases Bool.eq_false_or_eq_true (a.name==name)with b1 | b1
  ·simp only [b1,if_true]at h
   subst h
   repeat' (first
 | simp only [go_sem,hD,hF,hJ,hP,b1,kI,Option.getD_some,Option.isSome_some]
 | (with_reducible first | refine cR fun hc=> ?_ | refine cT fun hc=> ?_ | refine cU (fun hc=> ?_) fun hc=> ?_) <;> (try simp only [hc,bs, ↓reduceIte]at h) <;> try simp only [hc]
 | (with_reducible refine aJ hQ ?_;simp only [aw,ay,cm,cq,go_sem,hD,hF,hJ,hP,b1,kI,Option.getD_some,Option.isSome_some];repeat' (first | exact Ok.out | with_reducible refine aI ?_ ?_ | (simp;done))))
  ·simp only [b1,Bool.false_eq_true,if_false]at h
   repeat' (first
 | simp only [go_sem,hD,hF,hJ,hP,b1]
 | (with_reducible refine aJ hQ ?_;simp only [aw,ay,cm,cq,go_sem,hD,hF,hJ,hP];repeat' (first | exact Ok.out | with_reducible refine aI ?_ ?_ | (simp;done))))
   refine da 3 0 ?_ ?_ (IH (rest,k+1) ⟨g2,h⟩ (Nat.lt_succ_self _))
   ·(simp only [go_sem,hD,hF,hJ,hP,aD bq];try exact bo)
   ·(simp only [go_sem,hD,hF,hJ,hP,aD bq];try exact bo)
theorem KQ {a b:List aA} (ha:a.length<4611686018427387904) (hb:b.length<4611686018427387904) (g:Tag) (s:St):aG Tryz.prog mg [.slice .shared 1 (a.map encStr), .slice g 1 (b.map encStr)] s (.bool (a.all fun x=>dK b x)) s:=by
 refine(?_:dh _ _ _ _ _)
 have key:aG Tryz.prog mg [.slice .shared 1 (a.map encStr), .slice .shared 1 (b.map encStr)] s (.bool (a.all fun x=>dK b x)) s:=by
  refine aG.pure ?_ (by simp [D.bG,D.ok,Tag.ok,dJ]) rfl s
  have zH:=fun x g s=>Qg hb x g s
  obtain⟨R,hR⟩ : ∃ R,(a.all fun x=>dK b x)=R:=⟨_,rfl⟩
  rw [hR]
  unfold S0
  refine aG.go xb rfl fun B Q hB hQ=> ?_
  have⟨hD,hF,hJ,hP⟩:=bP
  repeat' (first
 | simp only [go_sem,hD,hF,hJ,hP]
 | (with_reducible refine aJ hQ ?_;simp only [aw,ay,Option.some.injEq,exists_eq_left',go_sem,hD,hF,hJ,hP];repeat' (first | exact Ok.out | with_reducible refine aI ?_ ?_ | (simp;done))))
  refine dc 0 0 (bk.ind (ι:=List aA×Nat) (fun i=>a.drop i.2=i.1∧(i.1.all fun x=>dK b x)=R) (fun i=>i.1.length)
   (fun i=> [(1, .slice .shared 1 (b.map encStr)),(7, .slice .shared 1 (a.map encStr)),(8, .int .i64 (a.length:Int)),(9, .int .i64 (i.2:Int))]) (fun i=>⟨[],[]⟩) ?_ (a,0) ⟨rfl,hR⟩)
  clear hR
  rintro⟨rest,k⟩ ⟨h1,h2⟩ IH
  dsimp only at h1 h2
  cases rest with
  | nil=>
   have hD:=drop_nil h1
   simp only [List.all_nil]at h2
   subst h2
   repeat' (first
 | simp only [go_sem,hD,hF,hJ,hP]
 | (with_reducible refine aJ hQ ?_;simp only [aw,ay,Option.some.injEq,exists_eq_left',go_sem,hD,hF,hJ,hP];repeat' (first | exact Ok.out | with_reducible refine aI ?_ ?_ | (simp;done))))
  | cons x rest=>
   obtain⟨hF,g2,hD,g4⟩:=drop_cons h1
   have bq:k<4611686018427387904:=by omega
   simp only [List.all_cons]at h2
   rcases Bool.eq_false_or_eq_true (dK b x)with c1 | c1
   ·simp only [c1,Bool.true_and]at h2
    repeat' (first
 | simp only [go_sem,hD,hF,hJ,hP,c1]
 | (with_reducible refine CU (zH _ _ _) ?_)
 | (with_reducible refine aJ hQ ?_;simp only [aw,ay,Option.some.injEq,exists_eq_left',go_sem,hD,hF,hJ,hP];repeat' (first | exact Ok.out | with_reducible refine aI ?_ ?_ | (simp;done))))
    refine da 0 0 ?_ ?_ (IH (rest,k+1) ⟨g2,h2⟩ (Nat.lt_succ_self _))
    ·(simp only [go_sem,hD,hF,hJ,hP,aD bq];try exact bo)
    ·(simp only [go_sem,hD,hF,hJ,hP,aD bq];try exact bo)
   ·simp only [c1,Bool.false_and]at h2
    subst h2
    repeat' (first
 | simp only [go_sem,hD,hF,hJ,hP,c1]
 | (with_reducible refine CU (zH _ _ _) ?_)
 | (with_reducible refine aJ hQ ?_;simp only [aw,ay,Option.some.injEq,exists_eq_left',go_sem,hD,hF,hJ,hP];repeat' (first | exact Ok.out | with_reducible refine aI ?_ ?_ | (simp;done))))
 exact dh.uk (.cons (Wk.refl _) (.cons (Wk.shared g 1 (b.map encStr)) .nil)) key
end Go.Abs

/-! ToP -/

namespace Go.Abs
theorem Ia {out:List aA} {x y:aA} : y∈kr out x↔y∈out∨y=x:=by
 unfold kr
 split
 ·rename_i e
  have:=(gd _ _).1 e
  constructor
  ·exact .inl
  ·rintro(h | rfl) <;> assumption
 ·simp
theorem sT {y:aA} : ∀ {l out:List aA},y∈rH out l↔y∈out∨y∈l
 | [],out=>by simp [rH]
 | x::l,out=>by
  simp only [rH,sT (l:=l),Ia,List.mem_cons,or_assoc]
theorem vL {p:Pg} {a:aA} : ∀ (n i:Nat) (out:List aA),(∀ x∈out,x=a∨∃ z∈out,x∈oT p z)→∀ x∈nK p n i out,x=a∨∃ z∈nK p n i out,x∈oT p z
 | 0,i,out,h,x,hx=>h x hx
 | n+1,i,out,h,x,hx=>by
  simp only [nK]at hx ⊢
  split at hx
  ·rename_i z hz
   refine vL n _ _ (fun y hy=> ?_) x hx
   rcases sT.1 hy with hy | hy
   ·rcases h y hy with h | ⟨w,h1,h2⟩
    ·exact .inl h
    ·exact .inr ⟨w,sT.2 (.inl h1),h2⟩
   ·exact .inr ⟨z,sT.2 (.inl (List.mem_of_getElem? hz)),hy⟩
  ·exact h x hx
theorem zK {p:Pg} {x:aA} : ∀ {l out:List aA},x∈lH p out l↔x∈out∨(x∈l∧x∈p.globals)
 | [],out=>by simp [lH]
 | v::l,out=>by
  simp only [lH,zK (l:=l),List.mem_cons]
  cases e:dK p.globals v
  ·have:v∉p.globals:=fun m=>by rw [(gd _ _).2 m]at e;cases e
   simp only [Bool.false_eq_true,if_false]
   constructor
   ·rintro(h | ⟨h,k⟩)
    ·exact .inl h
    ·exact .inr ⟨.inr h,k⟩
   ·rintro(h | ⟨rfl | h,k⟩)
    ·exact .inl h
    ·exact absurd k this
    ·exact .inr ⟨h,k⟩
  ·have:v∈p.globals:=(gd _ _).1 e
   simp only [if_true,List.mem_append,List.mem_singleton]
   constructor
   ·rintro((h | rfl) | ⟨h,k⟩)
    ·exact .inl h
    ·exact .inr ⟨.inl rfl,this⟩
    ·exact .inr ⟨.inr h,k⟩
   ·rintro(h | ⟨rfl | h,k⟩)
    ·exact .inl (.inl h)
    ·exact .inl (.inr rfl)
    ·exact .inr ⟨h,k⟩
def mr:List Sm→List aA
 | []=> []
 | v::l=>v.said++mr l
theorem zL {p:Pg} {x:aA} : ∀ {l:List Sm} {out:List aA},x∈lI p out l↔x∈out∨(x∈mr l∧x∈p.globals)
 | [],out=>by simp [lI,mr]
 | v::l,out=>by
  simp only [lI,zL (l:=l),zK,mr,List.mem_append]
  constructor
  ·rintro((h | ⟨h,k⟩) | ⟨h,k⟩)
   ·exact .inl h
   ·exact .inr ⟨.inl h,k⟩
   ·exact .inr ⟨.inr h,k⟩
  ·rintro(h | ⟨h | h,k⟩)
   ·exact .inl (.inl h)
   ·exact .inl (.inr ⟨h,k⟩)
   ·exact .inr ⟨h,k⟩
def gL (p:Pg):List aA→List aA
 | []=> []
 | n::l=>mr (jq p n)++gL p l
theorem uU {p:Pg} {x:aA} : ∀ {l:List aA},x∈gL p l↔∃ n∈l,x∈mr (jq p n)
 | []=>by simp [gL]
 | n::l=>by simp [gL,uU (l:=l)]
theorem zM {p:Pg} {x:aA} : ∀ {l out:List aA},x∈mq p out l↔x∈out∨(x∈gL p l∧x∈p.globals)
 | [],out=>by simp [mq,gL]
 | v::l,out=>by
  simp only [mq,zM (l:=l),zL,gL,List.mem_append]
  constructor
  ·rintro((h | ⟨h,k⟩) | ⟨h,k⟩)
   ·exact .inl h
   ·exact .inr ⟨.inl h,k⟩
   ·exact .inr ⟨.inr h,k⟩
  ·rintro(h | ⟨h | h,k⟩)
   ·exact .inl (.inl h)
   ·exact .inl (.inr ⟨h,k⟩)
   ·exact .inr ⟨h,k⟩
theorem Ib {p:Pg} {nm x:aA} {f:Pc} (h:p.lT nm=some f):x∈p.ma nm↔(∃ n∈p.work nm,x∈mr (jq p n))∧x∈p.globals:=by
 unfold Pg.ma
 rw [h]
 dsimp only
 rw [(fE _).2]
 unfold Pg.oj
 rw [zM,uU]
 simp only [(fE _).2,List.not_mem_nil,false_or]
theorem Dq {p:Pg} {nm x:aA} {f:Pc} (h:p.lT nm=some f):x∈p.jE nm↔x∈p.work nm:=by
 unfold Pg.jE
 rw [h]
 exact(fE _).2 x
theorem KR {p:Pg} (jG:(p.scope.1==0)=true) (nm:aA):p.ic nm=oT p nm:=by
 unfold Pg.ic oT Pg.lT
 rw [if_pos jG] <;> rfl
end Go.Abs

/-! Full1 -/

namespace Go.Abs
set_option maxRecDepth 8000
open Go.Proofs
def bM (t:aA) (n:Int):Int:=if n > 20000 then 20001 else if(t.length:Int)≥20000 - n then 20001 else n+1+t.length
mutual
def du:Ex→Int→Int
 | ⟨_,_,name,kids⟩,n=>j9 kids (bM name n)
def j9:List Ex→Int→Int
 | [],n=>n
 | x::l,n=>if n≤20000 then j9 l (du x n)else n
end
theorem jr {t:aA} {n:Int} (h0:0≤n):bM t n≤20001∧(n≤20000→n+1≤bM t n)∧0≤bM t n∧(bM t n≤20000→n+1+t.length=bM t n):=by
 unfold bM;split
 ·omega
 ·split <;> omega
theorem qi : ∀ (m:Nat) (x:Ex),x.size≤m→∀ n:Int,0≤n→du x n≤20001∧(n≤20000→n+1≤du x n)∧0≤du x n∧(du x n≤20000→(x.size:Int)+1≤2*(du x n - n)∧x.texts):=by
 intro m
 induction m with
 | zero=>rintro⟨op,v,name,kids⟩ h;simp only [Ex.size]at h;omega
 | succ m ih=>
  rintro⟨op,v,name,kids⟩ h n h0
  simp only [Ex.size]at h
  obtain⟨t1,t2,t3,t4⟩:=jr (t:=name) h0
  have go : ∀ (l:List Ex),Ex.aN l≤m→∀ c:Int,0≤c→c≤20001→j9 l c≤20001∧c≤j9 l c∧(j9 l c≤20000→(Ex.aN l:Int)≤2*(j9 l c - c)∧Ex.qd l):=by
   intro l
   induction l with
   | nil=>intro _ c h0 h1;simp only [j9,Ex.aN];exact⟨h1,Int.le_refl _,fun _=>⟨by omega,trivial⟩⟩
   | cons y l ihl=>
    intro hs c h0 h1
    simp only [Ex.aN]at hs ⊢
    simp only [j9]
    split
    ·rename_i hc
     obtain⟨a1,a2,a3,a4⟩:=ih y (by omega) c h0
     obtain⟨b1,b2,b3⟩:=ihl (by omega) (du y c) a3 a1
     have:=a2 hc
     refine⟨b1,by omega,fun hw=> ?_⟩
     obtain⟨c1,c2⟩:=b3 hw
     obtain⟨d1,d2⟩:=a4 (by omega)
     exact⟨by omega,d2,c2⟩
    ·exact⟨h1,Int.le_refl _,fun hw=>by omega⟩
  obtain⟨g1,g2,g3⟩:=go kids (by omega) (bM name n) t3 t1
  simp only [du,Ex.size]
  refine⟨g1,fun hn=>by have:=t2 hn;omega,by omega,fun hw=> ?_⟩
  obtain⟨k1,k2⟩:=g3 hw
  have:=t4 (by omega)
  exact⟨by omega,by omega,k2⟩
theorem mJ (t:aA) {n:Int} (h0:0≤n) (h1:n≤20001) (s:St):aG Tryz.prog eD [.str t, .int .i64 n] s (.int .i64 (bM t n)) s:=by
 refine aG.pure ?_ rfl rfl s
 unfold S0
 have w1:IntKind.wrap .i64 (20000 - n)=20000 - n:=c7 (by omega) (by omega)
 have w2:IntKind.wrap .i64 (n+1)=n+1:=c7 (by omega) (by omega)
 by_cases c:n > 20000
 ·have c1:decide (n > 20000)=true:=by simp;omega
  have e:bM t n=20001:=by simp [bM,c]
  rw [e]
  refine aG.go lr rfl fun B Q hB hQ=> ?_
  have⟨hD,hF,hJ,hP⟩:=bP
  repeat' (first
 | simp only [go_sem,hD,hF,hJ,hP,c1,w1,w2]
 | (with_reducible refine aJ hQ ?_;simp only [aw,ay,Option.some.injEq,exists_eq_left',go_sem,hD,hF,hJ,hP];repeat' (first | exact Ok.out | with_reducible refine aI ?_ ?_ | (simp;done))))
 ·have c1:decide (n > 20000)=false:=by simp;omega
  by_cases d:(t.length:Int)≥20000 - n
  ·have d1:decide ((t.length:Int)≥20000 - n)=true:=by simp;omega
   have e:bM t n=20001:=by unfold bM;rw [if_neg c,if_pos d]
   rw [e]
   refine aG.go lr rfl fun B Q hB hQ=> ?_
   have⟨hD,hF,hJ,hP⟩:=bP
   repeat' (first
 | simp only [go_sem,hD,hF,hJ,hP,c1,d1,w1,w2]
 | (with_reducible refine aJ hQ ?_;simp only [aw,ay,Option.some.injEq,exists_eq_left',go_sem,hD,hF,hJ,hP];repeat' (first | exact Ok.out | with_reducible refine aI ?_ ?_ | (simp;done))))
  ·have d1:decide ((t.length:Int)≥20000 - n)=false:=by simp;omega
   have e:bM t n=n+1+t.length:=by unfold bM;rw [if_neg c,if_neg d]
   have w3:IntKind.wrap .i64 (n+1+t.length)=n+1+t.length:=c7 (by omega) (by omega)
   rw [e]
   refine aG.go lr rfl fun B Q hB hQ=> ?_
   have⟨hD,hF,hJ,hP⟩:=bP
   repeat' (first
 | simp only [go_sem,hD,hF,hJ,hP,c1,d1,w1,w2,w3]
 | (with_reducible refine aJ hQ ?_;simp only [aw,ay,Option.some.injEq,exists_eq_left',go_sem,hD,hF,hJ,hP];repeat' (first | exact Ok.out | with_reducible refine aI ?_ ?_ | (simp;done))))
theorem B8 : ∀ (m:Nat) (x:Ex),x.size≤m→∀ {n:Int},0≤n→n≤20000→∀ s:St,aG Tryz.prog gD [.agg (bj x), .int .i64 n] s (.int .i64 (du x n)) s:=by
 intro m
 induction m with
 | zero=>rintro⟨op,v,name,kids⟩ h;simp only [Ex.size]at h;omega
 | succ m ih=>
  rintro⟨op,v,name,kids⟩ dI n h0 h1 s
  refine aG.pure ?_ (by simp [D.bG,D.ok,fZ]) rfl s
  simp only [Ex.size]at dI
  have hk : ∀ y∈kids,∀ {n:Int},0≤n→n≤20000→∀ s:St,aG Tryz.prog gD [.agg (bj y), .int .i64 n] s (.int .i64 (du y n)) s:=fun y hy=>ih y (by have:=Ex.bA hy;omega)
  have ht:=fun s=>mJ name h0 (by omega) s
  obtain⟨t1,t2,t3,t4⟩:=jr (t:=name) h0
  unfold S0
  generalize h:du ⟨op,v,name,kids⟩ n=p
  simp only [du]at h
  refine aG.go uB rfl fun B Q hB hQ=> ?_
  have⟨hD,hF,hJ,hP⟩:=bP
  repeat' (first
 | simp only [go_sem,hD,hF,hJ,hP]
 | (with_reducible refine CU (ht _) ?_)
 | (with_reducible first | refine cR fun hc=> ?_ | refine cT fun hc=> ?_ | refine cU (fun hc=> ?_) fun hc=> ?_) <;> (try simp only [hc,bs, ↓reduceIte]at h) <;> try simp only [hc]
 | (with_reducible refine aJ hQ ?_;(try cases h);simp only [aw,ay,cm,cq,go_sem,hD,hF,hJ,hP];repeat' (first | exact Ok.out | with_reducible refine aI ?_ ?_ | (simp;done))))
  refine dc 1 0 (bk.ind (ι:=List Ex×Nat×Int) (fun i=>kids.drop i.2.1=i.1∧j9 i.1 i.2.2=p∧(i.2.1:Int)≤i.2.2∧i.2.2≤20001) (fun i=>i.1.length)
   (fun i=> [(1, .int .i64 i.2.2),(2, .ptr 0 0),(5, .int .i64 (i.2.1:Int))]) (fun i=>⟨[bj ⟨op,v,name,kids⟩],[]⟩) ?_ (kids,0,bM name n) ⟨rfl,h,t3,t1⟩)
  rintro⟨rest,k,c⟩ ⟨g1,h,g3,g4⟩ IH
  dsimp only at g1 h g3 g4
  cases rest with
  | nil=>
   have hD:=drop_nil g1
   simp only [j9]at h
   repeat' (first
 | simp only [go_sem,hD,hF,hJ,hP]
 | (with_reducible first | refine cR fun hc=> ?_ | refine cT fun hc=> ?_ | refine cU (fun hc=> ?_) fun hc=> ?_) <;> (try simp only [hc,bs, ↓reduceIte]at h) <;> try simp only [hc]
 | (with_reducible refine aJ hQ ?_;(try cases h);simp only [aw,ay,cm,cq,go_sem,hD,hF,hJ,hP];repeat' (first | exact Ok.out | with_reducible refine aI ?_ ?_ | (simp;done))))
  | cons y rest=>
   obtain⟨hF,g2,hD,g5⟩:=drop_cons g1
   simp only [j9]at h
   by_cases hc:c≤20000
   ·have c1:decide (c≤20000)=true:=by simp;omega
    have hy:=fun s=>hk y (List.mem_of_getElem? hF) (n:=c) (by omega) hc s
    obtain⟨a1,a2,a3,a4⟩:=qi _ y (Nat.le_refl _) c (by omega)
    have:=a2 hc
    have w3:IntKind.wrap .i64 ((k:Int)+1)=((k+1:Nat):Int):=by rw [c7] <;> omega
    rw [if_pos hc]at h
    repeat' (first
 | simp only [go_sem,hD,hF,hJ,hP,c1,w3]
 | (with_reducible refine CU (hy _) ?_)
 | (with_reducible first | refine cR fun hc=> ?_ | refine cT fun hc=> ?_ | refine cU (fun hc=> ?_) fun hc=> ?_) <;> (try simp only [hc,bs, ↓reduceIte]at h) <;> try simp only [hc]
 | (with_reducible refine aJ hQ ?_;(try cases h);simp only [aw,ay,cm,cq,go_sem,hD,hF,hJ,hP,c1,w3];repeat' (first | exact Ok.out | with_reducible refine aI ?_ ?_ | (simp;done))))
    refine dc 1 0 (IH (rest,k+1,du y c) ⟨g2,h,by dsimp only;omega,a1⟩ (Nat.lt_succ_self _))
   ·have c1:decide (c≤20000)=false:=by simp;omega
    rw [if_neg hc]at h
    repeat' (first
 | simp only [go_sem,hD,hF,hJ,hP,c1]
 | (with_reducible first | refine cR fun hc=> ?_ | refine cT fun hc=> ?_ | refine cU (fun hc=> ?_) fun hc=> ?_) <;> (try simp only [hc,bs, ↓reduceIte]at h) <;> try simp only [hc]
 | (with_reducible refine aJ hQ ?_;(try cases h);simp only [aw,ay,cm,cq,go_sem,hD,hF,hJ,hP,c1];repeat' (first | exact Ok.out | with_reducible refine aI ?_ ?_ | (simp;done))))
end Go.Abs

/-! Fits1 -/

namespace Go.Abs
set_option maxRecDepth 8000
open Go.Proofs
def cB:List aA→Int→Int
 | [],n=>n
 | t::l,n=>if n≤20000 then cB l (bM t n)else n
def fF:List Ar→Int→Int
 | [],n=>n
 | a::l,n=>if n≤20000 then fF l (bM a.name (du a.x n))else n
def gS:List Pm→Int→Int
 | [],n=>n
 | a::l,n=>if n≤20000 then gS l (bM a.name n)else n
mutual
def nM:Sm→Int→Int
 | ⟨_,_,labels,name,proc,x,_,args,a7,aU⟩,n=>dS aU (dS a7 (fF args (bM proc (bM name (cB labels (du x n))))))
def dS:List Sm→Int→Int
 | [],n=>n
 | s::l,n=>if n≤20000 then dS l (nM s n)else n
end
theorem Ic (s:Sm) (n:Int):nM s n=dS s.aU (dS s.a7 (fF s.args (bM s.proc (bM s.name (cB s.labels (du s.x n)))))):=by cases s;simp only [nM]
def oU (f:Pc) (n:Int):Int:=dS f.body (gS f.params (cB f.fin (cB f.vars (bM f.name n))))
def kb:List Pc→Int→Int
 | [],n=>n
 | f::l,n=>if n≤20000 then kb l (oU f n)else n
def Pg.vh (p:Pg):Int:=kb p.procs (cB p.globals 0)
theorem im : ∀ (l:List aA) {n:Int},0≤n→n≤20001→cB l n≤20001∧n≤cB l n∧(cB l n≤20000→n+l.length≤cB l n∧∀ t∈l,t.length<4611686018427387904)
 | [],n,h0,h1=>by simp only [cB];exact⟨h1,Int.le_refl _,fun _=>⟨by simp,by simp⟩⟩
 | t::l,n,h0,h1=>by
  simp only [cB]
  split
  ·rename_i hc
   obtain⟨a1,a2,a3,a4⟩:=jr (t:=t) h0
   obtain⟨b1,b2,b3⟩:=im l (n:=bM t n) a3 a1
   have:=a2 hc
   refine⟨b1,by omega,fun hw=> ?_⟩
   obtain⟨c1,c2⟩:=b3 hw
   have:=a4 (by omega)
   refine⟨by simp only [List.length_cons];omega,fun s m=> ?_⟩
   rcases List.mem_cons.1 m with rfl | m
   ·omega
   ·exact c2 s m
  ·exact⟨h1,Int.le_refl _,fun hw=>by omega⟩
theorem sU : ∀ (l:List Pm) {n:Int},0≤n→n≤20001→gS l n≤20001∧n≤gS l n∧(gS l n≤20000→n+l.length≤gS l n∧∀ t∈l,t.name.length<4611686018427387904)
 | [],n,h0,h1=>by simp only [gS];exact⟨h1,Int.le_refl _,fun _=>⟨by simp,by simp⟩⟩
 | t::l,n,h0,h1=>by
  simp only [gS]
  split
  ·rename_i hc
   obtain⟨a1,a2,a3,a4⟩:=jr (t:=t.name) h0
   obtain⟨b1,b2,b3⟩:=sU l (n:=bM t.name n) a3 a1
   have:=a2 hc
   refine⟨b1,by omega,fun hw=> ?_⟩
   obtain⟨c1,c2⟩:=b3 hw
   have:=a4 (by omega)
   refine⟨by simp only [List.length_cons];omega,fun s m=> ?_⟩
   rcases List.mem_cons.1 m with rfl | m
   ·omega
   ·exact c2 s m
  ·exact⟨h1,Int.le_refl _,fun hw=>by omega⟩
theorem sV : ∀ (l:List Ar) {n:Int},0≤n→n≤20001→fF l n≤20001∧n≤fF l n∧
 (fF l n≤20000→(Ar.aN l:Int)≤2*(fF l n - n)∧∀ a∈l,a.x.size<4611686018427387904∧a.x.texts∧a.name.length<4611686018427387904)
 | [],n,h0,h1=>by simp only [fF];exact⟨h1,Int.le_refl _,fun _=>⟨by simp [Ar.aN],by simp⟩⟩
 | a::l,n,h0,h1=>by
  simp only [fF]
  split
  ·rename_i hc
   obtain⟨a1,a2,a3,a4⟩:=qi _ a.x (Nat.le_refl _) n h0
   obtain⟨e1,e2,e3,e4⟩:=jr (t:=a.name) a3
   obtain⟨b1,b2,b3⟩:=sV l (n:=bM a.name (du a.x n)) e3 e1
   have:=a2 hc
   have:du a.x n≤bM a.name (du a.x n):=by
    by_cases h:du a.x n≤20000
    ·have:=e2 h;omega
    ·have:bM a.name (du a.x n)=20001:=by unfold bM;rw [if_pos (by omega)]
     omega
   refine⟨b1,by omega,fun hw=> ?_⟩
   obtain⟨c1,c2⟩:=b3 hw
   have:=e4 (by omega)
   obtain⟨d1,d2⟩:=a4 (by omega)
   refine⟨by simp only [Ar.aN];omega,fun s m=> ?_⟩
   rcases List.mem_cons.1 m with rfl | m
   ·exact⟨by omega,d2,by omega⟩
   ·exact c2 s m
  ·exact⟨h1,Int.le_refl _,fun hw=>by omega⟩
theorem iz {t:aA} {n:Int} (h0:0≤n) (h1:n≤20001):n≤bM t n∧bM t n≤20001∧(bM t n≤20000→n+1≤bM t n∧t.length<4611686018427387904):=by
 obtain⟨e1,e2,e3,e4⟩:=jr (t:=t) h0
 by_cases h:n≤20000
 ·have:=e2 h
  exact⟨by omega,e1,fun hw=>⟨by omega,by have:=e4 hw;omega⟩⟩
 ·have:bM t n=20001:=by unfold bM;rw [if_pos (by omega)]
  exact⟨by omega,e1,fun hw=>by omega⟩
mutual
theorem zN : ∀ (s:Sm) {n:Int},0≤n→n≤20000→nM s n≤20001∧n+1≤nM s n∧(nM s n≤20000→(s.size:Int)+1≤2*(nM s n - n)∧s.qQ)
 | ⟨id,kind,labels,name,proc,x,has,args,a7,aU⟩,n,h0,h1=>by
  obtain⟨a1,a2,a3,a4⟩:=qi _ x (Nat.le_refl _) n h0
  have a2:=a2 h1
  obtain⟨b1,b2,b3⟩:=im labels a3 a1
  obtain⟨c1,c2,c3⟩:=iz (t:=name) (n:=cB labels (du x n)) (by omega) b1
  obtain⟨d1,d2,d3⟩:=iz (t:=proc) (n:=bM name (cB labels (du x n))) (by omega) c2
  obtain⟨e1,e2,e3⟩:=sV args (n:=bM proc (bM name (cB labels (du x n)))) (by omega) d2
  obtain⟨f1,f2,f3⟩:=nN a7 (n:=fF args (bM proc (bM name (cB labels (du x n))))) (by omega) e1
  obtain⟨g1,g2,g3⟩:=nN aU (n:=dS a7 (fF args (bM proc (bM name (cB labels (du x n)))))) (by omega) f1
  simp only [nM,Sm.size]
  refine⟨g1,by omega,fun hw=> ?_⟩
  obtain⟨g4,g5⟩:=g3 hw
  obtain⟨f4,f5⟩:=f3 (by omega)
  obtain⟨e4,e5⟩:=e3 (by omega)
  obtain⟨d4,d5⟩:=d3 (by omega)
  obtain⟨c4,c5⟩:=c3 (by omega)
  obtain⟨b4,b5⟩:=b3 (by omega)
  obtain⟨a5,a6⟩:=a4 (by omega)
  have:=Ar.cu args
  refine⟨by omega, ?_⟩
  rw [wo]
  exact⟨⟨b5,by dsimp only;omega,c5,d5,by dsimp only;omega,a6,by dsimp only;omega,e5⟩,f5,g5⟩
theorem nN : ∀ (l:List Sm) {n:Int},0≤n→n≤20001→dS l n≤20001∧n≤dS l n∧(dS l n≤20000→(Sm.aN l:Int)≤2*(dS l n - n)∧Sm.gR l)
 | [],n,h0,h1=>by simp only [dS];exact⟨h1,Int.le_refl _,fun _=>⟨by simp [Sm.aN],by simp only [Sm.gR]⟩⟩
 | s::l,n,h0,h1=>by
  simp only [dS]
  split
  ·rename_i hc
   obtain⟨a1,a2,a3⟩:=zN s h0 hc
   obtain⟨b1,b2,b3⟩:=nN l (n:=nM s n) (by omega) a1
   refine⟨b1,by omega,fun hw=> ?_⟩
   obtain⟨c1,c2⟩:=b3 hw
   obtain⟨d1,d2⟩:=a3 (by omega)
   exact⟨by simp only [Sm.aN];omega,d2,c2⟩
  ·exact⟨h1,Int.le_refl _,fun hw=>by omega⟩
end
theorem zO (f:Pc) {n:Int} (h0:0≤n) (h1:n≤20000):oU f n≤20001∧n+1≤oU f n∧(oU f n≤20000→(f.size:Int)+1≤2*(oU f n - n)∧
 (f.name.length<4611686018427387904∧(∀ t∈f.vars,t.length<4611686018427387904)∧(∀ t∈f.fin,t.length<4611686018427387904)∧∀ a∈f.params,a.name.length<4611686018427387904)∧Sm.gR f.body):=by
 obtain⟨c1,c2,c3⟩:=iz (t:=f.name) h0 (by omega:n≤20001)
 have c4:=(jr (t:=f.name) h0).2.1 h1
 obtain⟨d1,d2,d3⟩:=im f.vars (n:=bM f.name n) (by omega) c2
 obtain⟨e1,e2,e3⟩:=im f.fin (n:=cB f.vars (bM f.name n)) (by omega) d1
 obtain⟨g1,g2,g3⟩:=sU f.params (n:=cB f.fin (cB f.vars (bM f.name n))) (by omega) e1
 obtain⟨k1,k2,k3⟩:=nN f.body (n:=gS f.params (cB f.fin (cB f.vars (bM f.name n)))) (by omega) g1
 unfold oU Pc.size
 refine⟨k1,by omega,fun hw=> ?_⟩
 obtain⟨k4,k5⟩:=k3 hw
 obtain⟨g4,g5⟩:=g3 (by omega)
 obtain⟨e4,e5⟩:=e3 (by omega)
 obtain⟨d4,d5⟩:=d3 (by omega)
 obtain⟨_,c5⟩:=c3 (by omega)
 exact⟨by omega,⟨c5,d5,e5,g5⟩,k5⟩
theorem xI : ∀ (l:List Pc) {n:Int},0≤n→n≤20001→kb l n≤20001∧n≤kb l n∧(kb l n≤20000→(Pc.aN l:Int)≤2*(kb l n - n)∧∀ f∈l,
 (f.name.length<4611686018427387904∧(∀ t∈f.vars,t.length<4611686018427387904)∧(∀ t∈f.fin,t.length<4611686018427387904)∧∀ a∈f.params,a.name.length<4611686018427387904)∧Sm.gR f.body)
 | [],n,h0,h1=>by simp only [kb];exact⟨h1,Int.le_refl _,fun _=>⟨by simp [Pc.aN],by simp⟩⟩
 | f::l,n,h0,h1=>by
  simp only [kb]
  split
  ·rename_i hc
   obtain⟨a1,a2,a3⟩:=zO f h0 hc
   obtain⟨b1,b2,b3⟩:=xI l (n:=oU f n) (by omega) a1
   refine⟨b1,by omega,fun hw=> ?_⟩
   obtain⟨c1,c2⟩:=b3 hw
   obtain⟨d1,d2⟩:=a3 (by omega)
   refine⟨by simp only [Pc.aN];omega,fun s m=> ?_⟩
   rcases List.mem_cons.1 m with rfl | m
   ·exact d2
   ·exact c2 s m
  ·exact⟨h1,Int.le_refl _,fun hw=>by omega⟩
theorem FH {p:Pg} (h:p.vh≤20000):p.size≤40001∧p.Ax:=by
 unfold Pg.vh at h
 obtain⟨a1,a2,a3⟩:=im p.globals (n:=0) (by omega) (by omega)
 obtain⟨b1,b2,b3⟩:=xI p.procs (n:=cB p.globals 0) (by omega) a1
 obtain⟨c1,c2⟩:=b3 h
 obtain⟨d1,d2⟩:=a3 (by omega)
 have:p.size≤40001:=by unfold Pg.size;omega
 exact⟨this,by omega,d2,fun f m=>(c2 f m).1,fun f m=>(c2 f m).2⟩
theorem q4 {l:List aA} {n:Int} (h0:0≤n) (h1:n≤20001) (s:St):aG Tryz.prog gh [.slice .shared 1 (l.map encStr), .int .i64 n] s (.int .i64 (cB l n)) s:=by
 refine aG.pure ?_ (by simp [D.bG,D.ok,dJ,Tag.ok]) rfl s
 unfold S0
 generalize h:cB l n=p
 refine aG.go tz rfl fun B Q hB hQ=> ?_
 have⟨hD,hF,hJ,hP⟩:=bP
 repeat' (first
 | simp only [go_sem,hD,hF,hJ,hP]
 | (with_reducible refine aJ hQ ?_;simp only [aw,ay,Option.some.injEq,exists_eq_left',go_sem,hD,hF,hJ,hP];repeat' (first | exact Ok.out | with_reducible refine aI ?_ ?_ | (simp;done))))
 refine dc 0 0 (bk.ind (ι:=List aA×Nat×Int) (fun i=>l.drop i.2.1=i.1∧cB i.1 i.2.2=p∧(i.2.1:Int)≤i.2.2∧i.2.2≤20001) (fun i=>i.1.length)
  (fun i=> [(0, .slice .shared 1 (l.map encStr)),(1, .int .i64 i.2.2),(5, .int .i64 (i.2.1:Int))]) (fun i=>⟨[],[]⟩) ?_ (l,0,n) ⟨rfl,h,h0,h1⟩)
 rintro⟨rest,k,c⟩ ⟨g1,h,g3,g4⟩ IH
 dsimp only at g1 h g3 g4
 cases rest with
 | nil=>
  have hD:=drop_nil g1
  simp only [cB]at h
  subst h
  repeat' (first
 | simp only [go_sem,hD,hF,hJ,hP]
 | (with_reducible refine aJ hQ ?_;simp only [aw,ay,Option.some.injEq,exists_eq_left',go_sem,hD,hF,hJ,hP];repeat' (first | exact Ok.out | with_reducible refine aI ?_ ?_ | (simp;done))))
 | cons y rest=>
  obtain⟨hF,g2,hD,g5⟩:=drop_cons g1
  simp only [cB]at h
  by_cases hc:c≤20000
  ·have c1:decide (c≤20000)=true:=by simp;omega
   have hy:=fun s=>mJ y (n:=c) (by omega) g4 s
   obtain⟨a1,a2,a3,a4⟩:=jr (t:=y) (n:=c) (by omega)
   have:=a2 hc
   have w3:IntKind.wrap .i64 ((k:Int)+1)=((k+1:Nat):Int):=by rw [c7] <;> omega
   rw [if_pos hc]at h
   repeat' (first
 | simp only [go_sem,hD,hF,hJ,hP,c1,w3]
 | (with_reducible refine CU (hy _) ?_)
 | (with_reducible refine aJ hQ ?_;simp only [aw,ay,Option.some.injEq,exists_eq_left',go_sem,hD,hF,hJ,hP];repeat' (first | exact Ok.out | with_reducible refine aI ?_ ?_ | (simp;done))))
   refine dc 0 0 (IH (rest,k+1,bM y c) ⟨g2,h,by dsimp only;omega,a1⟩ (Nat.lt_succ_self _))
  ·have c1:decide (c≤20000)=false:=by simp;omega
   rw [if_neg hc]at h
   subst h
   repeat' (first
 | simp only [go_sem,hD,hF,hJ,hP,c1]
 | (with_reducible refine aJ hQ ?_;simp only [aw,ay,Option.some.injEq,exists_eq_left',go_sem,hD,hF,hJ,hP];repeat' (first | exact Ok.out | with_reducible refine aI ?_ ?_ | (simp;done))))
theorem Ie : ∀ (m:Nat) (l:List Sm),Sm.aN l≤m→∀ {n:Int},0≤n→n≤20001→∀ s:St,aG Tryz.prog ib [.slice .shared 13 (l.map bd), .int .i64 n] s (.int .i64 (dS l n)) s:=by
 intro m
 induction m with
 | zero=>
  intro l h n h0 h1 s
  cases l with
  | nil=>
   have z:decide ((0:Int)<0)=false:=rfl
   refine aG.pure ?_ (by simp [D.bG,D.ok,D.hY,Tag.ok]) rfl s
   unfold S0
   simp only [dS]
   refine aG.go nU rfl fun B Q hB hQ=> ?_
   have⟨hD,hF,hJ,hP⟩:=bP
   repeat' (first
 | simp only [go_sem,hD,hF,hJ,hP,z]
 | (with_reducible refine bk.sF ?_)
 | (with_reducible refine aJ hQ ?_;simp only [aw,ay,Option.some.injEq,exists_eq_left',go_sem,hD,hF,hJ,hP];repeat' (first | exact Ok.out | with_reducible refine aI ?_ ?_ | (simp;done))))
  | cons s l=>simp only [Sm.aN]at h;omega
 | succ m ih=>
  intro l h n h0 h1 s
  refine aG.pure ?_ (by simp [D.bG,D.ok,nh,Tag.ok]) rfl s
  unfold S0
  generalize hp:dS l n=p
  refine aG.go nU rfl fun B Q hB hQ=> ?_
  have⟨hD,hF,hJ,hP⟩:=bP
  repeat' (first
 | simp only [go_sem,hD,hF,hJ,hP]
 | (with_reducible refine aJ hQ ?_;simp only [aw,ay,Option.some.injEq,exists_eq_left',go_sem,hD,hF,hJ,hP];repeat' (first | exact Ok.out | with_reducible refine aI ?_ ?_ | (simp;done))))
  refine dc 0 0 (bk.ind (ι:=List Sm×Nat×Int) (fun i=>l.drop i.2.1=i.1∧dS i.1 i.2.2=p∧(i.2.1:Int)≤i.2.2∧i.2.2≤20001) (fun i=>i.1.length)
   (fun i=> [(0, .slice .shared 13 (l.map bd)),(1, .int .i64 i.2.2),(5, .int .i64 (i.2.1:Int))]) (fun i=>⟨[],[]⟩) ?_ (l,0,n) ⟨rfl,hp,h0,h1⟩)
  rintro⟨rest,k,c⟩ ⟨g1,hp,g3,g4⟩ IH
  dsimp only at g1 hp g3 g4
  cases rest with
  | nil=>
   have hD:=drop_nil g1
   simp only [dS]at hp
   subst hp
   repeat' (first
 | simp only [go_sem,hD,hF,hJ,hP]
 | (with_reducible refine aJ hQ ?_;simp only [aw,ay,Option.some.injEq,exists_eq_left',go_sem,hD,hF,hJ,hP];repeat' (first | exact Ok.out | with_reducible refine aI ?_ ?_ | (simp;done))))
  | cons y rest=>
   obtain⟨hF,g2,hD,g5⟩:=drop_cons g1
   simp only [dS]at hp
   by_cases hc:c≤20000
   ·have c1:decide (c≤20000)=true:=by simp;omega
    have kM:=List.mem_of_getElem? hF
    have dI:=Sm.bA kM
    have V4:s.au.length≤s.au.length∧Sm.aN y.a7<y.size∧Sm.aN y.aU<y.size:=by cases y;simp only [Sm.size];omega
    have w3:IntKind.wrap .i64 ((k:Int)+1)=((k+1:Nat):Int):=by rw [c7] <;> omega
    rw [if_pos hc]at hp
    obtain⟨a1,a2,a3,a4⟩:=qi _ y.x (Nat.le_refl _) c (by omega)
    have a2:=a2 hc
    obtain⟨b1,b2,b3⟩:=im y.labels a3 a1
    obtain⟨c1',c2,c3⟩:=iz (t:=y.name) (n:=cB y.labels (du y.x c)) (by omega) b1
    obtain⟨d1,d2,d3⟩:=iz (t:=y.proc) (n:=bM y.name (cB y.labels (du y.x c))) (by omega) c2
    have eE:=fun s=>B8 _ y.x (Nat.le_refl _) (n:=c) (by omega) hc s
    have eL:=fun s=>q4 (l:=y.labels) (n:=du y.x c) (by omega) a1 s
    have eN:=fun s=>mJ y.name (n:=cB y.labels (du y.x c)) (by omega) b1 s
    have eP:=fun s=>mJ y.proc (n:=bM y.name (cB y.labels (du y.x c))) (by omega) c2 s
    obtain⟨r1,r2,r3⟩:=zN y (n:=c) (by omega) hc
    rw [Ic]at hp r1 r2
    generalize hC:bM y.proc (bM y.name (cB y.labels (du y.x c)))=C at *
    obtain⟨s1,s2,s3⟩:=sV y.args (n:=C) (by omega) d2
    obtain⟨t1,t2,t3⟩:=nN y.a7 (n:=fF y.args C) (by omega) s1
    have eT:=fun s=>ih y.a7 (by omega) (n:=fF y.args C) (by omega) s1 s
    have eS:=fun s=>ih y.aU (by omega) (n:=dS y.a7 (fF y.args C)) (by omega) t1 s
    generalize hW:fF y.args C=W at *
    repeat' (first
 | simp only [go_sem,hD,hF,hJ,hP,c1,w3]
 | (with_reducible refine CU (eE _) ?_)
 | (with_reducible refine CU (eL _) ?_)
 | (with_reducible refine CU (eN _) ?_)
 | (with_reducible refine CU (eP _) ?_)
 | (with_reducible refine aJ hQ ?_;simp only [aw,ay,Option.some.injEq,exists_eq_left',go_sem,hD,hF,hJ,hP];repeat' (first | exact Ok.out | with_reducible refine aI ?_ ?_ | (simp;done))))
    refine dc 1 0 (bk.ind (ι:=List Ar×Nat×Int) (fun i=>y.args.drop i.2.1=i.1∧fF i.1 i.2.2=W∧(i.2.1:Int)≤i.2.2∧i.2.2≤20001) (fun i=>i.1.length)
     (fun i=> [(0, .slice .shared 13 (l.map bd)),(1, .int .i64 i.2.2),(5, .int .i64 (k:Int)),(6, .ptr 0 0),(7, .int .i64 (i.2.1:Int))]) (fun i=>⟨[bd y],[]⟩) ?_ (y.args,0,C) ⟨rfl,hW,by dsimp only;omega,d2⟩)
    rintro⟨QA,j,e⟩ ⟨k1,hw,k3,k4⟩ xp
    dsimp only at k1 hw k3 k4
    cases QA with
    | nil=>
     have hD:=drop_nil k1
     simp only [fF]at hw
     subst hw
     repeat' (first
 | simp only [go_sem,hD,hF,hJ,hP,w3]
 | (with_reducible refine CU (eT _) ?_)
 | (with_reducible refine CU (eS _) ?_)
 | (with_reducible refine aJ hQ ?_;simp only [aw,ay,Option.some.injEq,exists_eq_left',go_sem,hD,hF,hJ,hP];repeat' (first | exact Ok.out | with_reducible refine aI ?_ ?_ | (simp;done))))
     refine dc 0 0 (IH (rest,k+1,dS y.aU (dS y.a7 e)) ⟨g2,hp,by dsimp only;omega,r1⟩ (Nat.lt_succ_self _))
    | cons a QA=>
     obtain⟨hF,k2,hD,k5⟩:=drop_cons k1
     simp only [fF]at hw
     by_cases he:e≤20000
     ·have e1:decide (e≤20000)=true:=by simp;omega
      have w4:IntKind.wrap .i64 ((j:Int)+1)=((j+1:Nat):Int):=by rw [c7] <;> omega
      rw [if_pos he]at hw
      obtain⟨u1,u2,u3,u4⟩:=qi _ a.x (Nat.le_refl _) e (by omega)
      have u2:=u2 he
      obtain⟨v1,v2,v3⟩:=iz (t:=a.name) (n:=du a.x e) u3 u1
      have eX:=fun s=>B8 _ a.x (Nat.le_refl _) (n:=e) (by omega) he s
      have eM:=fun s=>mJ a.name (n:=du a.x e) u3 u1 s
      repeat' (first
 | simp only [go_sem,hD,hF,hJ,hP,e1,w4]
 | (with_reducible refine CU (eX _) ?_)
 | (with_reducible refine CU (eM _) ?_)
 | (with_reducible refine aJ hQ ?_;simp only [aw,ay,Option.some.injEq,exists_eq_left',go_sem,hD,hF,hJ,hP];repeat' (first | exact Ok.out | with_reducible refine aI ?_ ?_ | (simp;done))))
      refine dc 1 0 (xp (QA,j+1,bM a.name (du a.x e)) ⟨k2,hw,by dsimp only;omega,v2⟩ (Nat.lt_succ_self _))
     ·have e1:decide (e≤20000)=false:=by simp;omega
      rw [if_neg he]at hw
      subst hw
      repeat' (first
 | simp only [go_sem,hD,hF,hJ,hP,e1,w3]
 | (with_reducible refine CU (eT _) ?_)
 | (with_reducible refine CU (eS _) ?_)
 | (with_reducible refine aJ hQ ?_;simp only [aw,ay,Option.some.injEq,exists_eq_left',go_sem,hD,hF,hJ,hP];repeat' (first | exact Ok.out | with_reducible refine aI ?_ ?_ | (simp;done))))
      refine dc 0 0 (IH (rest,k+1,dS y.aU (dS y.a7 e)) ⟨g2,hp,by dsimp only;omega,r1⟩ (Nat.lt_succ_self _))
   ·have c1:decide (c≤20000)=false:=by simp;omega
    rw [if_neg hc]at hp
    subst hp
    repeat' (first
 | simp only [go_sem,hD,hF,hJ,hP,c1]
 | (with_reducible refine aJ hQ ?_;simp only [aw,ay,Option.some.injEq,exists_eq_left',go_sem,hD,hF,hJ,hP];repeat' (first | exact Ok.out | with_reducible refine aI ?_ ?_ | (simp;done))))
end Go.Abs

/-! Fits2 -/

namespace Go.Abs
set_option maxRecDepth 8000
open Go.Proofs
theorem QB (p:Pg) (s:St):aG Tryz.prog rj [.agg (bX p)] s (.bool (decide (p.vh≤20000))) s:=by
 refine aG.pure ?_ (by simp only [D.bG,D.ok,kN];rfl) rfl s
 unfold S0
 generalize hp:p.vh=W
 unfold Pg.vh at hp
 obtain⟨a1,a2,a3⟩:=im p.globals (n:=0) (by omega) (by omega)
 have eG:=fun s=>q4 (l:=p.globals) (n:=0) (by omega) (by omega) s
 refine aG.go zW rfl fun B Q hB hQ=> ?_
 have⟨hD,hF,hJ,hP⟩:=bP
 repeat' (first
 | simp only [go_sem,hD,hF,hJ,hP]
 | (with_reducible refine CU (eG _) ?_)
 | (with_reducible refine aJ hQ ?_;simp only [aw,ay,cm,cq,go_sem,hD,hF,hJ,hP];repeat' (first | exact Ok.out | with_reducible refine aI ?_ ?_ | (simp;done))))
 refine dc 1 0 (bk.ind (ι:=List Pc×Nat×Int) (fun i=>p.procs.drop i.2.1=i.1∧kb i.1 i.2.2=W∧(i.2.1:Int)≤i.2.2∧i.2.2≤20001) (fun i=>i.1.length)
  (fun i=> [(1, .ptr 0 0),(3, .int .i64 i.2.2),(4, .int .i64 (i.2.1:Int))]) (fun i=>⟨[bX p],[]⟩) ?_ (p.procs,0,cB p.globals 0) ⟨rfl,hp,a2,a1⟩)
 rintro⟨rest,k,c⟩ ⟨g1,hp,g3,g4⟩ IH
 dsimp only at g1 hp g3 g4
 cases rest with
 | nil=>
  have hD:=drop_nil g1
  simp only [kb]at hp
  subst hp
  repeat' (first
 | simp only [go_sem,hD,hF,hJ,hP]
 | (with_reducible refine aJ hQ ?_;simp only [aw,ay,cm,cq,go_sem,hD,hF,hJ,hP];repeat' (first | exact Ok.out | with_reducible refine aI ?_ ?_ | (simp;done))))
 | cons f rest=>
  obtain⟨hF,g2,hD,g5⟩:=drop_cons g1
  simp only [kb]at hp
  by_cases hc:c≤20000
  ·have c1:decide (c≤20000)=true:=by simp;omega
   have w3:IntKind.wrap .i64 ((k:Int)+1)=((k+1:Nat):Int):=by rw [c7] <;> omega
   rw [if_pos hc]at hp
   obtain⟨r1,r2,r3⟩:=zO f (n:=c) (by omega) hc
   unfold oU at hp r1 r2
   obtain⟨c1',c2,c3⟩:=iz (t:=f.name) (n:=c) (by omega) g4
   obtain⟨d1,d2,d3⟩:=im f.vars (n:=bM f.name c) (by omega) c2
   obtain⟨e1,e2,e3⟩:=im f.fin (n:=cB f.vars (bM f.name c)) (by omega) d1
   have eN:=fun s=>mJ f.name (n:=c) (by omega) g4 s
   have eV:=fun s=>q4 (l:=f.vars) (n:=bM f.name c) (by omega) c2 s
   have eF:=fun s=>q4 (l:=f.fin) (n:=cB f.vars (bM f.name c)) (by omega) d1 s
   generalize hC:cB f.fin (cB f.vars (bM f.name c))=C at *
   obtain⟨s1,s2,s3⟩:=sU f.params (n:=C) (by omega) e1
   have eT:=fun s=>Ie _ f.body (Nat.le_refl _) (n:=gS f.params C) (by omega) s1 s
   generalize hM:gS f.params C=M at *
   repeat' (first
 | simp only [go_sem,hD,hF,hJ,hP,c1,w3]
 | (with_reducible refine CU (eN _) ?_)
 | (with_reducible refine CU (eV _) ?_)
 | (with_reducible refine CU (eF _) ?_)
 | (with_reducible refine aJ hQ ?_;simp only [aw,ay,cm,cq,go_sem,hD,hF,hJ,hP];repeat' (first | exact Ok.out | with_reducible refine aI ?_ ?_ | (simp;done))))
   refine dc 2 0 (bk.ind (ι:=List Pm×Nat×Int) (fun i=>f.params.drop i.2.1=i.1∧gS i.1 i.2.2=M∧(i.2.1:Int)≤i.2.2∧i.2.2≤20001) (fun i=>i.1.length)
    (fun i=> [(1, .ptr 0 0),(3, .int .i64 i.2.2),(4, .int .i64 (k:Int)),(5, .ptr 1 0),(6, .int .i64 (i.2.1:Int))]) (fun i=>⟨[bX p,bR f],[]⟩) ?_ (f.params,0,C) ⟨rfl,hM,by dsimp only;omega,e1⟩)
   rintro⟨ms,j,e⟩ ⟨k1,hw,k3,k4⟩ xp
   dsimp only at k1 hw k3 k4
   cases ms with
   | nil=>
    have hD:=drop_nil k1
    simp only [gS]at hw
    subst hw
    repeat' (first
 | simp only [go_sem,hD,hF,hJ,hP,w3]
 | (with_reducible refine CU (eT _) ?_)
 | (with_reducible refine aJ hQ ?_;simp only [aw,ay,cm,cq,go_sem,hD,hF,hJ,hP];repeat' (first | exact Ok.out | with_reducible refine aI ?_ ?_ | (simp;done))))
    refine dc 1 0 (IH (rest,k+1,dS f.body e) ⟨g2,hp,by dsimp only;omega,r1⟩ (Nat.lt_succ_self _))
   | cons a ms=>
    obtain⟨hF,k2,hD,k5⟩:=drop_cons k1
    simp only [gS]at hw
    by_cases he:e≤20000
    ·have e1:decide (e≤20000)=true:=by simp;omega
     have w4:IntKind.wrap .i64 ((j:Int)+1)=((j+1:Nat):Int):=by rw [c7] <;> omega
     rw [if_pos he]at hw
     obtain⟨v1,v2,v3⟩:=iz (t:=a.name) (n:=e) (by omega) k4
     have v4:=(jr (t:=a.name) (n:=e) (by omega)).2.1 he
     have eM:=fun s=>mJ a.name (n:=e) (by omega) k4 s
     repeat' (first
 | simp only [go_sem,hD,hF,hJ,hP,e1,w4]
 | (with_reducible refine CU (eM _) ?_)
 | (with_reducible refine aJ hQ ?_;simp only [aw,ay,cm,cq,go_sem,hD,hF,hJ,hP];repeat' (first | exact Ok.out | with_reducible refine aI ?_ ?_ | (simp;done))))
     refine dc 2 0 (xp (ms,j+1,bM a.name e) ⟨k2,hw,by dsimp only;omega,v2⟩ (Nat.lt_succ_self _))
    ·have e1:decide (e≤20000)=false:=by simp;omega
     rw [if_neg he]at hw
     subst hw
     repeat' (first
 | simp only [go_sem,hD,hF,hJ,hP,e1,w3]
 | (with_reducible refine CU (eT _) ?_)
 | (with_reducible first | refine cR fun hc=> ?_ | refine cT fun hc=> ?_ | refine cU (fun hc=> ?_) fun hc=> ?_) <;> (try simp only [hc,bs, ↓reduceIte]at h) <;> try simp only [hc]
 | (with_reducible refine aJ hQ ?_;simp only [aw,ay,cm,cq,go_sem,hD,hF,hJ,hP,e1,w3];repeat' (first | exact Ok.out | with_reducible refine aI ?_ ?_ | (simp;done))))
     refine dc 1 0 (IH (rest,k+1,dS f.body e) ⟨g2,hp,by dsimp only;omega,r1⟩ (Nat.lt_succ_self _))
  ·have c1:decide (c≤20000)=false:=by simp;omega
   rw [if_neg hc]at hp
   subst hp
   repeat' (first
 | simp only [go_sem,hD,hF,hJ,hP,c1]
 | (with_reducible first | refine cR fun hc=> ?_ | refine cT fun hc=> ?_ | refine cU (fun hc=> ?_) fun hc=> ?_) <;> (try simp only [hc,bs, ↓reduceIte]at h) <;> try simp only [hc]
 | (with_reducible refine aJ hQ ?_;simp only [aw,ay,cm,cq,go_sem,hD,hF,hJ,hP,c1];repeat' (first | exact Ok.out | with_reducible refine aI ?_ ?_ | (simp;done))))
end Go.Abs

/-! MirEq -/

namespace Go.Abs
def QC:List aA→List aA→Bool
 | [],_=>true
 | _::_,[]=>true
 | x::l,y::l'=>if !(x==y)then false else QC l l'
def Mi (l l':List aA):Bool:=if(l.length:Int) != (l'.length:Int)then false else QC l l'
def Ar.lO:List Ar→List Ar→Bool
 | [],_=>true
 | _::_,[]=>true
 | a::l,b::l'=>if !(a.ref==b.ref) || !(a.name==b.name) || !(Ex.beq a.x b.x)then false else Ar.lO l l'
mutual
def Sm.beq:Sm→Sm→Bool
 | ⟨id,kind,labels,name,proc,x,has,args,a7,aU⟩,⟨id',Sz,NB,Fm,SA,x',Wq,wZ,QD,QE⟩=>
  if id != id' || kind != Sz || !(name==Fm) || !(proc==SA) || !(has==Wq) || !(Mi labels NB) || !(Ex.beq x x') || (args.length:Int) != (wZ.length:Int)then false
  else if !(Ar.lO args wZ)then false
  else if(if(a7.length:Int) != (QD.length:Int)then false else Sm.lO a7 QD)then(if(aU.length:Int) != (QE.length:Int)then false else Sm.lO aU QE)else false
def Sm.lO:List Sm→List Sm→Bool
 | [],_=>true
 | _::_,[]=>true
 | s::l,t::l'=>if !(Sm.beq s t)then false else Sm.lO l l'
end
def Sm.Wr (l l':List Sm):Bool:=if(l.length:Int) != (l'.length:Int)then false else Sm.lO l l'
def Pm.lO:List Pm→List Pm→Bool
 | [],_=>true
 | _::_,[]=>true
 | a::l,b::l'=>if !((a.name==b.name) && (a.ref==b.ref))then false else Pm.lO l l'
def Pc.lO:List Pc→List Pc→Bool
 | [],_=>true
 | _::_,[]=>true
 | f::l,g::l'=>
  if !(f.name==g.name) || (f.params.length:Int) != (g.params.length:Int) || !(Mi f.vars g.vars) || !(Mi f.fin g.fin) || !(Sm.Wr f.body g.body)then false
  else if !(Pm.lO f.params g.params)then false else Pc.lO l l'
def Pg.beq (p q:Pg):Bool:=if !(Mi p.globals q.globals) || (p.procs.length:Int) != (q.procs.length:Int)then false else Pc.lO p.procs q.procs
end Go.Abs

/-! RefEq -/

namespace Go.Abs
set_option maxRecDepth 8000
open Go.Proofs
end Go.Abs

/-! RefEq2 -/

namespace Go.Abs
set_option maxRecDepth 8000
open Go.Proofs
def vi (n:Int):Ex:=⟨1,n,[],[]⟩
def nO (s:aA):Ex:=⟨2,0,s,[]⟩
def xJ (op:Int) (a b:Ex):Ex:=⟨op,0,[],[a,b]⟩
theorem SB (n:Int) (s:St):aG Tryz.prog nn [.int .i64 n] s (.agg (bj (vi n))) s:=by
 refine aG.pure ?_ rfl (by simp [D.ok,fZ]) s
 unfold S0
 refine aG.go BF rfl fun B Q hB hQ=> ?_
 have⟨hD,hF,hJ,hP⟩:=bP
 repeat' (first
 | simp only [go_sem,hD,hF,hJ,hP,vi]
 | (with_reducible first | refine cR fun hc=> ?_ | refine cT fun hc=> ?_ | refine cU (fun hc=> ?_) fun hc=> ?_) <;> (try simp only [hc,bs, ↓reduceIte]at h) <;> try simp only [hc]
 | (with_reducible refine aJ hQ ?_;simp only [aw,ay,cm,cq,go_sem,hD,hF,hJ,hP,vi];repeat' (first | exact Ok.out | with_reducible refine aI ?_ ?_ | (simp;done))))
theorem FI (t:aA) (s:St):aG Tryz.prog ix [.str t] s (.agg (bj (nO t))) s:=by
 refine aG.pure ?_ rfl (by simp [D.ok,fZ]) s
 unfold S0
 refine aG.go z7 rfl fun B Q hB hQ=> ?_
 have⟨hD,hF,hJ,hP⟩:=bP
 repeat' (first
 | simp only [go_sem,hD,hF,hJ,hP,nO]
 | (with_reducible first | refine cR fun hc=> ?_ | refine cT fun hc=> ?_ | refine cU (fun hc=> ?_) fun hc=> ?_) <;> (try simp only [hc,bs, ↓reduceIte]at h) <;> try simp only [hc]
 | (with_reducible refine aJ hQ ?_;simp only [aw,ay,cm,cq,go_sem,hD,hF,hJ,hP,nO];repeat' (first | exact Ok.out | with_reducible refine aI ?_ ?_ | (simp;done))))
theorem Ig (op:Int) (a b:Ex) (s:St):aG Tryz.prog pF [.int .i64 op, .agg (bj a), .agg (bj b)] s (.agg (bj (xJ op a b))) s:=by
 refine aG.pure ?_ (by simp [D.bG,D.ok,fZ]) (by simp [D.ok,fZ]) s
 unfold S0
 refine aG.go BG rfl fun B Q hB hQ=> ?_
 have⟨hD,hF,hJ,hP⟩:=bP
 repeat' (first
 | simp only [go_sem,hD,hF,hJ,hP,xJ]
 | (with_reducible first | refine cR fun hc=> ?_ | refine cT fun hc=> ?_ | refine cU (fun hc=> ?_) fun hc=> ?_) <;> (try simp only [hc,bs, ↓reduceIte]at h) <;> try simp only [hc]
 | (with_reducible refine aJ hQ ?_;simp only [aw,ay,cm,cq,go_sem,hD,hF,hJ,hP,xJ];repeat' (first | exact Ok.out | with_reducible refine aI ?_ ?_ | (simp;done))))
def source:aA:= [103,108,111,98,97,108,32,103,59,10,112,114,111,99,32,109,97,105,110,40,41,32,123,10,32,118,97,114,32,118,59,10,32,118,32,61,32,50,59,10,32,103,32,61,32,112,40,51,44,32,114,101,102,32,118,41,59,10,32,112,114,105,110,116,32,118,59,10,32,112,114,105,110,116,32,103,59,10,125,10,112,114,111,99,32,112,40,120,44,32,114,101,102,32,121,41,32,123,10,32,121,32,61,32,121,32,43,32,120,59,10,32,105,102,32,40,121,32,62,32,57,41,32,123,10,32,32,103,111,116,111,32,101,59,10,32,125,10,32,114,101,116,117,114,110,32,121,59,10,101,58,32,125,10]
def nP:Pg:=⟨[[103]],[
 ⟨[109,97,105,110],[],[[118]],[
  ⟨1,1,[],[118],[],vi 2,false,[],[],[]⟩,
  ⟨2,4,[],[103],[112],mP,false,[⟨false,[],vi 3⟩,⟨true,[118],mP⟩],[],[]⟩,
  ⟨3,3,[],[],[],nO [118],false,[],[],[]⟩,
  ⟨4,3,[],[],[],nO [103],false,[],[],[]⟩],[]⟩,
 ⟨[112],[⟨[120],false⟩,⟨[121],true⟩],[],[
  ⟨5,1,[],[121],[],xJ 8 (nO [121]) (nO [120]),false,[],[],[]⟩,
  ⟨6,5,[],[],[],xJ 12 (nO [121]) (vi 9),false,[],[⟨7,10,[],[101],[],mP,false,[],[],[]⟩],[]⟩,
  ⟨8,9,[],[],[],nO [121],true,[],[],[]⟩],[[101]]⟩]⟩
theorem QF (s:St):aG Tryz.prog rm [] s (.agg (bX nP)) s:=by
 refine aG.pure ?_ rfl (by simp [D.ok,kN]) s
 unfold S0
 refine aG.go zZ rfl fun B Q hB hQ=> ?_
 have⟨hD,hF,hJ,hP⟩:=bP
 repeat' (first
 | simp only [go_sem,hD,hF,hJ,hP,nP]
 | (with_reducible refine CU (SB _ _) ?_)
 | (with_reducible refine CU (FI _ _) ?_)
 | (with_reducible refine CU (Ig _ _ _ _) ?_)
 | (with_reducible refine aJ hQ ?_;simp only [aw,ay,Option.some.injEq,exists_eq_left',go_sem,hD,hF,hJ,hP];repeat' (first | exact Ok.out | with_reducible refine aI ?_ ?_ | (simp;done))))
 repeat' (first | exact Ok.out | with_reducible refine Wk.agg ?_ | with_reducible refine Wk.rows ?_ | with_reducible refine Wk.slice ?_ | with_reducible refine fT.cons ?_ ?_ | with_reducible refine jR.cons ?_ ?_)
end Go.Abs

/-! Prs3 -/

namespace Go.Abs
open Go.Proofs
end Go.Abs

/-! Prs4 -/

namespace Go.Abs
open Go.Proofs
end Go.Abs

/-! Prs5 -/

namespace Go.Abs
open Go.Proofs
end Go.Abs

/-! Prs6 -/

namespace Go.Abs
open Go.Proofs
end Go.Abs

/-! Lex3 -/

namespace Go.Abs
open Go.Proofs
end Go.Abs

/-! MirParse -/

namespace Go.Abs
def TE (l:List lZ):Rd:=⟨l,0,0,0,0⟩
def ac2 (m:Nat) (text:aA):Option (Pg×Int×Int):=
 if(sb text).2.1 != 0 then some (LI,(sb text).2)
 else(Rd.program m (TE (sb text).1)).bind fun p=>if p.2.code != 0 then some (LI,p.2.code,p.2.Bw)else(p.1.rW).bind fun q=>some (q,0,0)
def ady (m:Nat) (text:aA):Option (Ex×Int×Int):=
 if(sb text).2.1 != 0 then some (mP,(sb text).2)
 else(Rd.whole m (TE (sb text).1)).bind fun x=>x.2.Hl.bind fun b=>
  if b then(x.2.bad 3).bind fun r=>if !r.good then some (mP,r.code,r.Bw)else some (x.1,0,0)
  else if !x.2.good then some (mP,x.2.code,x.2.Bw)else some (x.1,0,0)
end Go.Abs

/-! Prs7 -/

namespace Go.Abs
open Go.Proofs
end Go.Abs

/-! Room1 -/

namespace Go.Abs
set_option maxRecDepth 8000
open Go.Proofs
def sW (n k:Int):Int:=if Int.tmod n k<0 then Int.tmod n k+k else Int.tmod n k
theorem NC (n:Int) {k:Int} (hk:1≤k):0≤sW n k∧sW n k<k:=by
 unfold sW
 have h1:=Int.tmod_lt_of_pos n (by omega:0<k)
 have h2:=Int.lt_tmod_of_pos n (by omega:0<k)
 split <;> omega
theorem SC (n:Int) {k:Int} (hk:1≤k) (bq:k<1000000) (s:St):aG Tryz.prog sH [.int .i64 n, .int .i64 k] s (.int .i64 (sW n k)) s:=by
 refine aG.pure ?_ rfl rfl s
 have h1:=Int.tmod_lt_of_pos n (by omega:0<k)
 have h2:=Int.lt_tmod_of_pos n (by omega:0<k)
 have c1:decide (k<1)=false:=by simp;omega
 have w1:IntKind.wrap .i64 (Int.tmod n k)=Int.tmod n k:=c7 (by omega) (by omega)
 have w2:IntKind.wrap .i64 (Int.tmod n k+k)=Int.tmod n k+k:=c7 (by omega) (by omega)
 have k0:(k=0)=False:=by simp;omega
 unfold S0
 by_cases hm:Int.tmod n k<0
 ·have c2:decide (Int.tmod n k<0)=true:=by simp;omega
  rw [show sW n k=Int.tmod n k+k from if_pos hm]
  refine aG.go uA rfl fun B Q hB hQ=> ?_
  have⟨hD,hF,hJ,hP⟩:=bP
  repeat' (first
 | simp only [go_sem,hD,hF,hJ,hP,c1,c2,w1,w2,k0]
 | (with_reducible refine aJ hQ ?_;simp only [aw,ay,Option.some.injEq,exists_eq_left',go_sem,hD,hF,hJ,hP];repeat' (first | exact Ok.out | with_reducible refine aI ?_ ?_ | (simp;done))))
 ·have c2:decide (Int.tmod n k<0)=false:=by simp;omega
  rw [show sW n k=Int.tmod n k from if_neg hm]
  refine aG.go uA rfl fun B Q hB hQ=> ?_
  have⟨hD,hF,hJ,hP⟩:=bP
  repeat' (first
 | simp only [go_sem,hD,hF,hJ,hP,c1,c2,w1,w2,k0]
 | (with_reducible refine aJ hQ ?_;simp only [aw,ay,Option.some.injEq,exists_eq_left',go_sem,hD,hF,hJ,hP];repeat' (first | exact Ok.out | with_reducible refine aI ?_ ?_ | (simp;done))))
def SD (t:aA):Nat→aA
 | 0=> []
 | n+1=>SD t n++t
def two (i:Nat):aA:= [UInt8.ofNat (48+i / 10),UInt8.ofNat (48+i % 10)]
def QG (ahead:aA):Nat→aA
 | 0=> []
 | n+1=>(if n=0 then QG ahead n else QG ahead n++ [44])++(ahead++ [97]++two n)
def QH:Nat→aA
 | 0=> []
 | n+1=>QH n++([112,114,111,99,32,112]++two n++ [40,41,123,125])
end Go.Abs

/-! LawTo1 -/

namespace Go.Abs
set_option maxRecDepth 8000
open Go.Proofs
theorem Ih:nP.may=true:=by decide +kernel
theorem yz:nP.l9:=⟨H3 Ih (by decide +kernel),by decide +kernel⟩
theorem KS:(nP.jE [109,97,105,110]).length=2:=by decide +kernel
theorem Ii:(nP.ma [109,97,105,110]).length=1:=by decide +kernel
theorem FJ:(nP.ic [112]).length=0:=by decide +kernel
theorem FK (s:St):aG Tryz.prog ni [] s (.bool true) s:=by
 refine aG.pure ?_ rfl rfl s
 have hS:=fun s=>QF s
 have h1:=fun s=>vK yz [109,97,105,110] s
 have h2:=fun s=>zJ yz [109,97,105,110] s
 have h3:=fun s=>tu yz [112] s
 have e1:=KS
 have e2:=Ii
 have e3:=FJ
 generalize nP.jE [109,97,105,110] = a1 at *
 generalize nP.ma [109,97,105,110] = a2 at *
 generalize nP.ic [112] = a3 at *
 generalize nP=P at *
 have e1:((a1.length:Int)==2)=true:=by rw [e1];rfl
 have e2:((a2.length:Int)==1)=true:=by rw [e2];rfl
 have e3:((a3.length:Int)==0)=true:=by rw [e3];rfl
 unfold S0
 refine aG.go vm rfl fun B Q hB hQ=> ?_
 have⟨hD,hF,hJ,hP⟩:=bP
 repeat' (first
 | simp only [go_sem,hD,hF,hJ,hP,e1,e2,e3]
 | (with_reducible refine CU (hS _) ?_)
 | (with_reducible refine CU (h1 _) ?_)
 | (with_reducible refine CU (h2 _) ?_)
 | (with_reducible refine CU (h3 _) ?_)
 | (with_reducible refine aJ hQ ?_;simp only [aw,ay,Option.some.injEq,exists_eq_left',go_sem,hD,hF,hJ,hP];repeat' (first | exact Ok.out | with_reducible refine aI ?_ ?_ | (simp;done))))
def Pg.sm (p:Pg) (n:Int):aA:=match p.procs[(sW n p.procs.length).toNat]? with | some f=>f.name | none=> []
theorem KT {p:Pg} (hl:p.procs.length<1000000) (n:Int) (s:St):aG Tryz.prog o6 [.agg (bX p), .int .i64 n] s (.str (p.sm n)) s:=by
 refine aG.pure ?_ (by simp [D.bG,D.ok,kN]) rfl s
 unfold S0
 by_cases hz:p.procs.length=0
 ·have hz':p.procs = []:=List.eq_nil_of_length_eq_zero hz
  have c1:((p.procs.length:Int)==0)=true:=by rw [hz];rfl
  have e:p.sm n = []:=by unfold Pg.sm;rw [hz'];rfl
  rw [e]
  refine aG.go qG rfl fun B Q hB hQ=> ?_
  have⟨hD,hF,hJ,hP⟩:=bP
  repeat' (first
 | simp only [go_sem,hD,hF,hJ,hP,c1]
 | (with_reducible refine aJ hQ ?_;simp only [aw,ay,Option.some.injEq,exists_eq_left',go_sem,hD,hF,hJ,hP];repeat' (first | exact Ok.out | with_reducible refine aI ?_ ?_ | (simp;done))))
 ·have c1:((p.procs.length:Int)==0)=false:=by simp only [beq_eq_false_iff_ne,ne_eq];omega
  have hk:=NC n (k:=(p.procs.length:Int)) (by omega)
  have hm:=fun s=>SC n (k:=(p.procs.length:Int)) (by omega) (by omega) s
  obtain⟨j,hj⟩ : ∃ j:Nat,sW n p.procs.length=(j:Int):=⟨(sW n p.procs.length).toNat,(Int.toNat_of_nonneg hk.1).symm⟩
  have LF:j<p.procs.length:=by have h2:=hk.2;rw [hj]at h2;omega
  obtain⟨f,hf⟩ : ∃ f,p.procs[j]? = some f:=⟨_,List.getElem?_eq_getElem LF⟩
  have e:p.sm n=f.name:=by unfold Pg.sm;rw [hj,Int.toNat_natCast,hf]
  rw [hj]at hm
  rw [e]
  have s8:decide ((j:Int)<(p.procs.length:Int))=true:=by simp;omega
  refine aG.go qG rfl fun B Q hB hQ=> ?_
  have⟨hD,hF,hJ,hP⟩:=bP
  repeat' (first
 | simp only [go_sem,hD,hF,hJ,hP,c1,hf,s8]
 | (with_reducible refine CU (hm _) ?_)
 | (with_reducible refine aJ hQ ?_;simp only [aw,ay,Option.some.injEq,exists_eq_left',go_sem,hD,hF,hJ,hP];repeat' (first | exact Ok.out | with_reducible refine aI ?_ ?_ | (simp;done))))
theorem KU (l:List aA):(gK l).length≤l.length:=qX _ _ (nJ (fE l).1) fun x m=>((fE l).2 x).1 m
theorem FL {p:Pg} (h:p.l9) (nm:aA):(p.ic nm).length≤900000:=by
 unfold Pg.ic
 cases hs:p.lT nm with
 | none=>exact Nat.zero_le _
 | some f=>
  obtain⟨jG,hf⟩:=ly hs
  have h1:Good p f.calls:=⟨nJ (fE _).1,fun y m=>rG jG (iO hf).1 m⟩
  have:=h1.len;have:=h.procs;dsimp only;omega
theorem FM {p:Pg} (h:p.l9) (nm:aA):(p.ma nm).length≤2000000000000:=by
 unfold Pg.ma
 cases hs:p.lT nm with
 | none=>exact Nat.zero_le _
 | some f=>
  obtain⟨jG,hf⟩:=ly hs
  have h1:=(sR jG hf).len
  have h2:=h.procs
  have h3:=(sQ h (gK (p.work nm)) []).2
  have h4:(gK (p.work nm)).length*1800000≤900000*1800000:=Nat.mul_le_mul_right _ (by omega)
  have h5:=KU (p.oj nm)
  dsimp only
  unfold Pg.oj at *
  simp only [List.length_nil]at h3
  omega
end Go.Abs

/-! LawTo2 -/

namespace Go.Abs
set_option maxRecDepth 8000
open Go.Proofs
theorem QI {l nx:List aA} {n m:Nat} (hn:n=l.length) (h:l.length+nx.length≤10000000000) {g:Tag} (o:List (List D)) :
 fY 1 16 (.slice (.tok 0) 1 (l.map encStr)) (.slice g 1 (nx.map encStr)) ⟨o,[some n,some m]⟩=some (.slice (.tok 0) 1 ((l++nx).map encStr),⟨o,[some (l++nx).length,some m]⟩):=by
 subst hn
 have:=wb (size:=1) (bytes:=16) (t:=0) (rows:=l.map encStr) (new:=nx.map encStr) (g:=g) (s:=⟨o,[some l.length,some m]⟩) (by simp only [List.length_map];unfold bb;omega) (by simp)
 rw [this]
 simp
theorem QJ {l nx:List aA} {n m:Nat} (hn:n=l.length) (h:l.length+nx.length≤10000000000) {g:Tag} (o:List (List D)) :
 fY 1 16 (.slice (.tok 1) 1 (l.map encStr)) (.slice g 1 (nx.map encStr)) ⟨o,[some m,some n]⟩=some (.slice (.tok 1) 1 ((l++nx).map encStr),⟨o,[some m,some (l++nx).length]⟩):=by
 subst hn
 have:=wb (size:=1) (bytes:=16) (t:=1) (rows:=l.map encStr) (new:=nx.map encStr) (g:=g) (s:=⟨o,[some m,some l.length]⟩) (by simp only [List.length_map];unfold bb;omega) (by simp)
 rw [this]
 simp
def iF (p:Pg):List aA→List aA
 | []=> []
 | n::l=>p.ic n++iF p l
theorem vM {p:Pg} {x:aA} : ∀ {l:List aA},x∈iF p l↔∃ n∈l,x∈p.ic n
 | []=>by simp [iF]
 | n::l=>by simp [iF,vM (l:=l)]
theorem uV : ∀ l:List Sm,(mr l).length=iT l
 | []=>rfl
 | v::l=>by simp [mr,iT,uV l]
theorem zP {p:Pg} (h:p.l9) (n:aA):iT (jq p n)≤1800000:=by
 unfold jq
 split
 ·rename_i f hf
  have:=nL f.body
  have h4:=Pc.bA (iO hf).1
  have h5:=h.procs.2.1
  simp only [Pc.size]at h4
  omega
 ·simp [iT]
def sn (a:aA) (called:List aA):List aA→Bool
 | []=>true
 | b::l=>if b != a && !(dK called b)then false else sn a called l
theorem xK {a:aA} {called:List aA} : ∀ {l:List aA},(∀ b∈l,b=a∨b∈called)→sn a called l=true
 | [],_=>rfl
 | b::l,h=>by
  simp only [sn]
  rw [if_neg,xK fun x m=>h x (List.mem_cons_of_mem _ m)]
  rcases h b (List.mem_cons_self ..)with e | e
  ·simp [e]
  ·simp [(gd _ _).2 e]
theorem yA (p:Pg) (n:Int) (s:St):aG Tryz.prog pk [.agg (bX p), .int .i64 n] s (.bool true) s:=by
 refine aG.pure ?_ (by simp [D.bG,D.ok,kN]) rfl s
 have h1:=fun s=>FK s
 have h2:=fun s=>QB p s
 unfold S0
 rcases Bool.eq_false_or_eq_true (decide (p.vh≤20000))with hw | hw
 case inr=>
  simp only [hw]at h2
  refine aG.go kP rfl fun B Q hB hQ=> ?_
  have⟨hD,hF,hJ,hP⟩:=bP
  repeat' (first
 | simp only [go_sem,hD,hF,hJ,hP]
 | (with_reducible refine CU (h1 _) ?_)
 | (with_reducible refine CU (h2 _) ?_)
 | (with_reducible refine aJ hQ ?_;simp only [aw,ay,cm,cq,go_sem,hD,hF,hJ,hP];repeat' (first | exact Ok.out | with_reducible refine aI ?_ ?_ | (simp;done))))
 simp only [hw]at h2
 obtain⟨dI,SE⟩:=FH (of_decide_eq_true hw)
 have ho:p.l9:=⟨SE,by omega⟩
 obtain⟨rQ,qR,vG⟩:=ho.procs
 have h3:=fun s=>KT (p:=p) (by omega) n s
 have h4:=fun s=>B0 ho s
 have b0:(p.scope.1 != 0) = !(p.scope.1==0):=rfl
 rcases Bool.eq_false_or_eq_true (p.scope.1==0)with jG | jG
 case inr=>
  rw [jG]at b0
  refine aG.go kP rfl fun B Q hB hQ=> ?_
  have⟨hD,hF,hJ,hP⟩:=bP
  repeat' (first
 | simp only [go_sem,hD,hF,hJ,hP,b0,Bool.not_false]
 | (with_reducible refine CU (h1 _) ?_)
 | (with_reducible refine CU (h2 _) ?_)
 | (with_reducible refine CU (h4 _) ?_)
 | (with_reducible refine aJ hQ ?_;simp only [aw,ay,cm,cq,go_sem,hD,hF,hJ,hP];repeat' (first | exact Ok.out | with_reducible refine aI ?_ ?_ | (simp;done))))
 rw [jG]at b0
 obtain⟨a,ha⟩ : ∃ a,p.sm n=a:=⟨_,rfl⟩
 rw [ha]at h3
 have h5:=fun s=>vK ho a s
 have h6:=fun s=>zJ ho a s
 obtain⟨L,hL⟩ : ∃ L,p.jE a=L:=⟨_,rfl⟩
 obtain⟨G,hG⟩ : ∃ G,p.ma a=G:=⟨_,rfl⟩
 have hb:=zv jG
 -- what is there
 have hLg : ∀ b∈L,∃ f,p.find b=some f:=fun b m=>by
  rw [← hL]at m
  unfold Pg.jE at m
  split at m
  ·rename_i f hs
   exact(sR jG (ly hs).2).2 b m
  ·cases m
 have QK:L.length≤16:=by
  have h1:=zI hb
  rw [← hL];unfold Pg.jE
  split
  ·rename_i f hs
   have:=(sR jG (ly hs).2).len
   omega
  ·exact Nat.zero_le _
 have hcm:=fun b=>FL ho b
 have hGl:G.length<4611686018427387904:=by have:=FM ho a;rw [hG]at this;omega
 have QL:sn a (iF p L) L=true:=xK fun b m=>by
  rw [← hL]at m
  unfold Pg.jE at m
  split at m
  ·rename_i f hs
   rw [(fE _).2]at m
   rcases vL (a:=a) (p.procs.length+1) 0 [a] (fun x hx=> .inl (by simpa using hx)) b m with e | ⟨z,h1,h2⟩
   ·exact .inl e
   ·refine .inr (vM.2 ⟨z, ?_,by rw [KR jG];exact h2⟩)
    rw [← hL,Dq hs];exact h1
  ·cases m
 have Wt:(G.all fun x=>dK (gL p L) x)=true:=by
  rw [List.all_eq_true]
  intro x m
  rw [gd,uU]
  rw [← hG]at m
  cases hs:p.lT a with
  | none=>unfold Pg.ma at m;rw [hs]at m;cases m
  | some f=>
   obtain⟨n,h1,h2⟩:=((Ib hs).1 m).1
   exact⟨n,by rw [← hL,Dq hs];exact h1,h2⟩
 have KV:=fun g s=>KQ (a:=G) (b:=gL p L) hGl (by
  have : ∀ l:List aA,(gL p l).length≤l.length*1800000:=by
   intro l
   induction l with
   | nil=>simp [gL]
   | cons b l ih=>have:=zP ho b;simp only [gL,List.length_append,uV,List.length_cons];omega
  have:=this L
  have:L.length*1800000≤16*1800000:=Nat.mul_le_mul_right _ QK
  omega) g s
 rw [hL]at h5
 rw [hG]at h6
 rw [Wt]at KV
 obtain⟨C,hC⟩ : ∃ C,iF p L=C:=⟨_,rfl⟩
 obtain⟨W,hW⟩ : ∃ W,gL p L=W:=⟨_,rfl⟩
 rw [hC]at QL
 rw [hW]at KV
 have hCl:C.length≤16000000:=by
  rw [← hC]
  have : ∀ l:List aA,(iF p l).length≤l.length*900000:=by
   intro l
   induction l with
   | nil=>simp [iF]
   | cons b l ih=>have:=hcm b;simp only [iF,List.length_append,List.length_cons];omega
  have:=this L
  have:L.length*900000≤16*900000:=Nat.mul_le_mul_right _ QK
  omega
 have hWl:W.length≤30000000:=by
  rw [← hW]
  have : ∀ l:List aA,(gL p l).length≤l.length*1800000:=by
   intro l
   induction l with
   | nil=>simp [gL]
   | cons b l ih=>have:=zP ho b;simp only [gL,List.length_append,uV,List.length_cons];omega
  have:=this L
  have:L.length*1800000≤16*1800000:=Nat.mul_le_mul_right _ QK
  omega
 have Wu:=fun x g s=>Qg (l:=C) (by omega) x g s
 refine aG.go kP rfl fun B Q hB hQ=> ?_
 have⟨hD,hF,hJ,hP⟩:=bP
 repeat' (first
 | simp only [go_sem,hD,hF,hJ,hP,b0,Bool.not_true]
 | (with_reducible refine CU (h1 _) ?_)
 | (with_reducible refine CU (h2 _) ?_)
 | (with_reducible refine CU (h3 _) ?_)
 | (with_reducible refine CU (h4 _) ?_)
 | (with_reducible refine CU (h5 _) ?_)
 | (with_reducible refine aJ hQ ?_;simp only [aw,ay,cm,cq,go_sem,hD,hF,hJ,hP];repeat' (first | exact Ok.out | with_reducible refine aI ?_ ?_ | (simp;done))))
 refine bk.ng 7 1 rfl ?_
 simp only [go_sem,hD,hF,hJ,hP]
 refine bk.ng 8 1 rfl ?_
 simp only [go_sem,hD,hF,hJ,hP]
 refine dc 1 2 (bk.ind (ι:=List aA×Nat×List aA×List aA×Nat×Nat) (fun i=>L.drop i.2.1=i.1∧i.2.2.1++iF p i.1=C∧i.2.2.2.1++gL p i.1=W∧i.2.2.2.2.1=i.2.2.1.length∧i.2.2.2.2.2=i.2.2.2.1.length) (fun i=>i.1.length)
  (fun i=> [(2, .ptr 0 0),(5, .str a),(6, .slice .shared 1 (L.map encStr)),(7, .slice (.tok 0) 1 (i.2.2.1.map encStr)),(8, .slice (.tok 1) 1 (i.2.2.2.1.map encStr)),(32, .slice .shared 1 (L.map encStr)),(33, .int .i64 (L.length:Int)),(34, .int .i64 (i.2.1:Int))]) (fun i=>⟨[bX p],[some i.2.2.2.2.1,some i.2.2.2.2.2]⟩) ?_ (L,0,[],[],0,0) ⟨rfl,hC,hW,rfl,rfl⟩)
 rintro⟨rest,k,o1,o2,n1,n2⟩ ⟨j1,j2,j3,j4,j5⟩ IH
 dsimp only at j1 j2 j3 j4 j5
 subst j4 j5
 have zf:=congrArg List.length j2
 have jQ:=congrArg List.length j3
 rw [List.length_append]at zf jQ
 cases rest with
 | cons b rest=>
  obtain⟨hF,g2,hD,g4⟩:=drop_cons j1
  have bq:k<4611686018427387904:=by omega
  obtain⟨f,hf⟩:=hLg b (List.mem_of_getElem? hF)
  have Lk:=fun s=>tu ho b s
  have TF:=fun s=>NA ho b s
  simp only [hb,if_true,hf,kI,Option.getD_some,Option.isSome_some]at TF
  have mL:=fun s=>P8 (f:=f) (by have:=Pc.bA (iO hf).1;unfold Pc.size at this;omega) s
  have ad5:=Pc.Kn f
  have BN:=(BY hb).1 f (iO hf).1
  simp only [iF,gL]at j2 j3
  have hbo:jq p b=f.flat.map It.s:=by unfold jq;rw [hf,BN]
  simp only [iF,gL,List.length_append]at zf jQ
  rw [hbo]at j3
  have cP:=QI (l:=o1) (nx:=p.ic b) (m:=o2.length) rfl (by omega) (g:= .shared)
  repeat' (first
 | simp only [go_sem,hD,hF,hJ,hP,cP]
 | (with_reducible refine CU (Lk _) ?_)
 | (with_reducible refine CU (TF _) ?_)
 | (with_reducible refine CU (mL _) ?_)
 | (with_reducible refine aJ hQ ?_;simp only [aw,ay,cm,cq,go_sem,hD,hF,hJ,hP];repeat' (first | exact Ok.out | with_reducible refine aI ?_ ?_ | (simp;done))))
  refine dc 2 2 (bk.ind (ι:=List It×Nat×List aA×Nat) (fun i=>f.flat.drop i.2.1=i.1∧i.2.2.1++(mr (i.1.map It.s)++gL p rest)=W∧i.2.2.2=i.2.2.1.length) (fun i=>i.1.length)
   (fun i=> [(2, .ptr 0 0),(5, .str a),(6, .slice .shared 1 (L.map encStr)),(7, .slice (.tok 0) 1 ((o1++p.ic b).map encStr)),(8, .slice (.tok 1) 1 (i.2.2.1.map encStr)),(32, .slice .shared 1 (L.map encStr)),(33, .int .i64 (L.length:Int)),(34, .int .i64 (k:Int)),
    (50, .slice .shared 16 (f.flat.map fy)),(51, .int .i64 (f.flat.length:Int)),(52, .int .i64 (i.2.1:Int))]) (fun i=>⟨[bX p,bR f],[some (o1.length+(p.ic b).length),some i.2.2.2]⟩) ?_ (f.flat,0,o2,o2.length) ⟨rfl,j3,rfl⟩)
  clear j3
  rintro⟨qY,k2,BR,n2'⟩ ⟨i1,i2,i3⟩ xp
  dsimp only at i1 i2 i3
  subst i3
  cases qY with
  | nil=>
   have Wv:=drop_nil i1
   simp only [List.map_nil,mr,List.nil_append]at i2
   repeat' (first
 | simp only [go_sem,hD,hF,hJ,hP,Wv]
 | (with_reducible refine aJ hQ ?_;simp only [aw,ay,cm,cq,go_sem,hD,hF,hJ,hP];repeat' (first | exact Ok.out | with_reducible refine aI ?_ ?_ | (simp;done))))
   refine da 1 2 ?_ ?_ (IH (rest,k+1,o1++p.ic b,BR,o1.length+(p.ic b).length,BR.length) ⟨g2,by rw [List.append_assoc];exact j2,i2,by simp,rfl⟩ (Nat.lt_succ_self _))
   ·(simp only [go_sem,hD,hF,hJ,hP,aD bq];try exact bo)
   ·(simp only [go_sem,hD,hF,hJ,hP,aD bq];try exact bo)
  | cons x qY=>
   obtain⟨oi,i4,xC,i5⟩:=drop_cons i1
   have si:k2<4611686018427387904:=by omega
   simp only [List.map_cons,mr]at i2
   have hl3:=congrArg List.length i2
   simp only [List.length_append]at hl3
   have Oy:x.s∈Sm.dW f.body:=by rw [← BN];exact List.mem_map_of_mem (List.mem_of_getElem? oi)
   have Ma:=fun s=>CH (ho.said (iO hf).1 _ Oy) s
   have Ww:=QJ (l:=BR) (nx:=x.s.said) (m:=o1.length+(p.ic b).length) rfl (by omega) (g:= .shared)
   repeat' (first
 | simp only [go_sem,hD,hF,hJ,hP,oi,xC,Ww,HA]
 | (with_reducible refine CU (Ma _) ?_)
 | (with_reducible refine aJ hQ ?_;simp only [aw,ay,cm,cq,go_sem,hD,hF,hJ,hP];repeat' (first | exact Ok.out | with_reducible refine aI ?_ ?_ | (simp;done))))
   refine da 2 2 ?_ ?_ (xp (qY,k2+1,BR++x.s.said,BR.length+x.s.said.length) ⟨i4,by rw [← i2];simp,by simp⟩ (Nat.lt_succ_self _))
   ·(simp only [go_sem,hD,hF,hJ,hP,aD si];try exact bo)
   ·(simp only [go_sem,hD,hF,hJ,hP,aD si];try exact bo)
 | nil=>
  have hD:=drop_nil j1
  simp only [iF,gL,List.append_nil]at j2 j3
  subst j2 j3
  repeat' (first
 | simp only [go_sem,hD,hF,hJ,hP]
 | (with_reducible refine aJ hQ ?_;simp only [aw,ay,cm,cq,go_sem,hD,hF,hJ,hP];repeat' (first | exact Ok.out | with_reducible refine aI ?_ ?_ | (simp;done))))
  refine dc 1 2 (bk.ind (ι:=List aA×Nat) (fun i=>L.drop i.2=i.1∧sn a o1 i.1=true) (fun i=>i.1.length)
   (fun i=> [(2, .ptr 0 0),(5, .str a),(7, .slice (.tok 0) 1 (o1.map encStr)),(8, .slice (.tok 1) 1 (o2.map encStr)),(63, .slice .shared 1 (L.map encStr)),(64, .int .i64 (L.length:Int)),(65, .int .i64 (i.2:Int))]) (fun i=>⟨[bX p],[some o1.length,some o2.length]⟩) ?_ (L,0) ⟨rfl,QL⟩)
  rintro⟨rest,k⟩ ⟨i1,i2⟩ IH
  dsimp only at i1 i2
  cases rest with
  | nil=>
   have hD:=drop_nil i1
   repeat' (first
 | simp only [go_sem,hD,hF,hJ,hP]
 | (with_reducible refine CU (h6 _) ?_)
 | (with_reducible refine CU (KV _ _) ?_)
 | (with_reducible refine aJ hQ ?_;simp only [aw,ay,cm,cq,go_sem,hD,hF,hJ,hP];repeat' (first | exact Ok.out | with_reducible refine aI ?_ ?_ | (simp;done))))
  | cons b rest=>
   obtain⟨hF,g2,hD,g4⟩:=drop_cons i1
   have bq:k<4611686018427387904:=by omega
   simp only [sn]at i2
   have b6:(b != a) = !(b==a):=rfl
   rcases Bool.eq_false_or_eq_true (b==a)with c1 | c1
   ·rw [c1]at b6
    simp only [b6,Bool.not_true,Bool.false_and,Bool.false_eq_true,if_false]at i2
    repeat' (first
 | simp only [go_sem,hD,hF,hJ,hP,b6,Bool.not_true]
 | (with_reducible first | refine cR fun hc=> ?_ | refine cT fun hc=> ?_ | refine cU (fun hc=> ?_) fun hc=> ?_) <;> (try simp only [hc,bs, ↓reduceIte]at h) <;> try simp only [hc]
 | (with_reducible refine aJ hQ ?_;simp only [aw,ay,cm,cq,go_sem,hD,hF,hJ,hP];repeat' (first | exact Ok.out | with_reducible refine aI ?_ ?_ | (simp;done))))
    refine da 1 2 ?_ ?_ (IH (rest,k+1) ⟨g2,i2⟩ (Nat.lt_succ_self _))
    ·(simp only [go_sem,hD,hF,hJ,hP,aD bq];try exact bo)
    ·(simp only [go_sem,hD,hF,hJ,hP,aD bq];try exact bo)
   ·rw [c1]at b6
    rcases Bool.eq_false_or_eq_true (dK o1 b)with c2 | c2
    ·simp only [b6,c2,Bool.not_true,Bool.and_false,Bool.false_eq_true,if_false]at i2
     repeat' (first
 | simp only [go_sem,hD,hF,hJ,hP,b6,c2,Bool.not_false]
 | (with_reducible refine CU (Wu _ _ _) ?_)
 | (with_reducible first | refine cR fun hc=> ?_ | refine cT fun hc=> ?_ | refine cU (fun hc=> ?_) fun hc=> ?_) <;> (try simp only [hc,bs, ↓reduceIte]at h) <;> try simp only [hc]
 | (with_reducible refine aJ hQ ?_;simp only [aw,ay,cm,cq,go_sem,hD,hF,hJ,hP];repeat' (first | exact Ok.out | with_reducible refine aI ?_ ?_ | (simp;done))))
     refine da 1 2 ?_ ?_ (IH (rest,k+1) ⟨g2,i2⟩ (Nat.lt_succ_self _))
     ·(simp only [go_sem,hD,hF,hJ,hP,aD bq];try exact bo)
     ·(simp only [go_sem,hD,hF,hJ,hP,aD bq];try exact bo)
    ·simp [b6,c2]at i2
end Go.Abs

/-! Glue2 -/

namespace Go.Abs
def M0:Map:=⟨fun _ _=>none,fun _=>(0, .any),fun _=>none⟩
def Kept (w w':World):Prop:=w.keptBut w' (fun _=>False)∧∀ a:Addr,a.block<w.heap.size→w'.frozen? a=w.frozen? a
theorem Kept.frame {w w':World} (h:Kept w w') (may:MemPlace→Prop):w.keptBut w' may:=World.keptBut_mono (fun _ f=>f.elim) h.1
theorem Ext.QM {M M':Map} {s':St} {w w':World} (e:Ext M S0 w M' s' w'):Kept w w':=by
 have hh : ∀ b,b<w.heap.size→w'.heap[b]? = w.heap[b]? :=fun b hb=>
  e.kept b hb (fun o ho=>by simp [S0]at ho) (fun t c z hl=>by obtain⟨n,hn⟩:=hl;simp [S0]at hn)
 refine⟨⟨e.os,e.output,fun i hi=> ?_⟩,fun a ha=> ?_⟩
 ·rw [hh i hi]
  exact(World.keptBut_refl w (fun _=>False)).2.2 i hi
 ·simp only [World.frozen?,hh _ ha]
theorem Wx (G:Nat→Nat→Option Value) (w:World) (h : ∀ b o v,G b o=some v→w.cell? ⟨b,o,none⟩=some v∧v.oneCell'=true):Rel ⟨G,fun _=>(0, .any),fun _=>none⟩ S0 w:=
 ⟨h,fun o ds e=>by simp [S0]at e,fun o ho=>by simp [S0]at ho,fun o o' ho=>by simp [S0]at ho,fun t n e=>by simp [S0]at e,
  fun t b c z o hl=>by obtain⟨n,hn⟩:=hl;simp [S0]at hn,fun t t' b c z c' z' hl=>by obtain⟨n,hn⟩:=hl;simp [S0]at hn⟩
def FN (w:World):Prop:=∀ g cs,NR g=some cs→∃ T fr,w.heap[g]? = some (.cells cs T fr)
theorem SG (G:Nat→Nat→Option Value) {w:World} (h:FN w):Laid ⟨G,fun _=>(0, .any),fun _=>none⟩ S0 w:=
 fun g cs hg=>⟨h g cs hg,fun o ho=>by simp [S0]at ho,fun t c z hl=>by obtain⟨n,hn⟩:=hl;simp [S0]at hn⟩
theorem Ij {P:Program} {f:FuncId} {args:List D} {eQ:Array Value} {w:World} {G:Nat→Nat→Option Value} (h:dh P f args S0 fun d _=>d = .bool true)
 (hG : ∀ b o v,G b o=some v→w.cell? ⟨b,o,none⟩=some v∧v.oneCell'=true) (hl:eQ.size=args.length)
 (ha : ∀ (i:Nat) (d:D) (v:Value),args[i]? = some d→eQ[i]? = some v→RD ⟨G,fun _=>(0, .any),fun _=>none⟩ S0 d v) (iQ:FN w) :
 Calls P f eQ w fun e w'=>e = .returned (.bool true)∧Kept w w':=by
 refine(h _ w eQ (Wx G w hG) (SG G iQ) hl ha).mono fun e w' hw=> ?_
 obtain⟨M',d,v,s',rfl,rfl,he,_,hv⟩:=hw
 rw [hv.kl]
 exact⟨rfl,he.QM⟩
section
variable {P:Program} {H:Type} {enc:TypeId×Value→H}
theorem B9 {f:Func} {s:ChangeSpec} {apart fresh handsOn again:Bool} {W W':World} {args:Array Value} {v:Value} {ds gs:List (DataW H)} {before pa pv:List MemPlace}
 (hW:DataW.Whole enc P f.params.toList s.vars apart W args.toList ds gs before)
 (QN : ∀ (b:Nat) (sp:Nat→Bool) (hd:Bool),DataW.TrodAll enc P W' b sp hd f.resultTypes.toList (v.resultList f.resultTypes.size) (s.fn H (ds++gs)).results [])
 (Am : ∀ sp:Nat→Bool,(∀ p∈before,sp p.block=true)→DataW.TrodAll enc P W' 0 sp true f.params.toList args.toList (s.fn H (ds++gs)).args pa)
 (xL : ∀ sp:Nat→Bool,(∀ p∈before,sp p.block=true)→DataW.TrodVars enc P W' sp s.vars (s.fn H (ds++gs)).vars pv)
 (qR:before=pa++pv) (hk:Kept W W')
 (yS : ∀ (j:Nat) (t:TypeId) (r:Value),f.resultTypes[j]? = some t→(v.resultList f.resultTypes.size)[j]? = some r→Value.okWide P W' .any 0 t r) :
 s.post enc P f apart fresh handsOn again W args v W':=by
 have hD : ∀ p∈before,p.block<W.heap.size:=fun p hp=>hW.lt p hp
 have hold : ∀ p∈before,(fun b=>decide (b<W.heap.size)) p.block=true:=fun p hp=>by simpa using hD p hp
 refine⟨ds,gs,before,[],pa,pv,hW,QN _ _ _,Am _ hold,xL _ hold,World.keptBut_mono (fun p hp=>⟨hp, ?_⟩) (hk.frame (· ∈before)),fun _=> ?_⟩
 ·rw [qR,List.mem_append]at hp
  exact Or.inr hp
 ·obtain⟨_,_,_,_,_,hz,hn⟩:=hW
  refine⟨yS,_,_,([]++pa)++pv,⟨[]++pa,pv,ChangeShapes.trodAll_append (Am _ (fun _ _=>rfl)) (QN _ _ _),xL _ (fun _ _=>rfl),rfl, ?_, ?_⟩, ?_⟩
  ·intro b off hp
   have kV:MemPlace.cell b off∈before:=by rw [qR];simpa using hp
   rw [hk.2 _ (hD _ kV)]
   exact hz b off kV
  ·intro ha
   have:=hn ha
   rw [qR]at this
   simpa using this
  ·intro p hp _
   rw [qR]
   simpa using hp
end
end Go.Abs

/-! Join -/

namespace Go.Abs
open Go.RowKit Go.ChangeShapes Go.WideShapes
def yC (w:World) (b o:Nat):Option Value:=
 match w.cell? ⟨b,o,none⟩with
 | some v=>if v.oneCell'=true then some v else none
 | none=>none
theorem Dr {w:World} (b o:Nat) (v:Value) (h:yC w b o=some v):w.cell? ⟨b,o,none⟩=some v∧v.oneCell'=true:=by
 unfold yC at h
 split at h
 ·split at h
  ·cases h;exact⟨‹_›, ‹_›⟩
  ·cases h
 ·cases h
def uW (w:World):Map:=⟨yC w,fun _=>(0, .any),fun _=>none⟩
theorem Kept.sameAt {w w':World} (h:Kept w w') {p:MemPlace} (hp:p.block<w.heap.size):w.sameAt w' p:=by
 have hk:=h.1.2.2 p.block hp
 cases p with
 | cell b off=>
  simp only [MemPlace.block]at hk hp
  simp only [World.sameAt,World.cell?]
  split at hk
  ·rename_i c t fr c' t' fr' e e'
   rw [e,e']
   simp only [hk.2.2.2 off (fun f=>f)]
  ·rename_i es clock s5 QO e e'
   rw [e,e']
  ·rw [hk]
 | map b=>
  simp only [MemPlace.block]at hk hp
  simp only [World.sameAt]
  split at hk
  ·rename_i c t fr c' t' fr' e e'
   rw [e,e']
   obtain⟨rfl,rfl,hs,hc⟩:=hk
   have:c'=c:=by
    apply Array.ext_getElem?
    intro i
    exact hc i (fun f=>f)
   rw [this]
  ·rename_i es clock s5 QO e e'
   rcases hk with f | ⟨rfl,rfl⟩
   ·exact f.elim
   ·rw [e,e']
  ·exact hk
section
variable {P:Program} {H:Type} {enc:TypeId×Value→H} {T:TypeId→Prop}
theorem xM (K:Kids P T) (hz : ∀ {t e:TypeId},T t→P.underlying t=some (.slice e)→0<P.cellsOf e) {W W':World} (hk:Kept W W') {sp:Nat→Bool} :
 ∀ {ts:List TypeId} {vs:List Value} {ds:List (DataW H)} {ps:List MemPlace},(∀ t∈ts,T t)→(∀ p∈ps,p.block<W.heap.size)→(∀ p∈ps,sp p.block=true)→
  DataW.TrodAll enc P W 0 (fun _=>true) true ts vs ds ps→DataW.TrodAll enc P W' 0 sp true ts vs ds ps
 | [],[],[],_,_,_,_,h=>h
 | t::ts,v::vs,d::ds,ps,hT,hD,hs,⟨p,q,⟨n,h1⟩,h2,e⟩=>by
  subst e
  refine⟨p,q,⟨n,DataW.trod_stays K hz (fun f=>by cases f) (hT t (List.mem_cons_self ..)) h1 (fun x hx=>hk.sameAt (hD x (List.mem_append_left _ hx))) (fun x hx=>hs x (List.mem_append_left _ hx))⟩, ?_,rfl⟩
  exact xM K hz hk (fun t ht=>hT t (List.mem_cons_of_mem _ ht)) (fun x hx=>hD x (List.mem_append_right _ hx)) (fun x hx=>hs x (List.mem_append_right _ hx)) h2
 | [],[],_::_,_,_,_,_,h=>h.elim
 | [],_::_,_,_,_,_,_,h=>h.elim
 | _::_,[],_,_,_,_,_,h=>h.elim
 | _::_,_::_,[],_,_,_,_,h=>h.elim
theorem KX (K:Kids P T) (hz : ∀ {t e:TypeId},T t→P.underlying t=some (.slice e)→0<P.cellsOf e) {f:Func} {s:ChangeSpec} {apart fresh handsOn again:Bool} {tb:TypeId} {W W':World} {args:Array Value} {ds gs:List (DataW H)} {before:List MemPlace}
 (hT : ∀ t∈f.params.toList,T t) (hb:P.underlying tb=some .bool) (hr:f.resultTypes = #[tb]) (xL:s.vars = []) (hW:DataW.Whole enc P f.params.toList s.vars apart W args.toList ds gs before)
 (tt:s.fn H (ds++gs) = {results:= [.lit (.bool true)],args:=ds}) (hk:Kept W W'):s.post enc P f apart fresh handsOn again W args (.bool true) W':=by
 have QP:=hW
 have hD : ∀ p∈before,p.block<W.heap.size:=fun p hp=>hW.lt p hp
 obtain⟨p,q,hA,hV,rfl,hfz,hnd⟩:=hW
 rw [xL]at hV
 obtain⟨rfl,rfl⟩:=trodVars_none hV
 simp only [List.append_nil]at hD tt
 refine B9 (pa:=p) (pv:= []) QP (fun b sp hd=> ?_) (fun sp pV=> ?_) (fun sp pV=> ?_) rfl hk (ok_one hr rfl (okWide_bool_mk hb _))
 ·rw [List.append_nil,tt,hr]
  exact trodAll_cons_mk (shut_bool hb _) trodAll_mk0
 ·rw [List.append_nil,tt]
  simp only [List.append_nil]at pV
  exact xM K hz hk hT hD pV hA
 ·rw [List.append_nil,tt,xL]
  rfl
theorem NF {f:FuncId} {args:List D} {eQ:Array Value} {w:World} (h:dh P f args S0 fun d _=>d = .bool true) (hl:eQ.size=args.length)
 (ha : ∀ (i:Nat) (d:D) (v:Value),args[i]? = some d→eQ[i]? = some v→RD (uW w) S0 d v) (iQ:FN w):Calls P f eQ w fun e w'=>e = .returned (.bool true)∧Kept w w':=
 Ij (G:=yC w) h Dr hl ha iQ
end
end Go.Abs

/-! Binds1 -/

namespace Go.Abs
open Go.Proofs
def xN (n:Int):List D:= [.int .i64 n]
theorem SH (n:Int):D.bG 0 0 (xN n)=true:=rfl
theorem QQ (n m:Nat) (l:List Int):D.hO n m (l.map xN)=l.map xN:=jU SH n m l
attribute [go_sem] xN QQ
def SI (op:Int):aA:=
 if op=5 then [42]else if op=6 then [47]else if op=7 then [37]else if op=8 then [43]else if op=9 then [45]else if op=10 then [60]else if op=11 then [60,61]
 else if op=12 then [62]else if op=13 then [62,61]else if op=14 then [61,61]else if op=15 then [33,61]else if op=16 then [38,38]else [124,124]
def adz (op:Int):Int:=(PY (SI op)).1
def Ik:Nat→List aA
 | 0=> []
 | n+1=>Ik n++ [[UInt8.ofNat (97+n)]]
end Go.Abs

/-! Join2 -/

namespace Go.Abs
open Go.RowKit Go.ChangeShapes Go.WideShapes
end Go.Abs

/-! Join3 -/

namespace Go.Abs
open Go.RowKit Go.ChangeShapes Go.WideShapes
def dH (W:World) (ds:List D) (cs:List Value):Prop:=ds.length=cs.length∧(∀ (i:Nat) (d:D) (v:Value),ds[i]? = some d→cs[i]? = some v→RD (uW W) S0 d v)∧∀ v∈cs,v.oneCell'=true
theorem dH.one {W:World} {d:D} {v:Value} (h:RD (uW W) S0 d v) (hv:v.oneCell'=true):dH W [d] [v]:=by
 refine⟨rfl,fun i d' v' h1 h2=> ?_,fun u hu=>by simp at hu;subst hu;exact hv⟩
 cases i with
 | zero=>simp at h1 h2;subst h1 h2;exact h
 | succ i=>simp at h1
theorem dH.app {W:World} {ds kR:List D} {cs gj:List Value} (h:dH W ds cs) (h':dH W kR gj):dH W (ds++kR) (cs++gj):=by
 obtain⟨a1,a2,a3⟩:=h
 obtain⟨b1,b2,b3⟩:=h'
 refine⟨by simp [a1,b1],fun i d v h1 h2=> ?_,fun v hv=> ?_⟩
 ·by_cases hi:i<ds.length
  ·rw [List.getElem?_append_left hi]at h1
   rw [List.getElem?_append_left (by omega)]at h2
   exact a2 i d v h1 h2
  ·rw [List.getElem?_append_right (by omega)]at h1
   rw [List.getElem?_append_right (by omega), ← a1]at h2
   exact b2 _ d v h1 h2
 ·rcases List.mem_append.1 hv with hv | hv
  ·exact a3 v hv
  ·exact b3 v hv
theorem dH.at {W:World} {ds kR:List D} {cs:List Value} {o n:Nat} (h:dH W ds ((cs.drop o).take n)) (h':dH W kR (cs.drop (o+n))):dH W (ds++kR) (cs.drop o):=by
 have e:cs.drop o=(cs.drop o).take n++cs.drop (o+n):=by rw [← List.drop_drop,List.take_append_drop]
 rw [e]
 exact h.app h'
theorem dH.end {W:World} {cs:List Value} {o:Nat} (h:cs.length=o):dH W [] (cs.drop o):=by
 rw [← h,List.drop_length]
 exact⟨rfl,fun i d v h=>by simp at h,fun v hv=>by cases hv⟩
section
variable {H:Type} {enc:TypeId×Value→H} {P:Program} {W:World} {sp:Nat→Bool}
def structOf (P:Program) (t:TypeId):List (TypeId×Nat):=
 match P.underlying t with
 | some (.struct fs)=>fs.toList.map fun f=>(f.type,f.offset)
 | _=> []
theorem jb {t:TypeId} {l:List (TypeId×Nat)} {fuel:Nat} {cs:List Value} {x:DataW H×List MemPlace} (h:structOf P t=l) (dX:l≠ []) (ht:DataW.trod enc P W 0 sp true fuel t cs=some x) :
 ∃ n,fuel=n+1∧cs.length=P.cellsOf t∧∀ (i:Nat) (f:TypeId×Nat),l[i]? = some f→∃ y,DataW.trod enc P W 0 sp true n f.1 ((cs.drop f.2).take (P.cellsOf f.1))=some y:=by
 unfold structOf at h
 split at h
 ·rename_i fs hu
  obtain⟨xs,n,e,_,hl,hlen,hf⟩:=DataW.trod_struct hu ht
  refine⟨n,e,hl,fun i f hi=> ?_⟩
  subst h
  rw [List.getElem?_map,Option.map_eq_some_iff]at hi
  obtain⟨g,hg,rfl⟩:=hi
  have LD:fs[i]? = some g:=by simpa using hg
  have hi:i<xs.length:=by rw [hlen];exact(Array.getElem?_eq_some_iff.1 LD).1
  exact⟨xs[i],by rw [hf i g LD,List.getElem?_eq_getElem hi]⟩
 ·exact absurd h.symm dX
theorem Ak {t:TypeId} {l:List (TypeId×Nat)} (h:structOf P t=l) (dX:l≠ []) : ∃ fs,P.underlying t=some (.struct fs):=by
 unfold structOf at h
 split at h
 ·exact⟨_, ‹_›⟩
 ·exact absurd h.symm dX
theorem vN {α:Type} {Q:Nat→α→Prop} : ∀ n,(∀ i,i<n→∃ y,Q i y)→∃ ys:List α,ys.length=n∧∀ i y,ys[i]? = some y→Q i y
 | 0,_=>⟨[],rfl,fun i y h=>by simp at h⟩
 | n+1,h=>by
  obtain⟨ys,h1,h2⟩:=vN n fun i hi=>h i (by omega)
  obtain⟨y,hy⟩:=h n (by omega)
  refine⟨ys++ [y],by simp [h1],fun i z hz=> ?_⟩
  by_cases hi:i<ys.length
  ·rw [List.getElem?_append_left hi]at hz;exact h2 i z hz
  ·rw [List.getElem?_append_right (by omega)]at hz
   have:i - ys.length=0:=by
    rcases Nat.eq_zero_or_pos (i - ys.length)with h | h
    ·exact h
    ·rw [List.getElem?_eq_none (by simp only [List.length_cons,List.length_nil];omega)]at hz;cases hz
   rw [this]at hz
   simp at hz
   subst hz
   have:i=n:=by omega
   subst this
   exact hy
theorem lz {α:Type} (en:α→List D) (good:α→Prop) {z:Nat} {t e:TypeId} {fuel:Nat} {cs:List Value} {x:DataW H×List MemPlace} (ht:P.underlying t=some (.slice e)) (hz:P.cellsOf e=z) (hz0:0<z) (QR : ∀ y,(en y).length=z)
 (hel : ∀ n<fuel,∀ cs x,DataW.trod enc P W 0 sp true n e cs=some x→∃ y,dH W (en y) cs∧good y) (h:DataW.trod enc P W 0 sp true fuel t cs=some x) :
 ∃ ys:List α,dH W [.slice .shared z (ys.map en)] cs∧∀ y∈ys,good y:=by
 rcases DataW.trod_slice ht h with ⟨rfl,_⟩ | ⟨a,len,cap,elems,rest,n,hn,rfl,_,hb,hl,hm,hlen,qt,_,_⟩
 ·exact⟨[],dH.one (.gA _ _ _ rfl trivial) rfl,fun y hy=>by cases hy⟩
 ·by_cases h0:len=0
  ·subst h0
   exact⟨[],dH.one (.kh _ _ _) rfl,fun y hy=>by cases hy⟩
  ·obtain⟨ys,hys,wa⟩:=vN (Q:=fun i y=>good y∧∃ gj,W.cells? 0 (a.add (i*z)) z=some gj∧dH W (en y) gj) len fun i hi=>by
    have hc:=qt i hi
    rw [List.getElem?_eq_getElem (by omega),hz,Option.bind_eq_some_iff]at hc
    obtain⟨gj,h1,h2⟩:=hc
    obtain⟨y,h3,h4⟩:=hel n (by omega) _ _ h2
    exact⟨y,h4,gj,h1,h3⟩
   have cell : ∀ i y,ys[i]? = some y→∀ (j:Nat) d,(en y)[j]? = some d→∃ v,W.cell? ((a.add (i*z)).add j)=some v∧RD (uW W) S0 d v∧v.oneCell'=true:=by
    intro i y hy j d hd
    obtain⟨_,gj,h1,h2,h3,h4⟩:=wa i y hy
    obtain⟨_,k1,k2⟩:=World.cells?_some h1
    have hj:j<z:=by rw [← QR y];exact(List.getElem?_eq_some_iff.1 hd).1
    have hv:gj[j]? = some gj[j]:=List.getElem?_eq_getElem (by omega)
    exact⟨gj[j],by rw [k2 j hj,hv],h3 j d _ hd hv,h4 _ (List.getElem_mem _)⟩
   obtain⟨b,off,spot⟩:=a
   have SJ:spot=none:=by
    have hy:ys[0]? = some (ys[0]'(by omega)):=List.getElem?_eq_getElem (by omega)
    obtain⟨d,hd⟩ : ∃ d,(en (ys[0]'(by omega)))[0]? = some d:=⟨_,List.getElem?_eq_getElem (show 0<(en (ys[0]'(by omega))).length by rw [QR];exact hz0)⟩
    obtain⟨v,hv,_⟩:=cell 0 _ hy 0 _ hd
    have:=World.cell?_spot hv
    simpa [Addr.add]using this
   subst SJ
   have e:(ys.map en).length=len:=by simp [hys]
   have:=RD.slice (M:=uW W) (s:=S0) .shared z (ys.map en) b off cap (by omega) (fun row hr=>by obtain⟨y,_,rfl⟩:=List.mem_map.1 hr;exact QR y)
    (fun i row j d h1 h2=>by
     rw [List.getElem?_map,Option.map_eq_some_iff]at h1
     obtain⟨y,h1,rfl⟩:=h1
     obtain⟨v,hv,_,h4⟩:=cell i y h1 j d h2
     rw [add_plain,add_plain]at hv
     refine⟨v, ?_⟩
     show yC W b (off+(i*z+j))=_
     unfold yC
     rw [show off+(i*z+j)=off+i*z+j by omega,hv]
     simp [h4])
    (fun i row j d u h1 h2 hu=>by
     rw [List.getElem?_map,Option.map_eq_some_iff]at h1
     obtain⟨y,h1,rfl⟩:=h1
     obtain⟨v,hv,h3,h4⟩:=cell i y h1 j d h2
     rw [add_plain,add_plain]at hv
     obtain⟨hu,_⟩:=Dr _ _ _ hu
     rw [show off+(i*z+j)=off+i*z+j by omega,hv]at hu
     cases hu
     exact h3) trivial
   rw [e]at this
   refine⟨ys,dH.one this rfl,fun y hy=> ?_⟩
   obtain⟨i,hi⟩:=List.getElem?_of_mem hy
   exact(wa i y hi).1
theorem xO {t:TypeId} {fuel:Nat} {cs:List Value} {x:DataW H×List MemPlace} (ht:P.underlying t=some (.int .i64)) (h:DataW.trod enc P W 0 sp true fuel t cs=some x) : ∃ n:Int,dH W [.int .i64 n] cs∧n≤9223372036854775807∧ -9223372036854775808≤n:=by
 obtain⟨n,rfl,_,hw⟩:=DataW.trod_int ht h
 simp [Lit.wf,IntKind.min,IntKind.max,IntKind.signed,IntKind.bits]at hw
 exact⟨n,dH.one (.int _ _) rfl,by omega,by omega⟩
theorem yD {t:TypeId} {fuel:Nat} {cs:List Value} {x:DataW H×List MemPlace} (ht:P.underlying t=some .bool) (h:DataW.trod enc P W 0 sp true fuel t cs=some x) : ∃ b:Bool,dH W [.bool b] cs:=by
 obtain⟨n,rfl,_⟩:=DataW.trod_bool ht h
 exact⟨n,dH.one (.bool _) rfl⟩
theorem qj {t:TypeId} {fuel:Nat} {cs:List Value} {x:DataW H×List MemPlace} (ht:P.underlying t=some .string) (h:DataW.trod enc P W 0 sp true fuel t cs=some x) : ∃ s:aA,dH W (encStr s) cs∧s.length≤maxLen:=by
 obtain⟨s,rfl,_,hm⟩:=DataW.trod_string ht h
 obtain⟨⟨l⟩⟩:=s
 exact⟨l,dH.one (.str l) rfl,hm⟩
theorem SK {tE tI tN tS tK:TypeId} (hE:structOf P tE = [(tI,0),(tN,1),(tS,2),(tK,3)]) (TG:P.cellsOf tE=4) (hI:P.underlying tI=some (.int .i64)) (hN:P.underlying tN=some (.int .i64)) (hS:P.underlying tS=some .string) (hK:P.underlying tK=some (.slice tE))
 (cI:P.cellsOf tI=1) (cN:P.cellsOf tN=1) (cS:P.cellsOf tS=1) (cK:P.cellsOf tK=1) :
 ∀ (fuel:Nat) (cs:List Value) (x:DataW H×List MemPlace),DataW.trod enc P W 0 sp true fuel tE cs=some x→∃ y:Ex,dH W (bj y) cs∧y.nI:=by
 intro fuel
 induction fuel using Nat.strongRecOn with
 | _ fuel ih=>
  intro cs x h
  obtain⟨n,rfl,hl,hf⟩:=jb hE (by simp) h
  obtain⟨y0,h0⟩:=hf 0 _ rfl
  obtain⟨y1,h1⟩:=hf 1 _ rfl
  obtain⟨y2,h2⟩:=hf 2 _ rfl
  obtain⟨y3,h3⟩:=hf 3 _ rfl
  dsimp only at h0 h1 h2 h3
  rw [cI]at h0
  rw [cN]at h1
  rw [cS]at h2
  rw [cK]at h3
  obtain⟨op,r0,_⟩:=xO hI h0
  obtain⟨m,r1,hm,_⟩:=xO hN h1
  obtain⟨s,r2,_⟩:=qj hS h2
  obtain⟨ks,r3,hg⟩:=lz (W:=W) bj Ex.nI hK TG (by decide) LK (fun k hk cs x hx=>ih k (by omega) cs x hx) h3
  refine⟨⟨op,m,s,ks⟩, ?_,hm, ?_⟩
  ·have:=r0.at (r1.at (r2.at (r3.at (dH.end (by rw [hl,TG])))))
   rw [fj]
   simpa [encStr]using this
  ·clear r3
   induction ks with
   | nil=>exact trivial
   | cons k ks ihk=>exact⟨hg k (by simp),ihk fun y hy=>hg y (by simp [hy])⟩
theorem dH.agg {ds:List D} {v:Value} (h:dH W ds v.cells.toList) (hv : ∃ vs,v = .agg vs):RD (uW W) S0 (.agg ds) v:=by
 obtain⟨vs,rfl⟩:=hv
 obtain⟨h1,h2,h3⟩:=h
 have e:(Value.agg vs).cells=vs:=rfl
 rw [e]at h1 h2 h3
 refine .agg ds vs (by simpa using h1) (fun v hv=>h3 v (by simpa using hv)) fun i d v hd hv=>h2 i d v hd (by simpa using hv)
end
end Go.Abs

/-! Join4 -/

namespace Go.Abs
open Go.Proofs Go.RowKit Go.ChangeShapes Go.WideShapes
section
variable {H:Type} {enc:TypeId×Value→H} {W:World} {sp:Nat→Bool}
theorem Il (fuel:Nat) (cs:List Value) (x:DataW H×List MemPlace) (h:DataW.trod enc Tryz.prog W 0 sp true fuel 46 cs=some x) : ∃ y:Ex,dH W (bj y) cs∧y.nI:=
 SK (tE:=46) (tI:=3) (tN:=2) (tS:=9) (tK:=44) (by kernel_rfl) (by kernel_rfl) (by kernel_rfl) (by kernel_rfl) (by kernel_rfl) (by kernel_rfl) (by kernel_rfl) (by kernel_rfl) (by kernel_rfl) (by kernel_rfl) _ _ _ h
theorem NG:Tryz.prog.underlying 22=some (.slice 9):=by kernel_rfl
theorem sq:Tryz.prog.underlying 9=some .string:=by kernel_rfl
theorem Io:Tryz.prog.underlying 3=some (.int .i64):=by kernel_rfl
theorem yE:Tryz.prog.underlying 4=some .bool:=by kernel_rfl
theorem uX:Tryz.prog.cellsOf 9=1:=by kernel_rfl
theorem QV:Tryz.prog.cellsOf 3=1:=by kernel_rfl
theorem yF:Tryz.prog.cellsOf 4=1:=by kernel_rfl
theorem yG:Tryz.prog.cellsOf 22=1:=by kernel_rfl
theorem Mj:Tryz.prog.cellsOf 46=4:=by kernel_rfl
theorem sX {fuel:Nat} {cs:List Value} {x:DataW H×List MemPlace} (h:DataW.trod enc Tryz.prog W 0 sp true fuel 22 cs=some x) : ∃ l:List aA,dH W [.slice .shared 1 (l.map encStr)] cs:=by
 obtain⟨l,h,_⟩:=lz (W:=W) encStr (fun _=>True) NG uX (by decide) (fun _=>rfl) (fun k hk cs x hx=>by
  obtain⟨s,hs,_⟩:=qj sq hx
  exact⟨s,hs,trivial⟩) h
 exact⟨l,h⟩
theorem QW {fuel:Nat} {cs:List Value} {x:DataW H×List MemPlace} (h:DataW.trod enc Tryz.prog W 0 sp true fuel 63 cs=some x) : ∃ y:Pm,dH W (fu y) cs:=by
 obtain⟨n,rfl,hl,hf⟩:=jb (l:= [(9,0),(4,1)]) (by kernel_rfl) (by simp) h
 have hc:Tryz.prog.cellsOf 63=2:=by kernel_rfl
 obtain⟨y0,h0⟩:=hf 0 _ rfl
 obtain⟨y1,h1⟩:=hf 1 _ rfl
 dsimp only at h0 h1
 rw [uX]at h0
 rw [yF]at h1
 obtain⟨s,r0,_⟩:=qj sq h0
 obtain⟨b,r1⟩:=yD yE h1
 refine⟨⟨s,b⟩, ?_⟩
 have:=r0.at (r1.at (dH.end (by rw [hl,hc])))
 simpa [encStr,fu]using this
theorem QX {fuel:Nat} {cs:List Value} {x:DataW H×List MemPlace} (h:DataW.trod enc Tryz.prog W 0 sp true fuel 87 cs=some x) : ∃ y:Ar,dH W (df y) cs∧y.x.nI:=by
 obtain⟨n,rfl,hl,hf⟩:=jb (l:= [(4,0),(9,1),(46,2)]) (by kernel_rfl) (by simp) h
 have hc:Tryz.prog.cellsOf 87=6:=by kernel_rfl
 obtain⟨y0,h0⟩:=hf 0 _ rfl
 obtain⟨y1,h1⟩:=hf 1 _ rfl
 obtain⟨y2,h2⟩:=hf 2 _ rfl
 dsimp only at h0 h1 h2
 rw [yF]at h0
 rw [uX]at h1
 rw [Mj]at h2
 obtain⟨b,r0⟩:=yD yE h0
 obtain⟨s,r1,_⟩:=qj sq h1
 obtain⟨e,r2,hr⟩:=Il _ _ _ h2
 refine⟨⟨b,s,e⟩, ?_,hr⟩
 have:=r0.at (r1.at (r2.at (dH.end (by rw [hl,hc]))))
 rw [fj]at this
 simpa [encStr,df]using this
theorem sY : ∀ {l:List Sm},(∀ s∈l,s.nI)→Sm.rC l
 | [],_=>trivial
 | s::l,h=>⟨h s (List.mem_cons_self ..),sY fun t m=>h t (List.mem_cons_of_mem _ m)⟩
theorem QY : ∀ (fuel:Nat) (cs:List Value) (x:DataW H×List MemPlace),DataW.trod enc Tryz.prog W 0 sp true fuel 49 cs=some x→∃ y:Sm,dH W (bd y) cs∧y.nI:=by
 intro fuel
 induction fuel using Nat.strongRecOn with
 | _ fuel ih=>
  intro cs x h
  obtain⟨n,rfl,hl,hf⟩:=jb (l:= [(3,0),(3,1),(22,2),(9,3),(9,4),(46,5),(4,9),(47,10),(37,11),(37,12)]) (by kernel_rfl) (by simp) h
  have hc:Tryz.prog.cellsOf 49=13:=by kernel_rfl
  have ca:Tryz.prog.cellsOf 47=1:=by kernel_rfl
  have gj:Tryz.prog.cellsOf 37=1:=by kernel_rfl
  have ua:Tryz.prog.underlying 47=some (.slice 87):=by kernel_rfl
  have us:Tryz.prog.underlying 37=some (.slice 49):=by kernel_rfl
  have ca6:Tryz.prog.cellsOf 87=6:=by kernel_rfl
  obtain⟨y0,h0⟩:=hf 0 _ rfl
  obtain⟨y1,h1⟩:=hf 1 _ rfl
  obtain⟨y2,h2⟩:=hf 2 _ rfl
  obtain⟨y3,h3⟩:=hf 3 _ rfl
  obtain⟨y4,h4⟩:=hf 4 _ rfl
  obtain⟨y5,h5⟩:=hf 5 _ rfl
  obtain⟨y6,h6⟩:=hf 6 _ rfl
  obtain⟨y7,h7⟩:=hf 7 _ rfl
  obtain⟨y8,h8⟩:=hf 8 _ rfl
  obtain⟨y9,h9⟩:=hf 9 _ rfl
  dsimp only at h0 h1 h2 h3 h4 h5 h6 h7 h8 h9
  rw [QV]at h0 h1
  rw [yG]at h2
  rw [uX]at h3 h4
  rw [Mj]at h5
  rw [yF]at h6
  rw [ca]at h7
  rw [gj]at h8 h9
  obtain⟨id,r0,_⟩:=xO Io h0
  obtain⟨kind,r1,_⟩:=xO Io h1
  obtain⟨labels,r2⟩:=sX h2
  obtain⟨name,r3,_⟩:=qj sq h3
  obtain⟨proc,r4,_⟩:=qj sq h4
  obtain⟨e,r5,hr⟩:=Il _ _ _ h5
  obtain⟨b,r6⟩:=yD yE h6
  obtain⟨args,r7,ha⟩:=lz (W:=W) df (fun a=>a.x.nI) ua ca6 (by decide) (fun _=>rfl) (fun k hk cs x hx=>QX hx) h7
  obtain⟨a7,r8,ht⟩:=lz (W:=W) bd Sm.nI us hc (by decide) Ao (fun k hk cs x hx=>ih k (by omega) cs x hx) h8
  obtain⟨aU,r9,he⟩:=lz (W:=W) bd Sm.nI us hc (by decide) Ao (fun k hk cs x hx=>ih k (by omega) cs x hx) h9
  refine⟨⟨id,kind,labels,name,proc,e,b,args,a7,aU⟩, ?_,hr,ha,sY ht,sY he⟩
  have:=r0.at (r1.at (r2.at (r3.at (r4.at (r5.at (r6.at (r7.at (r8.at (r9.at (dH.end (by rw [hl,hc])))))))))))
  rw [fj]at this
  rw [cZ]
  simpa [encStr]using this
theorem QZ {fuel:Nat} {cs:List Value} {x:DataW H×List MemPlace} (h:DataW.trod enc Tryz.prog W 0 sp true fuel 39 cs=some x) : ∃ y:Pc,dH W (bR y) cs∧Sm.rC y.body:=by
 obtain⟨n,rfl,hl,hf⟩:=jb (l:= [(9,0),(36,1),(22,2),(37,3),(22,4)]) (by kernel_rfl) (by simp) h
 have hc:Tryz.prog.cellsOf 39=5:=by kernel_rfl
 have cp:Tryz.prog.cellsOf 36=1:=by kernel_rfl
 have gj:Tryz.prog.cellsOf 37=1:=by kernel_rfl
 have up:Tryz.prog.underlying 36=some (.slice 63):=by kernel_rfl
 have us:Tryz.prog.underlying 37=some (.slice 49):=by kernel_rfl
 have cp2:Tryz.prog.cellsOf 63=2:=by kernel_rfl
 have WA:Tryz.prog.cellsOf 49=13:=by kernel_rfl
 obtain⟨y0,h0⟩:=hf 0 _ rfl
 obtain⟨y1,h1⟩:=hf 1 _ rfl
 obtain⟨y2,h2⟩:=hf 2 _ rfl
 obtain⟨y3,h3⟩:=hf 3 _ rfl
 obtain⟨y4,h4⟩:=hf 4 _ rfl
 dsimp only at h0 h1 h2 h3 h4
 rw [uX]at h0
 rw [cp]at h1
 rw [yG]at h2 h4
 rw [gj]at h3
 obtain⟨name,r0,_⟩:=qj sq h0
 obtain⟨ps,r1,_⟩:=lz (W:=W) fu (fun _=>True) up cp2 (by decide) (fun _=>rfl) (fun k hk cs x hx=>by
  obtain⟨y,hy⟩:=QW hx
  exact⟨y,hy,trivial⟩) h1
 obtain⟨vars,r2⟩:=sX h2
 obtain⟨body,r3,hb⟩:=lz (W:=W) bd Sm.nI us WA (by decide) Ao (fun k hk cs x hx=>QY k cs x hx) h3
 obtain⟨fin,r4⟩:=sX h4
 refine⟨⟨name,ps,vars,body,fin⟩, ?_,sY hb⟩
 have:=r0.at (r1.at (r2.at (r3.at (r4.at (dH.end (by rw [hl,hc]))))))
 simpa [encStr,bR]using this
theorem Q1 {fuel:Nat} {cs:List Value} {x:DataW H×List MemPlace} (h:DataW.trod enc Tryz.prog W 0 sp true fuel 25 cs=some x) : ∃ y:Pg,dH W (bX y) cs∧y.nI:=by
 obtain⟨n,rfl,hl,hf⟩:=jb (l:= [(22,0),(23,1)]) (by kernel_rfl) (by simp) h
 have hc:Tryz.prog.cellsOf 25=2:=by kernel_rfl
 have cp:Tryz.prog.cellsOf 23=1:=by kernel_rfl
 have up:Tryz.prog.underlying 23=some (.slice 39):=by kernel_rfl
 have cp5:Tryz.prog.cellsOf 39=5:=by kernel_rfl
 obtain⟨y0,h0⟩:=hf 0 _ rfl
 obtain⟨y1,h1⟩:=hf 1 _ rfl
 dsimp only at h0 h1
 rw [yG]at h0
 rw [cp]at h1
 obtain⟨globals,r0⟩:=sX h0
 obtain⟨procs,r1,hp⟩:=lz (W:=W) bR (fun f=>Sm.rC f.body) up cp5 (by decide) (fun _=>rfl) (fun k hk cs x hx=>QZ hx) h1
 refine⟨⟨globals,procs⟩, ?_,hp⟩
 have:=r0.at (r1.at (dH.end (by rw [hl,hc])))
 simpa [bX]using this
end
end Go.Abs

/-! Join5 -/

namespace Go.Abs
open Go.Proofs Go.ChangeShapes Go.WideShapes Go.ChangeAt Go.RowKit
theorem zQ {H:Type} {enc:TypeId×Value→H} {P:Program} {W:World} {sp:Nat→Bool} {t:TypeId} {ts:List TypeId} {ps:List MemPlace} : ∀ {l:List Value} {ds:List (DataW H)},DataW.TrodAll enc P W 0 sp true (t::ts) l ds ps→
 ∃ v l' d kR p q,l=v::l'∧ds=d::kR∧DataW.Trod enc P W 0 sp true t v d p∧DataW.TrodAll enc P W 0 sp true ts l' kR q
 | v::l,d::ds,⟨p,q,h1,h2,e⟩=>⟨v,l,d,ds,p,q,rfl,rfl,h1,h2⟩
 | [],[],h=>h.elim
 | [],_::_,h=>h.elim
 | _::_,[],h=>h.elim
theorem KY {H:Type} {enc:TypeId×Value→H} {P:Program} {W:World} {sp:Nat→Bool} {ps:List MemPlace} : ∀ {l:List Value} {ds:List (DataW H)},DataW.TrodAll enc P W 0 sp true [] l ds ps→l = []∧ds = []
 | [],[],_=>⟨rfl,rfl⟩
 | [],_::_,h=>h.elim
 | _::_,ds,h=>by cases ds <;> exact h.elim
end Go.Abs

/-! TouchLeast -/

namespace Go.Proofs.YthecipohmaannaaGreat.touchLeast
open Go.ChangeShapes Go.WideShapes Go.ChangeAt Go.RowKit Go.Abs
theorem own:ownKnob Tryz.prog.godebug=none:=by kernel_rfl
theorem kids:Kids Tryz.prog (· < Tryz.prog.types.size):=kids_rows (by kernel_rfl) (by kernel_rfl)
theorem full : ∀ {t e:TypeId},t<Tryz.prog.types.size→Tryz.prog.underlying t=some (.slice e)→0<Tryz.prog.cellsOf e:=fun {t e}=>slices_full_of Tryz.prog (by kernel_rfl) t e
theorem walk (w:World) (x0:Pg) (F8:x0.nI) (v0:Value) (Q2:RD (uW w) S0 (.agg (bX x0)) v0) (x1:Int):Calls Tryz.prog 4 #[v0, .int .i64 x1] w fun e w'=>e = .returned (.bool true)∧Kept w w':=by
 refine NF (args:= [.agg (bX x0), .int .i64 x1]) ((yA x0 x1 S0).mono fun _ _ h=>h.1) rfl ?_ (fun _ _ h=>nomatch h)
 intro i d v h1 h2
 match i,h1,h2 with
 | 0,h1,h2=>simp at h1 h2;subst h1 h2;exact Q2
 | 1,h1,h2=>simp at h1 h2;subst h1 h2;exact RD.int _ _
set_option maxRecDepth 100000 in
theorem lifted (os : Os) (started : os.Started) (H : Type) (enc : TypeId × Value → H) :
   ReturnsInHanded {} Tryz.checked os 4 .any (Rows.touchLeastSpec.pre6 enc Tryz.prog Tryz.f4 Rows.touchLeastRow.domain false) (Rows.touchLeastSpec.post enc Tryz.prog Tryz.f4 false true false false) := by
 refine returnsInHanded_of_change (C := Tryz.checked) own started (by kernel_rfl) Tryz.func4
   (ChangeSpec.witness6 (enc := enc) (C := Tryz.checked) false ⟨#[], #[.agg #[.slice none 0 0, .slice none 0 0], .int .i64 0], []⟩ 8 (by kernel_rfl) (by kernel_rfl) (by kernel_rfl) (by kernel_rfl)) ?_
 intro W base args ds gs before SP hW jv _
 have n6 : ∀ (j : Nat) t v, Tryz.f4.params[j]? = some t → args[j]? = some v → Value.okWide Tryz.prog W .any base t v := SP
 have QP := hW
 obtain ⟨p, q, Q3, hV, rfl, hfz, hnd⟩ := hW
 have hA : DataW.TrodAll enc Tryz.prog W 0 (fun _ => true) true Tryz.f4.params.toList args.toList ds p := Q3
 rw [Tryz.params4] at hA n6
 obtain ⟨l⟩ := args
 obtain ⟨v0, l0, d0, S1, p0, q0, e0, TH, zg, Q3⟩ := zQ hA
 obtain ⟨v1, l1, d1, ds1, p1, q1, e1, e1d, Mf, hA1⟩ := zQ Q3
 obtain ⟨en, end_⟩ := KY hA1
 have el : l = [v0, v1] := by rw [show l = _ from e0, e1, en]
 subst el
 have ed : ds = [d0, d1] := by rw [TH, e1d, end_]
 clear TH
 subst ed
 have hpg : ∀ (i : Nat) (v : Value), Tryz.f4.params[i]? = some 25 → (⟨[v0, v1]⟩ : Array Value)[i]? = some v → ∀ {d ps}, DataW.Trod enc Tryz.prog W 0 (fun _ => true) true 25 v d ps → ∃ x : Pg, RD (uW W) S0 (.agg (bX x)) v ∧ x.nI := by
   intro i v hp hv d ps ⟨fuel, hf⟩
   obtain ⟨y, h1, h2⟩ := Q1 hf
   obtain ⟨fs, wS⟩ := Ak (P := Tryz.prog) (t := 25) (l := [(22, 0), (23, 1)]) (by kernel_rfl) (by simp)
   obtain ⟨cs, e, _⟩ := okWide_struct wS (n6 i 25 v (by rw [← Tryz.params4]; exact hp) hv)
   exact ⟨y, h1.agg ⟨cs, e⟩, h2⟩
 obtain ⟨x0, Q2, F8⟩ := hpg 0 v0 (by rw [Tryz.params4]; rfl) rfl zg
 obtain ⟨x1, rfl, rfl, rfl, hi1⟩ := open_int Tryz.underlying3 (n6 1 _ _ rfl rfl) Mf
 obtain ⟨rfl, rfl⟩ := trodVars_none hV
 refine (walk W x0 F8 v0 Q2 x1).mono fun e W' ⟨he, hg⟩ => ?_
 subst he
 exact ⟨_, rfl, KX kids full (by rw [Tryz.params4]; decide) Tryz.underlying4 (by kernel_rfl) rfl QP rfl hg⟩
theorem over:Rows.touchLeastRow.holds Tryz.pinned (OpenSpec.ofChange Rows.touchLeastSpec):=
 OpenClaim.holds_of_wide 4 Tryz.f4 rfl rfl rfl rfl rfl rfl rfl ⟨rfl,rfl,rfl,rfl,rfl⟩ rfl rfl rfl rfl rfl (by kernel_rfl) Tryz.func4 (by kernel_rfl)
  (of_decide_eq_true (by kernel_rfl)) (by unfold Func.isWrapper;first | (rw [if_pos (by decide +kernel)];kernel_rfl) | (rw [if_neg (by decide +kernel)];exact⟨rfl,rfl⟩))
  (fun os started H enc _=>lifted os started H enc)
theorem proved:Rows.TouchLeastSaid:=
 over
#print axioms proved
end Go.Proofs.YthecipohmaannaaGreat.touchLeast
