/-
  What is proved here: part 4 of the road to the claim (RunC2, RunC3, RunC4, RunC5, RunC6, RunC7, RunSt, RunSz, Jm3, Rj1, Ck1, RunC8, RunC9, RunL0, RunL1, RunTp, RunEv, RunWa, RunL2, LawRu2, LawRu4, Glue2, Join, Binds1, Join2, Join3, Join4, Join5).
  No conditions.
-/
import Derived.Test.YtpjadlleefgcpaaGreatRnD3
import Derived.RowKit3
import Derived.WalkKit
import Derived.ProofKit
import Derived.OpenShut
import Derived.ShutString
import Derived.ChangeMaps5
import Derived.ChangeStays
import Derived.KernelRfl

set_option linter.unusedSimpArgs false
set_option linter.unusedVariables false
namespace Go.Abs
set_option maxRecDepth 8000
open Go.Proofs
section
variable {p:Pg} {T W:List Int} {y:Lay} {m:Mc} {loc:List (Nat×List D)} {s:St}
theorem JX {s:St} {o g z bytes:Nat} {t:Tag} {cs more r:List D} {len:Nat} (hs:s.ah[o]? = some (.int .i64 (g:Int)::(cs++more))) (hl:cs.length=len*z) (hm:(len+1)*(bytes+1)≤bJ) :
 Au z bytes (.dZ z o g len) (.slice t z [r]) s=some (.dZ z o (g+1) (len+1),⟨s.ah.set o (.int .i64 ((g+1:Nat):Int)::(cs++r)),s.au⟩):=by
 have ha:nI s o g=some (cs++more):=by unfold nI;rw[hs];simp
 simp only[Au,ha,List.length_singleton,hm,or_true,and_self,if_true,List.flatten_cons,List.flatten_nil,List.append_nil]
 rw[if_pos (by simp;omega), ← hl,List.take_append_of_le_length (Nat.le_refl _),List.take_length]
theorem Wk.agQ (z z':Nat):Wk (.dX z) (.slice .shared z' []):=fun M s v h=>by
 cases h with
 |dX _ a=>cases a with
  |none=>exact .iG _ _ _ rfl trivial
  |some a=>exact .lh _ _ _
theorem aG.agR {P:Program} {f:FuncId} {a b:D} {d:D} {s:St} {v:D} {l:List Int} (hv:jx s v (l.map qt)) (h : ∀ s,aG P f [a,b, .slice .shared 1 (l.map cq)] s d s) (ha:D.ok 0 0 a=true) (hb:D.ok 0 0 b=true) (hd:d.flat=true) :
 aG P f [a,b,v] s d s:=by
 rcases hv with ⟨rfl,e⟩|⟨o,g,more,rfl,e⟩
 ·have:l = []:=by simpa using e
  subst this
  exact bG.pK (.cons (Wk.refl _) (.cons (Wk.refl _) (.cons (Wk.agQ 1 1) .nil))) (h s)
 ·have dT : ∀ l:List Int,(l.map cq).flatten=l.map qt:=fun l=>by
   induction l with
   |nil=>rfl
   |cons x l ih=>simp only[List.map_cons,List.flatten_cons,ih];rfl
  have hlen:(l.map qt).length=(l.map cq).length:=by simp
  rw[hlen]
  have e0:D.jm o g (l.map cq) [a,b, .dZ 1 o g (l.map cq).length] = [a,b, .slice .shared 1 (l.map cq)]:=by
   simp only[D.jm,IY _ _ _ a ha,IY _ _ _ b hb,D.fD,and_self,if_true]
  refine aG.ajg (k:=2) (rows:=l.map cq) rfl (by rw[dT];exact e) (by intro r hr;obtain⟨x,_,rfl⟩:=List.mem_map.1 hr;rfl) ?_ ?_ hd
  ·rw[e0];exact h S0
  ·rw[e0];simp[D.bL,D.ok,Tag.ok,ha,hb,jt]
structure mJ (m:Mc) (fr:Fr) (r:List Fr):Prop where
 st:m.st=fr::r
 len:r.length<1000000
 names:fr.names.length<1000000
 vars:fr.vars.length<1000000
theorem mJ.top {fr:Fr} {r:List Fr} (h:mJ m fr r):m.top=fr:=by simp[Mc.top,h.st]
theorem R0 {fr:Fr} {k c:Nat} {rest:List Nat} (h:fr.vars.drop k=c::rest) (m:Mc):(fr.vars.take (k+1)).map (fun c=>m.mem.getD c 0)=(fr.vars.take k).map (fun c=>m.mem.getD c 0)++ [m.mem.getD c 0]:=by
 have:=(drop_cons h).1
 rw[List.take_add_one,this]
 simp
theorem DA (h:Inv p T W y m loc s) {fr:Fr} {r:List Fr} (ht:mJ m fr r) {x:Ex} (hx:x.size<1000000) (htx:x.texts) :
 bG Tryz.prog jN [.ptr 0 0, .agg (bY x)] s (fun d s'=>Rl p T W (zz (m.bg x).1) (m.bg x).2 (fun y'=>y' = {y with vd:=y'.vd}) loc d s'∧s'.au=s.au):=by
 have h1:=h.new (bY x)
 generalize Xr:(s.ah.length,bY x)::loc=Va at h1
 obtain⟨o,ho,R3,c1⟩:=O6 h1 ht.st ht.len
 have hm:=h1.jy
 rw[fk]at hm
 have hl:=h1.uw
 simp only at hm hl
 rw[pe]at R3
 have hvl:=ht.vars
 have PX:=ht.names
 refine bG.uq xU rfl fun B Q hB hQ=>?_
 have⟨hD,hY,hZ,gA⟩:=bX
 -- the rounds
 have loop : ∀ (n k:Nat) (rest:List Nat) (vd:D) (s2:St),s2.au=s.au→rest.length=n→fr.vars.drop k=rest→Inv p T W {y with vd:=vd} m Va s2→jx s2 vd (((fr.vars.take k).map fun c=>m.mem.getD c 0).map qt)→
  br Tryz.prog B 64 QNT (ku 0 (nL (jW Tryz.prog B 64 QO5 Q) Q)) [(0, .ptr 0 0),(3, .ptr s.ah.length 0),(6, .ptr o 0),(24, .slice .shared 1 (fr.vars.map fun c=>fe (y.κ.getD c 0))),(25, .int .i64 (fr.vars.length:Int)),(26, .int .i64 (k:Int))] s2:=by
  intro n
  induction n with
  | zero=>
   intro k rest vd s2 u9 AE hd h2 ha
   have:rest = []:=List.eq_nil_of_length_eq_zero AE
   subst this
   have hD:=drop_nil hd
   have hk:fr.vars.take k=fr.vars:=List.take_of_length_le (List.drop_eq_nil_iff.1 hd)
   rw[hk]at ha
   have Xs:(fr.vars.map fun c=>m.mem.getD c 0)=m.bM:=by unfold Mc.bM;rw[ht.top]
   rw[Xs]at ha
   have jv:=h2.jy
   rw[fk]at jv
   have kT:=h2.uw
   have G3:=(h2.frame 0 o fr ho (by rw[ht.st];rfl)).1
   rw[pe]at G3
   have tu:=(h2.loc (s.ah.length,bY x) (by rw[← Xr];exact List.mem_cons_self ..)).1
   simp only at jv G3 tu
   have c2:aG Tryz.prog wj [.agg (bY x), .slice .shared 1 (fr.names.map encStr),vd] s2 (zz (x.bg fr.names m.bM)) s2:=
    aG.agR ha (fun s=>U8 (by omega) htx (by omega) (by rw[← Xs,List.length_map];omega) s) (by simp[D.ok,lJ]) (by simp[D.ok,Tag.ok,eU]) (by simp[D.flat,D.D7])
   have hw:(m.bg x).1=x.bg fr.names m.bM:=by unfold Mc.bg;rw[ht.top]
   generalize hr:x.bg fr.names m.bM=q at *
   have s9:(m.bg x).2=if q.2 then m else {m with fin:=4}:=by unfold Mc.bg;rw[ht.top,hr]
   obtain⟨q1,q2⟩:=q
   have vD:Inv p T W {y with vd:=vd} {m with fin:=4} Va ⟨s2.ah.set 0 (fk p T W {y with vd:=vd} {m with fin:=4}),s2.au⟩:=h2.tF (m':= {m with fin:=4}) rfl rfl h2.t0 h2.t1
   rw[fk]at vD
   have nu : ∀ q∈loc,q∈Va:=fun q mq=>by rw[← Xr];exact List.mem_cons_of_mem _ mq
   refine br.kH ?_
   cases q2
   ·repeat' (first
 |simp only[go_sem,hD,hY,hZ,gA,jv,kT,G3,tu]
 |(with_reducible refine CU (c2) ?_)
 |(with_reducible first|refine bt fun hc=>?_|refine bu fun hc=>?_|refine bx (fun hc=>?_) fun hc=>?_)<;>(try simp only[hc,bs,↓reduceIte]at h)<;>try simp only[hc]
 |(with_reducible refine aF hQ ?_;(try cases h);simp only[aV,aY,bH,bI,go_sem,hD,hY,hZ,gA,jv,kT,G3,tu];try exact cr)
 |(cases h;replace h:=hr;clear hr;(try simp only[bs,↓reduceIte]at h))
 | (cases h;done))
    (refine gE hQ ?_;simp only[aV,aY,bH,bI,go_sem])
    refine⟨⟨by rw[hw],{y with vd:=vd},rfl, ?_⟩,u9⟩
    rw[s9]
    exact vD.sub nu
   ·repeat' (first
 |simp only[go_sem,hD,hY,hZ,gA,jv,kT,G3,tu]
 |(with_reducible refine CU (c2) ?_)
 |(with_reducible first|refine bt fun hc=>?_|refine bu fun hc=>?_|refine bx (fun hc=>?_) fun hc=>?_)<;>(try simp only[hc,bs,↓reduceIte]at h)<;>try simp only[hc]
 |(with_reducible refine aF hQ ?_;(try cases h);simp only[aV,aY,bH,bI,go_sem,hD,hY,hZ,gA,jv,kT,G3,tu];try exact cr)
 |(cases h;replace h:=hr;clear hr;(try simp only[bs,↓reduceIte]at h))
 | (cases h;done))
    (refine gE hQ ?_;simp only[aV,aY,bH,bI,go_sem])
    refine⟨⟨by rw[hw],{y with vd:=vd},rfl, ?_⟩,u9⟩
    rw[s9]
    exact h2.sub nu
  | succ n ih=>
   intro k rest vd s2 u9 AE hd h2 ha
   cases rest with
   |nil=>cases AE
   | cons c rest=>
    obtain⟨hY,g2,hD,g4⟩:=drop_cons hd
    have cj:k<4611686018427387904:=by omega
    have R4:c<m.mem.length:=(h2.frame 0 o fr ho (by rw[ht.st];rfl)).2.2 c (List.mem_of_getElem? hY)
    have hκ:y.κ[c]? = some (y.κ.getD c 0):=by
     rw[List.getD_eq_getElem?_getD,List.getElem?_eq_getElem (by have:=h2.len;simp only at this;omega)];rfl
    have iy:=h2.cell c _ _ hκ (by rw[List.getElem?_eq_getElem R4])
    have pJ:m.mem[c] = m.mem.getD c 0:=by rw[List.getD_eq_getElem?_getD,List.getElem?_eq_getElem R4];rfl
    rw[pJ]at iy
    generalize agS:m.mem.getD c 0=v at iy
    have jv:=h2.jy
    rw[fk]at jv
    have kT:=h2.uw
    simp only at jv
    have hlen:k<1000000:=by have:=ht.vars;omega
    have hvt:((fr.vars.take (k+1)).map fun c=>m.mem.getD c 0).map qt=((fr.vars.take k).map fun c=>m.mem.getD c 0).map qt++ [.int .i64 v]:=by
     rw[R0 hd m,agS,List.map_append];rfl
    rcases ha with ⟨rfl,e⟩|⟨vo,g,more,rfl,e⟩
    ·have eH:=IW (z:=1) (bytes:=8) .full [.int .i64 v] s2 (by unfold bJ;omega)
     have h3:=h2.O2 (vd:= .dZ 1 s2.ah.length 0 1) (s1:=⟨s2.ah++ [[.int .i64 ((0:Nat):Int), .int .i64 v]],s2.au⟩) (fun o r e _=>by rw[List.getElem?_append_left (fQ e)];exact e)
      ⟨[v], .inr ⟨_,0,[],rfl,by simp[qt]⟩⟩ (.inr (.inr rfl)) rfl
     rw[fk]at h3
     simp only at h3
     refine br.kH ?_
     have hA : ∀ e:List (List D),(s2.ah++e)[0]? = s2.ah[0]? :=fun e=>List.getElem?_append_left kT
     repeat' (first
 |simp only[go_sem,hD,hY,hZ,gA,jv,kT,iy,hY,fe,eH,Option.map_some,hA]
 |(with_reducible first|refine bt fun hc=>?_|refine bu fun hc=>?_|refine bx (fun hc=>?_) fun hc=>?_)<;>(try simp only[hc,bs,↓reduceIte]at h)<;>try simp only[hc]
 |(with_reducible refine aF hQ ?_;(try cases h);simp only[aV,aY,bH,bI,go_sem,hD,hY,hZ,gA,jv,kT,iy,hY,fe,eH,Option.map_some,hA];try exact cr)
 |(cases h;replace h:=hr;clear hr;(try simp only[bs,↓reduceIte]at h))
 | (cases h;done))
     refine br.pE ?_ (ih (k+1) rest _ _ u9 (by simpa using AE) g2 h3 ?_)
     ·simp only [go_sem,aM cj,fe]
      repeat' (first|exact Ok.out|with_reducible refine iQ ?_ ?_)
     ·rw [hvt,e]
      refine .inr ⟨_,0,[],rfl, ?_⟩
      show((s2.ah++ [_]).set 0 _)[s2.ah.length]? = _
      rw[List.getElem?_set_ne (by omega)]
      simp
    ·have oE:(((fr.vars.take k).map fun c=>m.mem.getD c 0).map qt).length=k:=by simp;omega
     have eH:=JX (t:= .full) (bytes:=8) (r:= [.int .i64 v]) e (len:=k) (z:=1) (by rw[oE,Nat.mul_one]) (by unfold bJ;omega)
     rw[oE]at jv h2
     have G4:0≠vo:=fun e'=>(h2.vG (o:=vo) (by simp[D.arr])) e'.symm
     have da:jx ⟨s2.ah.set vo (.int .i64 ((g+1:Nat):Int)::(((fr.vars.take k).map fun c=>m.mem.getD c 0).map qt++ [.int .i64 v])),s2.au⟩ (.dZ 1 vo (g+1) (k+1)) (((fr.vars.take k).map fun c=>m.mem.getD c 0).map qt++ [.int .i64 v]):=
      .inr ⟨vo,g+1,[],by simp;omega,by simp[fQ e]⟩
     have h3:=h2.O2 (vd:= .dZ 1 vo (g+1) (k+1)) (s1:=⟨s2.ah.set vo (.int .i64 ((g+1:Nat):Int)::(((fr.vars.take k).map fun c=>m.mem.getD c 0).map qt++ [.int .i64 v])),s2.au⟩) (fun o r e hn=>by rw[List.getElem?_set_ne (fun e'=>hn (by rw[← e'];simp[D.arr]))];exact e)
      ⟨(fr.vars.take (k+1)).map fun c=>m.mem.getD c 0,by rw[hvt];exact da⟩ (.inl rfl) rfl
     rw[fk]at h3
     simp only at h3
     refine br.kH ?_
     have hA : ∀ e:List D,(s2.ah.set vo e)[0]? = s2.ah[0]? :=fun e=>List.getElem?_set_ne (Ne.symm G4)
     repeat' (first
 |simp only[go_sem,hD,hY,hZ,gA,jv,kT,iy,hY,fe,eH,Option.map_some,hA]
 |(with_reducible first|refine bt fun hc=>?_|refine bu fun hc=>?_|refine bx (fun hc=>?_) fun hc=>?_)<;>(try simp only[hc,bs,↓reduceIte]at h)<;>try simp only[hc]
 |(with_reducible refine aF hQ ?_;(try cases h);simp only[aV,aY,bH,bI,go_sem,hD,hY,hZ,gA,jv,kT,iy,hY,fe,eH,Option.map_some,hA];try exact cr)
 |(cases h;replace h:=hr;clear hr;(try simp only[bs,↓reduceIte]at h))
 |(cases h;done))
     refine br.pE ?_ (ih (k+1) rest _ _ u9 (by simpa using AE) g2 h3 ?_)
     ·simp only [go_sem,aM cj,fe]
      repeat' (first|exact Ok.out|with_reducible refine iQ ?_ ?_)
     ·rw [hvt]
      exact da.keep fun o mo=>by
       have:o=vo:=by simpa[D.arr]using mo
       subst this
       show(List.set _ 0 _)[o]? = _
       rw[List.getElem?_set_ne G4]
 -- the values' slice is emptied
 obtain⟨l,hv⟩:=h1.bM
 have h0:((s.ah++ [bY x])[0]?).isSome=true:=by rw[hm];rfl
 rcases hv with ⟨e,_⟩|⟨vo,g,more,e,e2⟩
 ·rw [e]at hm
  have ub:wR (.dX 1) none (some (.int .i64 0))=some (.dX 1):=by simp[wR,sL,sM]
  have h3:=h1.O2 (vd:= .dX 1) (s1:=⟨s.ah++ [bY x],s.au⟩) (fun _ _ e _=>e) ⟨[], .inl ⟨rfl,rfl⟩⟩ (.inl (by rw[e])) rfl
  have By:=(h3.frame 0 o fr ho (by rw[ht.st];rfl)).1
  rw[fk]at h3 By
  rw[pe]at By
  simp only at h3 By
  repeat' (first
 |simp only[go_sem,hD,hY,hZ,gA,hm,hl,R3,ub,By]
 |(with_reducible refine CU (c1) ?_)
 |(with_reducible first|refine bt fun hc=>?_|refine bu fun hc=>?_|refine bx (fun hc=>?_) fun hc=>?_)<;>(try simp only[hc,bs,↓reduceIte]at h)<;>try simp only[hc]
 |(with_reducible refine aF hQ ?_;(try cases h);simp only[aV,aY,bH,bI,go_sem,hD,hY,hZ,gA,hm,hl,R3,ub,By];try exact cr)
 |(cases h;replace h:=hr;clear hr;(try simp only[bs,↓reduceIte]at h))
 |(cases h;done))
  refine br.pE ?_ (loop _ 0 fr.vars _ _ rfl rfl rfl h3 (.inl ⟨rfl,rfl⟩))
  simp only[go_sem,fe]
  repeat' (first|exact Ok.out|with_reducible refine iQ ?_ ?_)
 ·rw [List.length_map]at e
  rw[e]at hm
  have G4:0≠vo:=fun e'=>(h1.vG (o:=vo) (by rw[e];simp[D.arr])) e'.symm
  have ub:wR (.dZ 1 vo g l.length) none (some (.int .i64 0))=some (.dZ 1 vo g 0):=by simp[wR,sL,sM]
  have h3:=h1.O2 (vd:= .dZ 1 vo g 0) (s1:=⟨s.ah++ [bY x],s.au⟩) (fun _ _ e _=>e) ⟨[], .inr ⟨vo,g,l.map qt++more,rfl,e2⟩⟩ (.inl (by rw[e];rfl)) rfl
  have By:=(h3.frame 0 o fr ho (by rw[ht.st];rfl)).1
  rw[fk]at h3 By
  rw[pe]at By
  simp only at h3 By
  repeat' (first
 |simp only[go_sem,hD,hY,hZ,gA,hm,hl,R3,ub,By]
 |(with_reducible refine CU (c1) ?_)
 |(with_reducible first|refine bt fun hc=>?_|refine bu fun hc=>?_|refine bx (fun hc=>?_) fun hc=>?_)<;>(try simp only[hc,bs,↓reduceIte]at h)<;>try simp only[hc]
 |(with_reducible refine aF hQ ?_;(try cases h);simp only[aV,aY,bH,bI,go_sem,hD,hY,hZ,gA,hm,hl,R3,ub,By];try exact cr)
 |(cases h;replace h:=hr;clear hr;(try simp only[bs,↓reduceIte]at h))
 | (cases h;done))
  refine br.pE ?_ (loop _ 0 fr.vars _ _ rfl rfl rfl h3 (.inr ⟨vo,g,l.map qt++more,rfl, ?_⟩))
  ·simp only [go_sem,fe]
   repeat' (first|exact Ok.out|with_reducible refine iQ ?_ ?_)
  ·show(List.set _ 0 _)[vo]? = _
   rw[List.getElem?_set_ne G4];exact e2
end
end Go.Abs
namespace Go.Abs
set_option maxRecDepth 8000
open Go.Proofs
section
variable {p:Pg} {T W:List Int} {y:Lay} {m:Mc} {loc:List (Nat×List D)} {s:St}
theorem C3:Wk (.slice .full 0 []) (.slice .shared 1 (([] : List Int).map cq)):=Wk.nil _ _ _
theorem vI (h:Inv p T W y m loc s) (hW:W.length<1000000) (ht:m.trace.length<2000000) (id:Int) :
 bG Tryz.prog dY [.ptr 0 0, .int .i64 id, .slice .full 0 []] s (Rl p T W (.tuple []) (m.event W id []) (· = y) loc):=
 bG.pK (.cons (Wk.refl _) (.cons (Wk.refl _) (.cons C3 .nil))) (LW h hW ht id [])
theorem DB (h:Inv p T W y m loc s) (hW:W.length<1000000) (ht:m.trace.length<2000000) (id n:Int) :
 bG Tryz.prog dY [.ptr 0 0, .int .i64 id, .slice .full 1 [[.int .i64 n]]] s (Rl p T W (.tuple []) (m.event W id [n]) (· = y) loc):=
 bG.pK (.cons (Wk.refl _) (.cons (Wk.refl _) (.cons (Wk.shared _ _ _) .nil))) (LW h hW ht id [n])
theorem Zm (h:Inv p T W y m loc s) {fr:Fr} {r:List Fr} (ht:mJ m fr r) {v:Sm} (hv:v.nh) (hW:W.length<1000000) (htr:m.trace.length<2000000) :
 bG Tryz.prog ox [.ptr 0 0, .agg (bm v)] s (Rl p T W (.int .i64 (m.e7 W v).1) (m.e7 W v).2 (fun y'=>y' = {y with vd:=y'.vd}) loc):=by
 have h1:=h.new (bm v)
 have hx:(s.ah++ [bm v])[s.ah.length]? = some (bm v):=by simp
 have nu : ∀ q∈loc,q∈(s.ah.length,bm v)::loc:=fun q mq=>List.mem_cons_of_mem _ mq
 refine bG.uq xR rfl fun B Q hB hQ=>?_
 have⟨hD,hY,hZ,gA⟩:=bX
 rcases Bool.eq_false_or_eq_true v.has with b|b
 ·have c1:=DA h1 ht (x:=v.x) (by have:=hv.2.2;omega) hv.1
  repeat' (first
 |simp only[go_sem,hD,hY,hZ,gA,hx,b]
 |(with_reducible first|refine bt fun hc=>?_|refine bu fun hc=>?_|refine bx (fun hc=>?_) fun hc=>?_)<;>(try simp only[hc,bs,↓reduceIte]at h)<;>try simp only[hc]
 |(with_reducible refine aF hQ ?_;(try cases h);simp only[aV,aY,bH,bI,go_sem,hD,hY,hZ,gA,hx,b];try exact cr)
 | (cases h;done))
  refine CR c1 fun d s2 h2=>?_
  obtain⟨⟨rfl,y2,vJ,h2⟩,_⟩:=h2
  have tu:=(h2.loc (s.ah.length,bm v) (List.mem_cons_self ..)).1
  have hw:=gw m v.x
  simp only at tu
  rcases Bool.eq_false_or_eq_true (m.bg v.x).1.2 with b2|b2
  ·have c2:=DB h2 hW (by rw [hw.2.2.2.2.2];exact htr) v.id (m.bg v.x).1.1
   repeat' (first
 |simp only[go_sem,hD,hY,hZ,gA,tu,b2]
 |(with_reducible first|refine bt fun hc=>?_|refine bu fun hc=>?_|refine bx (fun hc=>?_) fun hc=>?_)<;>(try simp only[hc,bs,↓reduceIte]at h)<;>try simp only[hc]
 |(with_reducible refine aF hQ ?_;(try cases h);simp only[aV,aY,bH,bI,go_sem,hD,hY,hZ,gA,tu,b2];try exact cr)
 | (cases h;done))
   refine CR c2 fun d s3 h3=>?_
   obtain⟨rfl,y3,rfl,h3⟩:=h3
   repeat' (first
 |simp only[go_sem,hD,hY,hZ,gA]
 |(with_reducible first|refine bt fun hc=>?_|refine bu fun hc=>?_|refine bx (fun hc=>?_) fun hc=>?_)<;>(try simp only[hc,bs,↓reduceIte]at h)<;>try simp only[hc]
 |(with_reducible refine aF hQ ?_;exact fX)
 | (cases h;done))
   (refine gE hQ ?_;simp only[aV,aY,bH,bI,go_sem])
   refine⟨by simp only[Mc.e7,b,if_true],y3,vJ, ?_⟩
   simp only[Mc.e7,b,b2,if_true]
   exact h3.sub nu
  ·repeat' (first
 |simp only[go_sem,hD,hY,hZ,gA,tu,b2]
 |(with_reducible first|refine bt fun hc=>?_|refine bu fun hc=>?_|refine bx (fun hc=>?_) fun hc=>?_)<;>(try simp only[hc,bs,↓reduceIte]at h)<;>try simp only[hc]
 |(with_reducible refine aF hQ ?_;(try cases h);simp only[aV,aY,bH,bI,go_sem,hD,hY,hZ,gA,tu,b2];try exact cr)
 | (cases h;done))
   (refine gE hQ ?_;simp only[aV,aY,bH,bI,go_sem])
   refine⟨by simp only[Mc.e7,b,if_true],y2,vJ, ?_⟩
   simp only[Mc.e7,b,b2,if_true,Bool.false_eq_true,if_false]
   exact h2.sub nu
 ·have c1:=vI h1 hW htr v.id
  repeat' (first
 |simp only[go_sem,hD,hY,hZ,gA,hx,b]
 |(with_reducible first|refine bt fun hc=>?_|refine bu fun hc=>?_|refine bx (fun hc=>?_) fun hc=>?_)<;>(try simp only[hc,bs,↓reduceIte]at h)<;>try simp only[hc]
 |(with_reducible refine aF hQ ?_;(try cases h);simp only[aV,aY,bH,bI,go_sem,hD,hY,hZ,gA,hx,b];try exact cr)
 |(cases h;done))
  refine CR c1 fun d s2 h2=>?_
  obtain⟨rfl,y2,rfl,h2⟩:=h2
  repeat' (first
 |simp only[go_sem,hD,hY,hZ,gA]
 |(with_reducible first|refine bt fun hc=>?_|refine bu fun hc=>?_|refine bx (fun hc=>?_) fun hc=>?_)<;>(try simp only[hc,bs,↓reduceIte]at h)<;>try simp only[hc]
 |(with_reducible refine aF hQ ?_;exact fX)
 |(cases h;done))
  (refine gE hQ ?_;simp only[aV,aY,bH,bI,go_sem])
  refine⟨by simp only[Mc.e7,b,Bool.false_eq_true,if_false],y2,rfl, ?_⟩
  simp only[Mc.e7,b,Bool.false_eq_true,if_false]
  exact h2.sub nu
end
end Go.Abs
namespace Go.Abs
set_option maxRecDepth 8000
open Go.Proofs
section
variable {p:Pg} {T W:List Int} {y:Lay} {m:Mc} {loc:List (Nat×List D)} {s:St}
theorem gn.setAt : ∀ {l:List (List D)} {i:Nat} {r r':List D},l[i]? = some r→ji r r'→gn l (l.set i r')
 |a::l,0,r,r',h,w=>by simp at h;subst h;exact .cons w (gn.refl l)
 |a::l,i+1,r,r',h,w=> .cons (ji.refl a) (gn.setAt (l:=l) (by simpa using h) w)
def Lay.push (y:Lay) (n K:Nat) (sd:D):Lay:= {y with κ:=y.κ++(List.range K).map (n+2 + ·),φ:=(n+1)::y.φ,sd:=sd}
theorem Vb {κ:List Nat} {n K j:Nat} (hj:j<K):(κ++(List.range K).map (n+2 + ·)).getD (κ.length+j) 0=n+2+j:=by
 rw[List.getD_eq_getElem?_getD,List.getElem?_append_right (by omega),show κ.length+j - κ.length=j by omega]
 simp[hj]
theorem DC {κ e:List Nat} {c:Nat} (hc:c<κ.length):(κ++e).getD c 0=κ.getD c 0:=by
 rw[List.getD_eq_getElem?_getD,List.getD_eq_getElem?_getD,List.getElem?_append_left hc]
theorem O7 {κ:List Nat} {n:Nat} (h:n≤κ.length):(List.range n).map (fun c=>κ.getD c 0)=κ.take n:=by
 apply List.ext_getElem?
 intro i
 simp only[List.getElem?_map]
 by_cases hi:i<n
 ·rw [List.getElem?_range hi,List.getElem?_take_of_lt hi,List.getElem?_eq_getElem (show i<κ.length by omega)]
  simp[List.getD_eq_getElem?_getD,List.getElem?_eq_getElem (show i<κ.length by omega)]
 ·rw[List.getElem?_eq_none (by simp;omega),List.getElem?_eq_none (by simp;omega)];rfl
theorem Inv.push (h:Inv p T W y m loc s) {K:Nat} {sd:D} {fr:Fr} {s':St} (hg:p.globals.length≤m.mem.length) (hfv : ∀ c∈fr.vars,c<m.mem.length+K)
 (k : ∀ (o:Nat) (r:List D),s.ah[o]? = some r→o≠0→o∉y.sd.arr→s'.ah[o]? = some r)
 (k0:s'.ah[0]? = some (fk p T W (y.push s.ah.length K sd) m)) (kc : ∀ j,j<K→s'.ah[s.ah.length+2+j]? = some [.int .i64 0])
 (kf:s'.ah[s.ah.length+1]? = some (pe (y.push s.ah.length K sd).κ fr)) (ks:jx s' sd ((y.push s.ah.length K sd).φ.reverse.map xn)) (rK:sd.arr=y.sd.arr∨sd.arr = [s.ah.length+2+K])
 (t0:s'.au[0]? = s.au[0]?) (t1:s'.au[1]? = s.au[1]?) :
 Inv p T W (y.push s.ah.length K sd) {m with st:=fr::m.st,mem:=m.mem++List.replicate K 0} loc s':=by
 have zW:=h.own
 rw[Lay.own,List.nodup_cons,List.nodup_append,List.nodup_append]at zW
 obtain⟨n0,nκ,⟨ns,nv,Xp⟩,JV⟩:=zW
 have lt:=h.tt
 have ltκ : ∀ c∈y.κ,c<s.ah.length:=fun c mc=>lt c (by simp[Lay.own,mc])
 have lts : ∀ c∈y.sd.arr,c<s.ah.length:=fun c mc=>lt c (by simp[Lay.own,mc])
 have ltv : ∀ c∈y.vd.arr,c<s.ah.length:=fun c mc=>lt c (by simp[Lay.own,mc])
 have uw:=h.uw
 have JW : ∀ o,o∈(y.push s.ah.length K sd).own→o∈y.own∨(s.ah.length+2≤o∧o≤s.ah.length+2+K):=fun o mo=>by
  simp only[Lay.own,Lay.push,List.mem_cons,List.mem_append,List.mem_map,List.mem_range]at mo ⊢
  rcases mo with rfl|(mo|⟨j,hj,rfl⟩)|mo|mo
  ·exact .inl (.inl rfl)
  ·exact .inl (.inr (.inl mo))
  ·exact .inr ⟨by omega,by omega⟩
  ·rcases rK with e | e
   ·rw[e]at mo;exact .inl (.inr (.inr (.inl mo)))
   ·rw[e]at mo;have:=List.mem_singleton.1 mo;exact .inr ⟨by omega,by omega⟩
  ·exact .inl (.inr (.inr (.inr mo)))
 have g : ∀ {o:Nat} {r:List D},s.ah[o]? = some r→o∉y.own→s'.ah[o]? = some r∧o∉(y.push s.ah.length K sd).own:=fun {o r} e hn=>by
  refine⟨k o r e (fun e0=>hn (by rw[e0];simp[Lay.own])) (fun ms=>hn (by simp[Lay.own,ms])),fun mo=>?_⟩
  rcases JW o mo with mo|mo
  ·exact hn mo
  ·have:=fQ e;omega
 have hlen:=h.len
 refine⟨k0,by rw[t0];exact h.t0,by rw[t1];exact h.t1,by simp[Lay.push,hlen],fun i c v e1 e2=>?_,by simp[Lay.push,h.si],fun i o LY e1 e2=>?_,ks, ?_, ?_,fun q mq=>g (h.loc q mq).1 (h.loc q mq).2⟩
 ·simp only [Lay.push]at e1
  dsimp only at e2
  rcases Nat.lt_or_ge i y.κ.length with hi|hi
  ·rw [List.getElem?_append_left hi]at e1
   rw[List.getElem?_append_left (by omega)]at e2
   have hc:=List.mem_of_getElem? e1
   exact k c _ (h.cell i c v e1 e2) (h.vG (by simp[hc])) (fun ms=>JV c hc c (List.mem_append_left _ ms) rfl)
  ·rw [List.getElem?_append_right hi]at e1
   rw[List.getElem?_append_right (by omega)]at e2
   have hD:=(List.getElem?_eq_some_iff.1 e1).1
   simp only[List.length_map,List.length_range]at hD
   rw[List.getElem?_map,List.getElem?_range hD]at e1
   rw[List.getElem?_replicate_of_lt (by omega)]at e2
   simp only[Option.map_some,Option.some.injEq]at e1 e2
   subst e1 e2
   exact kc _ hD
 ·cases i with
  |zero=>
   simp only[Lay.push,List.getElem?_cons_zero,Option.some.injEq]at e1 e2
   subst e1 e2
   refine⟨kf,fun mo=>?_,fun c mc=>by simp only[List.length_append,List.length_replicate];exact hfv c mc⟩
   rcases JW _ mo with mo|mo
   ·have:=lt _ mo;omega
   ·omega
  |succ i=>
   simp only[Lay.push,List.getElem?_cons_succ]at e1 e2
   obtain⟨f1,f2,f3⟩:=h.frame i o LY e1 e2
   obtain⟨f4,f5⟩:=g f1 f2
   exact⟨by simp only[Lay.push];rw[G2 (by rw[hlen];exact f3)];exact f4,f5,fun c mc=>by have:=f3 c mc;simp only[List.length_append];omega⟩
 ·obtain⟨l,hl⟩:=h.bM
  refine⟨l,hl.keep fun o mo=>?_⟩
  rw[List.getElem?_eq_getElem (ltv o mo)]
  exact k o _ (List.getElem?_eq_getElem _) (h.vG (by simp[mo])) (fun ms=>Xp o ms o mo rfl)
 ·have R5:((List.range K).map (s.ah.length+2 + ·)).Nodup:=by
   rw[List.nodup_iff_pairwise_ne,List.pairwise_map]
   exact List.Pairwise.imp (fun h=>by omega) (List.nodup_iff_pairwise_ne.1 List.nodup_range)
  have E9 : ∀ o∈(List.range K).map (s.ah.length+2 + ·),s.ah.length+2≤o∧o<s.ah.length+2+K:=fun o mo=>by
   obtain⟨j,hj,rfl⟩:=List.mem_map.1 mo
   have:=List.mem_range.1 hj;exact⟨by omega,by omega⟩
  have O8 : ∀ o∈sd.arr,(o∈y.sd.arr)∨o=s.ah.length+2+K:=fun o mo=>by
   rcases rK with e|e
   ·rw[e]at mo;exact .inl mo
   ·rw[e]at mo;exact .inr (List.mem_singleton.1 mo)
  simp only[Lay.own,Lay.push]
  rw[List.nodup_cons,List.nodup_append,List.nodup_append,List.nodup_append]
  refine⟨fun mo=>?_,⟨nκ,R5,fun a ma b mb e=>?_⟩,⟨?_,nv,fun a ma b mb e=>?_⟩,fun a ma b mb e=>?_⟩
  ·simp only [List.mem_append]at mo
   rcases mo with (mo|mo)|mo|mo
   ·exact n0 (by simp[mo])
   ·have:=E9 _ mo;omega
   ·rcases O8 _ mo with mo | mo
    ·exact n0 (by simp[mo])
    ·omega
   ·exact n0 (by simp[mo])
  ·have:=ltκ a ma;have:=E9 b mb;omega
  ·rcases rK with e | e <;> rw [e]
   ·exact ns
   ·simp
  ·rcases O8 a ma with ma | ma
   ·exact Xp a ma b mb e
   ·have:=ltv b mb;omega
  ·rcases List.mem_append.1 ma with ma | ma
   ·rcases List.mem_append.1 mb with mb | mb
    ·rcases O8 b mb with mb | mb
     ·exact JV a ma b (List.mem_append_left _ mb) e
     ·have:=ltκ a ma;omega
    ·exact JV a ma b (List.mem_append_right _ mb) e
   ·have:=E9 a ma
    rcases List.mem_append.1 mb with mb|mb
    ·rcases O8 b mb with mb | mb
     ·have:=lts b mb;omega
     ·omega
    ·have:=ltv b mb;omega
theorem Zn {gl ps:List (List D)} {bytes:Nat} (hb:(gl.length+ps.length)*(bytes+1)≤bJ) (ts:List (Option Nat)) : ∃ (g1 g2:Tag) (z1 z2:Nat) (t1 t2:List (Option Nat)),(∀ os,ig 1 bytes (.slice .full 0 []) (.slice .shared 1 gl) ⟨os,ts⟩=some (.slice g1 z1 gl,⟨os,t1⟩))∧
 (∀ os,ig 1 bytes (.slice g1 z1 gl) (.slice .shared 1 ps) ⟨os,t1⟩=some (.slice g2 z2 (gl++ps),⟨os,t2⟩))∧
 ((g2 = .full∧t2=ts∧gl++ps = [])∨(g2 = .tok ts.length∧z2=1∧t2=ts++ [some (gl++ps).length])):=by
 have h1:gl.length*(bytes+1)≤bJ:=Nat.le_trans (Nat.mul_le_mul_right _ (Nat.le_add_right _ _)) hb
 have h2:ps.length*(bytes+1)≤bJ:=Nat.le_trans (Nat.mul_le_mul_right _ (Nat.le_add_left _ _)) hb
 cases gl with
 |nil=>
  cases ps with
  |nil=>exact⟨.full, .full,0,0,ts,ts,fun os=>zB os ts,fun os=>zB os ts, .inl ⟨rfl,rfl,rfl⟩⟩
  |cons a ps=>exact⟨.full, .tok ts.length,0,1,ts,_,fun os=>zB os ts,fun os=>zA (by simp) h2 os ts, .inr ⟨rfl,rfl,rfl⟩⟩
 |cons a gl=>
  refine⟨.tok ts.length, .tok ts.length,1,1,ts++ [some (a::gl).length],ts++ [some (a::gl++ps).length],fun os=>zA (by simp) h1 os ts,fun os=>?_, .inr ⟨rfl,rfl,rfl⟩⟩
  rw[oU (size:=1) hb (by simp)]
  simp;omega
theorem LZ (h:Inv p T W y m loc s) (hp:p.iR) (hb:p.may=true) {i:Nat} {f:Pc} (hf:p.procs[i]? = some f) (agT:p.find f.name=some f) (ja:m.st.length<1000000) {l:List Nat} (hl : ∀ c∈l,c<m.mem.length) (Gw:l.length<1000000)
 (hg:p.globals.length≤m.mem.length) (call:Int) :
 ∃ y' s',aG Tryz.prog jd [.ptr 0 0, .int .i64 (i:Int), .slice .shared 1 (l.map fun c=>fe (y.κ.getD c 0)), .int .i64 call] s (.int .i64 (m.open p (i:Int) l call).1) s'∧Inv p T W y' (m.open p (i:Int) l call).2 loc s':=by
 have hm:=h.jy
 rw[fk]at hm
 have qv:=h.uw
 obtain⟨rI,rn,rm⟩:=hp.procs
 have vA:=hp.small (List.mem_of_getElem? hf)
 have cV:=fun s=>ada hp hb agT s
 have cF:=fun s=>Zl hb hf s
 have hi:i<p.procs.length:=(List.getElem?_eq_some_iff.1 hf).1
 obtain⟨g1,g2,z1,z2,t1,t2,a1,a2,a3⟩:=Zn (gl:=(y.κ.take p.globals.length).map fe) (ps:=l.map fun c=>fe (y.κ.getD c 0)) (bytes:=8) (by simp only[List.length_map,List.length_take];unfold bJ;omega) s.au
 have hA : ∀ e:List (List D),(s.ah++e)[0]? = s.ah[0]? :=fun e=>List.getElem?_append_left qv
 have n0 : ∀ e1 e2:List (List D),(s.ah++e1++e2)[0]? = s.ah[0]? :=fun e1 e2=>by rw[List.append_assoc];exact hA _
 have n1 : ∀ a b:List D,(s.ah++ [a]++ [b])[s.ah.length+1]? = some b:=fun a b=>by simp
 have n2 : ∀ a b:List D,(s.ah++ [a]++ [b])[s.ah.length]? = some a:=fun a b=>by simp
 have n3 : ∀ a b c:List D,(s.ah++ [a]++ [b]).set (s.ah.length+1) c=s.ah++ [a]++ [c]:=fun a b c=>by simp[List.append_assoc,List.set_append_right]
 have n4 : ∀ a:List D,(s.ah++ [a])[s.ah.length]? = some a:=fun a=>by simp
 have n5 : ∀ a b:List D,(s.ah++ [a]).set s.ah.length b=s.ah++ [b]:=fun a b=>by simp
 have hpc:cf f = [.str f.name, .slice .shared 2 (f.params.map iB), .slice .shared 1 (f.vars.map encStr), .slice .shared 13 (f.body.map bm), .slice .shared 1 (f.fin.map encStr)]:=rfl
 generalize hn:s.ah.length=n at *
 have Lf:(m.open p (i:Int) l call).1=fU f.body (-1)∧(m.open p (i:Int) l call).2 = {m with st:=⟨(i:Int),p.globals++f.own,List.range p.globals.length++l++(List.range f.vars.length).map (m.mem.length + ·),call⟩::m.st,mem:=m.mem++List.replicate f.vars.length 0}:=by
  unfold Mc.open
  rw[Int.toNat_natCast,hf]
  exact⟨rfl,rfl⟩
 rw[Lf.1,Lf.2]
 generalize jZ:(y.κ.take p.globals.length).map fe++l.map (fun c=>fe (y.κ.getD c 0))=j8 at *
 have hgr:j8.length<2000000:=by rw[← jZ];simp only[List.length_append,List.length_map,List.length_take];omega
 have hvl:=vA.vars
 -- the states of the rounds
 let fr:Nat→List D:=fun k=> [.int .i64 (i:Int), .slice .shared 1 ((p.globals++f.own).map encStr), .slice (.tok s.au.length) 1 (j8++(List.range k).map (fun j=>fe (n+2+j))), .int .i64 call]
 obtain⟨O,hO⟩ : ∃ O:Nat→List (List D),∀ k,O k=s.ah++ [cf f]++ [fr k]++List.replicate k [.int .i64 0]:=⟨_,fun _=>rfl⟩
 have oL : ∀ k,(O k).length=n+2+k:=fun k=>by rw[hO];simp[hn];omega
 have Vd : ∀ k o,o<n→(O k)[o]? = s.ah[o]? :=fun k o ho=>by rw[hO,List.append_assoc,List.append_assoc,List.getElem?_append_left (by omega)]
 have oF : ∀ k,(O k)[n+1]? = some (fr k):=fun k=>by rw[hO,List.getElem?_append_left (by simp[hn])];simp[hn]
 have oC : ∀ k j,j<k→(O k)[n+2+j]? = some [.int .i64 0]:=fun k j hj=>by
  rw[hO,List.getElem?_append_right (by simp only[List.length_append,List.length_singleton,hn];omega)]
  simp only[List.length_append,List.length_singleton,hn]
  rw[show n+2+j - (n+1+1)=j by omega,List.getElem?_replicate_of_lt hj]
 have oF' : ∀ k e,(O k++e)[n+1]? = some (fr k):=fun k e=>by rw[List.getElem?_append_left (by rw[oL];omega)];exact oF k
 have o0 : ∀ k,(O k)[0]? = s.ah[0]? :=fun k=>Vd k 0 qv
 have o0' : ∀ k e,(O k++e)[0]? = s.ah[0]? :=fun k e=>by rw[List.getElem?_append_left (by rw[oL];omega)];exact o0 k
 have oS : ∀ k,(O k++ [[D.int .i64 0]]).set (n+1) (fr (k+1))=O (k+1):=fun k=>by
  rw[hO,hO,List.replicate_succ']
  simp only[List.append_assoc]
  rw[List.set_append_right _ _ (by omega),hn,show n+1 - n=1 by omega]
  rfl
 have zD:(List.range p.globals.length++l++(List.range f.vars.length).map (m.mem.length + ·)).map (fun c=>fe ((y.push n f.vars.length .dO).κ.getD c 0))=j8++(List.range f.vars.length).map (fun j=>fe (n+2+j)):=by
  simp only[List.map_append,List.map_map,Lay.push, ← jZ]
  congr 1
  ·congr 1
   ·rw [← O7 (by rw [h.len];exact hg),List.map_map]
    exact List.map_congr_left fun c mc=>by simp only[Function.comp];rw[DC (by rw[h.len];have:=List.mem_range.1 mc;omega)]
   ·exact List.map_congr_left fun c mc=>by rw[DC (by rw[h.len];exact hl c mc)]
  ·exact List.map_congr_left fun j mj=>by simp only[Function.comp];rw[← h.len,Vb (List.mem_range.1 mj)]
 have amW:ji (fr f.vars.length) (pe (y.push n f.vars.length .dO).κ ⟨(i:Int),p.globals++f.own,List.range p.globals.length++l++(List.range f.vars.length).map (m.mem.length + ·),call⟩):=by
  unfold pe
  dsimp only
  rw[zD]
  exact .cons (Wk.refl _) (.cons (Wk.refl _) (.cons (Wk.shared _ _ _) (.cons (Wk.refl _) .nil)))
 -- the stack
 generalize hK:f.vars.length=K at *
 obtain⟨sd,O',e1,e3,e4,e5,e6⟩ : ∃ (sd:D) (O':List (List D)),(∀ tm:Tm,tm.get 70=y.sd→tm.get 72 = .slice .full 1 [[.ptr (n+1) 0]]→aI (.app 1 8 (.s 70) (.s 72)) tm ⟨O K,s.au++ [some (j8.length+K)]⟩=some (sd,⟨O',s.au++ [some (j8.length+K)]⟩))∧
  (∀ (o:Nat) (r:List D),(O K)[o]? = some r→o∉y.sd.arr→O'[o]? = some r)∧jx ⟨O',s.au⟩ sd (((n+1)::y.φ).reverse.map xn)∧(sd.arr=y.sd.arr∨sd.arr = [n+2+K])∧sd.row=some [sd]:=by
  rcases h.stack with ⟨e,e2⟩|⟨so,g,more,e,e2⟩
  ·have hφ:y.φ = []:=by simpa using e2
   refine⟨.dZ 1 (n+2+K) 0 1,O K++ [[.int .i64 ((0:Nat):Int), .ptr (n+1) 0]],fun tm h1 h2=>?_,fun o r e _=>by rw[List.getElem?_append_left (fQ (s:=⟨O K,[]⟩) e)];exact e, .inr ⟨n+2+K,0,[],by simp[hφ], ?_⟩, .inr rfl,rfl⟩
   ·simp only [aI,X.ev,h1,h2,e]
    rw[IW _ _ _ (by unfold bJ;omega)]
    simp only[oL]
   ·rw [hφ]
    show(O K++ [_])[n+2+K]? = _
    rw[← oL K]
    simp[xn]
  ·have amX:so<n:=by have:=fQ e2;omega
   have hlen:(y.φ.reverse.map xn).length=m.st.length:=by simp[h.si]
   have e2':(O K)[so]? = some (.int .i64 ((g:Nat):Int)::(y.φ.reverse.map xn++more)):=by rw[Vd K so amX];exact e2
   rw[hlen]at e
   refine⟨.dZ 1 so (g+1) (m.st.length+1),(O K).set so (.int .i64 ((g+1:Nat):Int)::(y.φ.reverse.map xn++ [.ptr (n+1) 0])),fun tm h1 h2=>?_,fun o r e hn=>?_, .inr ⟨so,g+1,[],by simp[h.si], ?_⟩, .inl (by rw[e];rfl),rfl⟩
   ·simp only [aI,X.ev,h1,h2,e]
    rw[JX (s:=⟨O K,_⟩) e2' (by rw[hlen,Nat.mul_one]) (by unfold bJ;omega)]
   ·rw[List.getElem?_set_ne (fun e'=>hn (by rw[‹y.sd=_›, ← e'];simp[D.arr]))];exact e
   ·simp[oL,show so<n+2+K by omega,xn]
 have o'0:O'[0]? = s.ah[0]? :=by
  rw[hm]
  exact e3 0 _ (by rw[o0];exact hm) (fun mo=>(h.vG (by simp[mo])) rfl)
 have Xt:0<O'.length:=fQ (s:=⟨O',[]⟩) (o'0.trans hm)
 have o'f:O'[n+1]? = some (fr K):=e3 _ _ (oF K) (fun mo=>by have:=h.tt (n+1) (by simp[Lay.own,mo]);omega)
 let row:=fk p T W (y.push n K sd) {m with st:=⟨(i:Int),p.globals++f.own,List.range p.globals.length++l++(List.range K).map (m.mem.length + ·),call⟩::m.st,mem:=m.mem++List.replicate K 0}
 refine⟨y.push n K sd,⟨(O'.set 0 row).set (n+1) (pe (y.push n K sd).κ ⟨(i:Int),p.globals++f.own,List.range p.globals.length++l++(List.range K).map (m.mem.length + ·),call⟩),s.au++ [some (j8.length+K)]⟩, ?_, ?_⟩
 case refine_2=>
  subst hn
  have gO : ∀ (o:Nat) (r:List D),O'[o]? = some r→o≠0→o≠s.ah.length+1→((O'.set 0 row).set (s.ah.length+1) (pe (y.push s.ah.length K sd).κ ⟨(i:Int),p.globals++f.own,List.range p.globals.length++l++(List.range K).map (m.mem.length + ·),call⟩))[o]? = some r:=fun o r e h1 h2=>by
   rw[List.getElem?_set_ne (Ne.symm h2),List.getElem?_set_ne (Ne.symm h1)];exact e
  refine h.push (K:=K) (sd:=sd) hg (fun c mc=>?_) (fun o r e h1 h2=>?_) ?_ (fun j hj=>?_) ?_ (e4.keep fun o mo=>?_) e5 ?_ ?_
  ·simp only [List.mem_append,List.mem_range,List.mem_map]at mc
   rcases mc with (mc|mc)|⟨x,mc,rfl⟩
   ·omega
   ·have:=hl c mc;omega
   ·omega
  ·have:=fQ e
   exact gO o r (e3 o r (by rw[Vd K o this];exact e) h2) h1 (by omega)
  ·rw [List.getElem?_set_ne (by omega)]
   simp[Xt,row]
  ·refine gO _ _ (e3 _ _ (oC K j hj) fun mo=> ?_) (by omega) (by omega)
   have:=h.tt _ (show s.ah.length+2+j∈y.own by simp[Lay.own,mo]);omega
  ·have:=fQ (s:=⟨O',[]⟩) o'f
   rw[List.getElem?_set_self (by rw[List.length_set];exact this)]
  ·have:o≠0∧o≠s.ah.length+1:=by
    rcases e5 with e|e
    ·rw [e]at mo
     have h1:=h.tt o (by simp[Lay.own,mo])
     exact⟨h.vG (by simp[mo]),by omega⟩
    ·rw [e]at mo
     have:=List.mem_singleton.1 mo
     exact⟨by omega,by omega⟩
   show(List.set _ _ _)[o]? = _
   rw[List.getElem?_set_ne (Ne.symm this.2),List.getElem?_set_ne (Ne.symm this.1)]
  ·exact List.getElem?_append_left (List.getElem?_eq_some_iff.1 h.t0).1
  ·exact List.getElem?_append_left (List.getElem?_eq_some_iff.1 h.t1).1
 refine bG.up ?_
 refine bG.uq yU rfl fun B Q hB hQ=>?_
 have⟨hD,hY,hZ,gA⟩:=bX
 have loop : ∀ d k:Nat,k+d=K→br Tryz.prog B 82 Q9W (ku 0 (nL (jW Tryz.prog B 82 QA3 Q) Q))
  [(0, .ptr 0 0),(1, .int .i64 (i:Int)),(10, .ptr (n+1) 0),(52, .int .i64 (K:Int)),(53, .int .i64 (k:Int))] ⟨O k,s.au++ [some (j8.length+k)]⟩:=by
  intro d
  induction d with
  |zero=>
   intro k hk
   have ud:k=K:=by omega
   subst ud
   have hD:decide ((k:Int)<(k:Int))=false:=by simp
   have jv:=o'0.trans hm
   have G3:=o'f
   have uW : ∀ r,(O'.set 0 r)[0]? = some r:=fun r=>List.getElem?_set_self Xt
   refine br.kH ?_
   repeat' (first
 |simp only[go_sem,hD,hY,hZ,gA,hm,o0,e1,e6,jv,Xt,uW]
 |(with_reducible refine CU (cF _) ?_)
 |(with_reducible first|refine bt fun hc=>?_|refine bu fun hc=>?_|refine bx (fun hc=>?_) fun hc=>?_)<;>(try simp only[hc,bs,↓reduceIte]at h)<;>try simp only[hc]
 |(with_reducible refine aF hQ ?_;(try cases h);simp only[aV,aY,bH,bI,go_sem,hD,hY,hZ,gA,hm,o0,e1,e6,jv,Xt,uW];try exact cr)
 | (cases h;done))
   (refine gE hQ ?_;simp only[aV,aY,bH,bI,go_sem])
   have dT:row = [.dt (fq p) 0, .slice .shared 1 ((y.κ.take p.globals.length).map fe), .slice .shared 1 (T.map cq), .slice .shared 1 (W.map cq),sd,y.vd,
    .int .i64 m.fin, .int .i64 m.steps, .int .i64 m.reads, .slice (.tok 0) 1 (m.out.map cq), .slice (.tok 1) 2 (m.trace.map nV)]:=by
    simp only[row,fk,Lay.push]
    rw[List.take_append_of_le_length (by rw[h.len];exact hg)]
   refine⟨_,⟨(O'.set 0 row).set (n+1) _,_⟩,Wk.refl _, ?_,rfl,rfl,rfl⟩
   rw[dT]
   exact gn.setAt (by rw[List.getElem?_set_ne (by omega)];exact G3) amW
  | succ d ih=>
   intro k hk
   have hD:decide ((k:Int)<(K:Int))=true:=by simp;omega
   have cj:k<4611686018427387904:=by omega
   have hfk:=oF k
   have Ve:=oF' k [[.int .i64 0]]
   have eH:ig 1 8 (.slice (.tok s.au.length) 1 (j8++(List.range k).map (fun j=>fe (n+2+j)))) (.slice .full 1 [[.ptr (n+2+k) 0]]) ⟨O k++ [[.int .i64 0]],s.au++ [some (j8.length+k)]⟩ =
    some (.slice (.tok s.au.length) 1 (j8++(List.range (k+1)).map (fun j=>fe (n+2+j))),⟨O k++ [[.int .i64 0]],s.au++ [some (j8.length+(k+1))]⟩):=by
    rw[oU (size:=1) (by simp only[List.length_append,List.length_map,List.length_range,List.length_singleton];unfold bJ;omega) (by simp)]
    simp[List.range_succ,fe,Nat.add_assoc]
   have oSk:=oS k
   simp only[fr,List.map_append,List.range_succ,List.map_cons,List.map_nil]at hfk Ve oSk
   refine br.kH ?_
   repeat' (first
 |simp only[go_sem,hD,hY,hZ,gA,hfk,Ve,oL,eH,oSk]
 |(with_reducible first|refine bt fun hc=>?_|refine bu fun hc=>?_|refine bx (fun hc=>?_) fun hc=>?_)<;>(try simp only[hc,bs,↓reduceIte]at h)<;>try simp only[hc]
 |(with_reducible refine aF hQ ?_;(try cases h);simp only[aV,aY,bH,bI,go_sem,hD,hY,hZ,gA,hfk,Ve,oL,eH,oSk];try exact cr)
 | (cases h;done))
   refine br.pE ?_ (ih (k+1) (by omega))
   simp only[go_sem,aM cj]
   repeat' (first|exact Ok.out|with_reducible refine iQ ?_ ?_)
 have l0:=loop K 0 (by omega)
 have hO0:O 0=s.ah++ [cf f]++ [fr 0]:=by rw[hO];simp
 rw[hO0]at l0
 repeat' (first
 |simp only[go_sem,hD,hY,hZ,gA,hm,hA,n0,n1,n2,n3,n4,n5,hf,a1,a2,nS, ← Ek,hn]
 |(with_reducible refine CU (cV _) ?_)
 |(with_reducible first|refine bt fun hc=>?_|refine bu fun hc=>?_|refine bx (fun hc=>?_) fun hc=>?_)<;>(try simp only[hc,bs,↓reduceIte]at h)<;>try simp only[hc]
 |(with_reducible refine aF hQ ?_;(try cases h);simp only[aV,aY,bH,bI,go_sem,hD,hY,hZ,gA,hm,hA,n0,n1,n2,n3,n4,n5,hf,a1,a2,nS, ← Ek,hn];try exact cr)
 |(cases h;done))
 simp only[fr,List.range_zero,List.map_nil,List.append_nil,List.map_append]at l0
 rcases a3 with ⟨rfl,rfl,rfl⟩|⟨rfl,rfl,rfl⟩
 ·refine br.C8 (n+1) 2 1 (n1 _ _) rfl ?_
  simp only[n3,List.set_cons_succ,List.set_cons_zero]
  refine br.pE ?_ l0
  simp only[go_sem,hK]
  repeat' (first|exact Ok.out|with_reducible refine iQ ?_ ?_)
 ·refine br.pE ?_ l0
  simp only[go_sem,hK]
  repeat' (first|exact Ok.out|with_reducible refine iQ ?_ ?_)
end
end Go.Abs
namespace Go.Abs
set_option maxRecDepth 8000
open Go.Proofs
section
variable {p:Pg} {T W:List Int} {y:Lay} {m:Mc} {loc:List (Nat×List D)} {s:St}
def vK (fr:Fr) (name:aE) (c:Nat):Prop:=∃ j:Nat,iW name 0 fr.names=(j:Int)∧fr.vars[j]? = some c
theorem vK.cell {fr:Fr} {name:aE} {c:Nat} (h:vK fr name c) (ht:m.top=fr):m.cell name=c:=by
 obtain⟨j,h1,h2⟩:=h
 unfold Mc.cell
 rw[ht,h1,Int.toNat_natCast,List.getD_eq_getElem?_getD,h2];rfl
theorem Inv.pop (h:Inv p T W y m loc s) {fr:Fr} {r:List Fr} (ja:m.st=fr::r) {so g:Nat} (rK:y.sd = .dZ 1 so g (r.length+1)) :
 Inv p T W {y with φ:=y.φ.tail,sd:= .dZ 1 so g r.length} {m with st:=r} loc ⟨s.ah.set 0 (fk p T W {y with φ:=y.φ.tail,sd:= .dZ 1 so g r.length} {m with st:=r}),s.au⟩:=by
 have gP:(D.dZ 1 so g r.length).arr=y.sd.arr:=by rw[rK];rfl
 have O9:Lay.own {y with φ:=y.φ.tail,sd:= .dZ 1 so g r.length} = y.own:=by simp only[Lay.own,gP]
 have iz:=h.si
 rw[ja]at iz
 have ne : ∀ {q:Nat} {r':List D},s.ah[q]? = some r'→q≠0→(s.ah.set 0 (fk p T W {y with φ:=y.φ.tail,sd:= .dZ 1 so g r.length} {m with st:=r}))[q]? = some r':=fun e hn=>by
  rw[List.getElem?_set_ne (Ne.symm hn)];exact e
 have nf : ∀ {q:Nat},q∉y.own→q≠0:=fun hq e=>hq (by rw[e];simp[Lay.own])
 obtain⟨l,hl⟩:=h.bM
 refine⟨by simp[h.uw],h.t0,h.t1,h.len,fun i c v e1 e2=>ne (h.cell i c v e1 e2) (h.vG (by simp[List.mem_of_getElem? e1])),by simp[iz],fun i o LY e1 e2=>?_, ?_,⟨l,hl.keep fun o mo=>?_⟩,by rw[O9];exact h.own,fun q mq=>?_⟩
 ·obtain⟨f1,f2,f3⟩:=h.frame (i+1) o LY (by simpa [List.getElem?_tail]using e1) (by rw [ja];simpa using e2)
  exact⟨ne f1 (nf f2),by rw[O9];exact f2,f3⟩
 ·cases hφ:y.φ with
  |nil=>rw[hφ]at iz;simp at iz
  | cons o φ=>
   rw[hφ]at iz
   rcases h.stack with ⟨e,_⟩|⟨so',g',more,e,e2⟩
   ·rw[e]at rK;cases rK
   ·have e':=e
    rw[rK,D.dZ.injEq]at e'
    obtain⟨_,rfl,rfl,_⟩:=e'
    refine .inr ⟨so,g,[.ptr o 0]++more,by simp at iz ⊢;omega,ne ?_ (h.vG (by rw[rK];simp[D.arr]))⟩
    rw[e2,hφ]
    simp[xn]
 ·show(s.ah.set 0 _)[o]? = _
  rw[List.getElem?_set_ne (Ne.symm (h.vG (by simp[mo])))]
 ·obtain⟨f1,f2⟩:=h.loc q mq
  exact⟨ne f1 (nf f2),by rw[O9];exact f2⟩
theorem JY {L:List Im} {c:Nat} {it:Im} (h:L[c]? = some it) {a:Int} (ha:a=(c:Int)+1):fc L a=it:=by
 unfold fc
 rw[ha,show((c:Int)+1 - 1).toNat=c by omega,List.getD_eq_getElem?_getD,h];rfl
theorem Zo (h:Inv p T W y m loc s) {fr:Fr} {r:List Fr} (ht:mJ m fr r) (hL:p.aT.L.length<1000000)
 (hc:fr.call=0∨∃ (c:Nat) (it:Im) (uv:Fr) (r2:List Fr),fr.call=(c:Int)+1∧p.aT.L[c]? = some it∧mJ {m with st:=r} uv r2∧(it.s.name≠ []→∃ k,vK uv it.s.name k)) (xl:Int) :
 bG Tryz.prog oy [.ptr 0 0, .int .i64 xl] s (Rl p T W (.int .i64 (m.close p.aT.L xl).1) (m.close p.aT.L xl).2 (fun y'=>∃ sd,y' = {y with φ:=y.φ.tail,sd:=sd}) loc):=by
 obtain⟨so,g,cells,o,h1,h2,h3,h4,h5⟩:=h.U9 ht.st
 obtain⟨o',_,z8,c1⟩:=O6 h ht.st ht.len
 have ho:o'=o:=by rw[h5]at *;cases ‹some o=some o'›;rfl
 subst ho
 have hm:=h.jy
 rw[fk,h1]at hm
 have hl:=h.uw
 have hp:=h.pop ht.st h1
 have hpf:=hp.jy
 have hlen:=ht.len
 have hw:IntKind.wrap .i64 (((r.length+1:Nat):Int) - 1)=((r.length:Nat):Int):=by rw[show((r.length+1:Nat):Int) - 1=(r.length:Int) by omega];exact dV (by omega) (by omega)
 have ub:wR (.dZ 1 so g (r.length+1)) none (some (.int .i64 (r.length:Int)))=some (.dZ 1 so g r.length):=by simp[wR,sL,sM];omega
 have uW : ∀ r,(s.ah.set 0 r)[0]? = some r:=fun r=>List.getElem?_set_self hl
 rw[pe]at z8
 have oE:m.close p.aT.L xl=if fr.call==0 then(-1,{{m with st:=r}with fin:=1})else((fc p.aT.L fr.call).next,if(fc p.aT.L fr.call).s.name == []then {m with st:=r}else({m with st:=r} : Mc).set (fc p.aT.L fr.call).s.name xl):=by
  unfold Mc.close
  rw[ht.top,ht.st];rfl
 rw[oE]
 rcases hc with hc|⟨c,it,uv,r2,hc,pG,td,hn⟩
 ·rw [hc]at z8
  have e0:((0:Int)==0)=true:=rfl
  have h5:=hp.tF (m':= {{m with st:=r}with fin:=1}) rfl rfl hp.t0 hp.t1
  rw[fk]at h5
  simp only[List.set_set]at h5
  rw[hc,if_pos e0]
  refine bG.uq qz rfl fun B Q hB hQ=>?_
  have⟨hD,hY,hZ,gA⟩:=bX
  repeat' (first
 |simp only[go_sem,hD,hY,hZ,gA,hm,hl,hw,ub,uW,z8,e0,List.set_set]
 |(with_reducible refine CU (c1) ?_)
 |(with_reducible first|refine bt fun hc=>?_|refine bu fun hc=>?_|refine bx (fun hc=>?_) fun hc=>?_)<;>(try simp only[hc,bs,↓reduceIte]at h)<;>try simp only[hc]
 |(with_reducible refine aF hQ ?_;(try cases h);simp only[aV,aY,bH,bI,go_sem,hD,hY,hZ,gA,hm,hl,hw,ub,uW,z8,e0,List.set_set];try exact cr)
 |(cases h;done))
  (refine gE hQ ?_;simp only[aV,aY,bH,bI,go_sem])
  exact⟨rfl,_,⟨_,rfl⟩,h5⟩
 ·rw [hc]at z8
  have Bz:IntKind.wrap .i64 ((c:Int)+1 - 1)=(c:Int):=by
   have:=(List.getElem?_eq_some_iff.1 pG).1
   rw[show(c:Int)+1 - 1=(c:Int) by omega];exact dV (by omega) (by omega)
  have e0:((c:Int)+1==0)=false:=by simp;omega
  have amY:=JY pG hc
  have hz : ∀ (z:List D) (e:List D),(s.ah.set 0 e++ [z]).set s.ah.length (dq it)=s.ah.set 0 e++ [dq it]:=fun z e=>by simp
  have hg : ∀ z e:List D,(s.ah.set 0 e++ [z])[s.ah.length]? = some z:=fun z e=>by simp
  have cS:(fq p)[2]? = some (.slice .shared 17 (p.aT.L.map dq)):=rfl
  have Gw : ∀ e:List D,(s.ah.set 0 e).length=s.ah.length:=fun e=>List.length_set
  have da:=hp.new (dq it)
  rw[fk]at da
  simp only[Gw]at da
  have Ew:dq it = [.int .i64 it.s.id, .int .i64 it.s.kind, .slice .shared 1 (it.s.labels.map encStr), .str it.s.name, .str it.s.proc, .int .i64 it.s.x.op, .int .i64 it.s.x.n, .str it.s.x.name, .slice .shared 4 (it.s.x.kids.map bY), .bool it.s.has, .slice .shared 6 (it.s.args.map ek), .slice .shared 13 (it.s.a7.map bm), .slice .shared 13 (it.s.aX.map bm), .int .i64 it.proc, .int .i64 it.up, .int .i64 it.next, .int .i64 it.loop]:=rfl
  have c3:(dq it)[3]? = some (.str it.s.name):=rfl
  rw[hc,if_neg (by rw[e0];simp),show fc p.aT.L ((c:Int)+1)=it from hc ▸ amY]
  refine bG.uq qz rfl fun B Q hB hQ=>?_
  have⟨hD,hY,hZ,gA⟩:=bX
  rcases Bool.eq_false_or_eq_true (it.s.name == [])with b|b
  ·repeat' (first
 |simp only[go_sem,hD,hY,hZ,gA,hm,hl,hw,ub,uW,z8,e0,Bz,pG,hz,hg,Gw,c3,b,cS]
 |(with_reducible refine CU (c1) ?_)
 |(with_reducible first|refine bt fun hc=>?_|refine bu fun hc=>?_|refine bx (fun hc=>?_) fun hc=>?_)<;>(try simp only[hc,bs,↓reduceIte]at h)<;>try simp only[hc]
 |(with_reducible refine aF hQ ?_;(try cases h);simp only[aV,aY,bH,bI,go_sem,hD,hY,hZ,gA,hm,hl,hw,ub,uW,z8,e0,Bz,pG,hz,hg,Gw,c3,b,cS];try exact cr)
 | (cases h;done))
   (refine gE hQ ?_;simp only[aV,aY,bH,bI,go_sem])
   refine⟨rfl,{y with φ:=y.φ.tail,sd:= .dZ 1 so g r.length},⟨_,rfl⟩, ?_⟩
   simp only[b,if_true]
   exact da.sub fun q mq=>List.mem_cons_of_mem _ mq
  ·obtain⟨k,hk⟩:=hn (by intro e;rw [e]at b;cases b)
   have JZ:=hk.cell td.top
   obtain⟨j,hj,BA⟩:=hk
   have c2:=Cb da td.st td.len td.names hj BA
   have hkm:k<m.mem.length:=by
    have hlp:=hp.si
    rw[td.st]at hlp
    cases hφ:y.φ.tail with
    |nil=>simp[hφ]at hlp
    |cons o2 φ2=>exact(hp.frame 0 o2 uv (by simp[hφ]) (by rw[td.st];rfl)).2.2 k (List.mem_of_getElem? BA)
   have hκ:y.κ[k]? = some (y.κ.getD k 0):=by
    rw[List.getD_eq_getElem?_getD,List.getElem?_eq_getElem (by have:=h.len;omega)];rfl
   have iy:=da.cell k _ _ hκ (List.getElem?_eq_getElem hkm)
   have vD:=da.U5 hκ xl
   have je:=(vD.loc (s.ah.length,dq it) (List.mem_cons_self ..)).1
   simp only at iy vD je c2
   have hb:(it.s.name != [])=true:=by simp[bne,b]
   repeat' (first
 |simp only[go_sem,hD,hY,hZ,gA,hm,hl,hw,ub,uW,z8,e0,Bz,pG,hz,hg,Gw,c3,b,cS,iy,je]
 |(with_reducible refine CU (c1) ?_)
 |(with_reducible refine CU (c2) ?_)
 |(with_reducible first|refine bt fun hc=>?_|refine bu fun hc=>?_|refine bx (fun hc=>?_) fun hc=>?_)<;>(try simp only[hc,bs,↓reduceIte]at h)<;>try simp only[hc]
 |(with_reducible refine aF hQ ?_;(try cases h);simp only[aV,aY,bH,bI,go_sem,hD,hY,hZ,gA,hm,hl,hw,ub,uW,z8,e0,Bz,pG,hz,hg,Gw,c3,b,cS,iy,je];try exact cr)
 | (cases h;done))
   (refine gE hQ ?_;simp only[aV,aY,bH,bI,go_sem])
   refine⟨rfl,{y with φ:=y.φ.tail,sd:= .dZ 1 so g r.length},⟨_,rfl⟩, ?_⟩
   simp only[b,Bool.false_eq_true,if_false,Mc.set,JZ]
   exact vD.sub fun q mq=>List.mem_cons_of_mem _ mq
end
end Go.Abs
namespace Go.Abs
set_option maxRecDepth 8000
open Go.Proofs
section
variable {p:Pg} {T W:List Int} {y:Lay} {m:Mc} {loc:List (Nat×List D)} {s:St}
structure adh (p:Pg) (fr:Fr) (it:Im):Prop where
 said:it.s.nh
 brk:it.s.kind=7→∃ (c:Nat) (it2:Im),it.loop=(c:Int)+1∧p.aT.L[c]? = some it2
 FD:it.s.kind=10→∃ (i:Nat) (f:Pc),it.proc=(i:Int)∧p.procs[i]? = some f
 name:it.s.kind=1∨it.s.kind=2→∃ k,vK fr it.s.name k
 a7:it.s.a7.length<1000000
 aX:it.s.aX.length<1000000
structure HN (p:Pg) (T W:List Int) (m:Mc):Prop where
 W:W.length<1000000
 T:T.length<1000000
 trace:m.trace.length<2000000
 out:m.out.length<2000000
 L:p.aT.L.length<1000000
 P:Pc.bc p.procs<1000000000
 reads:0≤m.reads∧m.reads<2000000
theorem cell_of (h:Inv p T W y m loc s) {fr:Fr} {r:List Fr} (ja:m.st=fr::r) {c j:Nat} (hc:fr.vars[j]? = some c):y.κ[c]? = some (y.κ.getD c 0)∧∃ v,m.mem[c]? = some v∧s.ah[y.κ.getD c 0]? = some [.int .i64 v]:=by
 have iz:=h.si
 rw[ja]at iz
 cases hφ:y.φ with
 |nil=>simp[hφ]at iz
 | cons o φ=>
  have R4:=(h.frame 0 o fr (by simp[hφ]) (by rw[ja];rfl)).2.2 c (List.mem_of_getElem? hc)
  have hκ:y.κ[c]? = some (y.κ.getD c 0):=by
   rw[List.getD_eq_getElem?_getD,List.getElem?_eq_getElem (by have:=h.len;omega)];rfl
  exact⟨hκ,_,List.getElem?_eq_getElem R4,h.cell c _ _ hκ (List.getElem?_eq_getElem R4)⟩
theorem amZ (hp:p.iR) (Vf:p.may=true) (h:Inv p T W y m loc s) {fr:Fr} {r:List Fr} (ht:mJ m fr r) (hz:HN p T W m) {it:Im} (hd:adh p fr it) :
 bG Tryz.prog qn [.ptr 0 0, .agg (dq it)] s (Rl p T W (.int .i64 (m.do p p.aT.L T W it).1) (m.do p p.aT.L T W it).2 (fun y'=>∃ vd,y' = {y with vd:=vd}) loc):=by
 have h1:=(h.new (dq it)).new (bm it.s)
 simp only[List.length_append,List.length_singleton]at h1
 have z0 : ∀ z:List D,(s.ah++ [z])[s.ah.length]? = some z:=fun z=>by simp
 have z1 : ∀ z:List D,(s.ah++ [dq it]++ [z]).set (s.ah.length+1) (bm it.s)=s.ah++ [dq it]++ [bm it.s]:=fun z=>by simp[List.append_assoc,List.set_append_right]
 have z2 : ∀ a z:List D,(s.ah++ [a]++ [z])[s.ah.length+1]? = some z:=fun a z=>by simp
 have z3 : ∀ a z:List D,(s.ah++ [a]++ [z])[s.ah.length]? = some a:=fun a z=>by simp
 have z4:=h1.jy
 rw[fk]at z4
 have vu:=h1.uw
 simp only at z4 vu
 have cS:(fq p)[2]? = some (.slice .shared 17 (p.aT.L.map dq)):=rfl
 have nu : ∀ q∈loc,q∈(s.ah.length+1,bm it.s)::(s.ah.length,dq it)::loc:=fun q mq=>List.mem_cons_of_mem _ (List.mem_cons_of_mem _ mq)
 generalize hn:s.ah.length=n at *
 have je : ∀ {y2:Lay} {m2:Mc} {s2:St},Inv p T W y2 m2 ((n+1,bm it.s)::(n,dq it)::loc) s2→s2.ah[n]? = some (dq it)∧s2.ah[n+1]? = some (bm it.s)∧0<s2.ah.length:=fun h2=>
  ⟨(h2.loc (n,dq it) (by simp)).1,(h2.loc (n+1,bm it.s) (by simp)).1,h2.uw⟩
 rcases Bool.eq_false_or_eq_true (it.s.kind==7)with b7|b7
 ·have c1:=vI h1 hz.W hz.trace it.s.id
  obtain⟨c,it2,e1,e2⟩:=hd.brk (by simpa using b7)
  have hw:IntKind.wrap .i64 ((c:Int)+1 - 1)=(c:Int):=by
   have:=(List.getElem?_eq_some_iff.1 e2).1
   have:=hz.L
   rw[show(c:Int)+1 - 1=(c:Int) by omega];exact dV (by omega) (by omega)
  have yp:m.do p p.aT.L T W it=(it2.next,m.event W it.s.id []):=by
   unfold Mc.do
   dsimp only
   rw[if_pos b7,JY e2 e1]
  rw[yp]
  refine bG.uq gS rfl fun B Q hB hQ=>?_
  have⟨hD,hY,hZ,gA⟩:=bX
  repeat' (first
 |simp only[go_sem,hD,hY,hZ,gA,z0,z1,z2,z3,hn,b7]
 |(with_reducible first|refine bt fun hc=>?_|refine bu fun hc=>?_|refine bx (fun hc=>?_) fun hc=>?_)<;>(try simp only[hc,bs,↓reduceIte]at h)<;>try simp only[hc]
 |(with_reducible refine aF hQ ?_;(try cases h);simp only[aV,aY,bH,bI,go_sem,hD,hY,hZ,gA,z0,z1,z2,z3,hn,b7];try exact cr)
 |(cases h;done))
  refine CR c1 fun d s2 h2=>?_
  obtain⟨rfl,y2,rfl,h2⟩:=h2
  obtain⟨x1,x2,x3⟩:=je h2
  have jv:=h2.jy
  rw[fk]at jv
  repeat' (first
 |simp only[go_sem,hD,hY,hZ,gA,x1,x2,jv,cS,e1,hw,e2]
 |(with_reducible first|refine bt fun hc=>?_|refine bu fun hc=>?_|refine bx (fun hc=>?_) fun hc=>?_)<;>(try simp only[hc,bs,↓reduceIte]at h)<;>try simp only[hc]
 |(with_reducible refine aF hQ ?_;(try cases h);simp only[aV,aY,bH,bI,go_sem,hD,hY,hZ,gA,x1,x2,jv,cS,e1,hw,e2];try exact cr)
 |(cases h;done))
  (refine gE hQ ?_;simp only[aV,aY,bH,bI,go_sem])
  exact⟨rfl,_,⟨_,rfl⟩,h2.sub nu⟩
 rcases Bool.eq_false_or_eq_true (it.s.kind==8)with b8|b8
 ·have c1:=vI h1 hz.W hz.trace it.s.id
  have yp:m.do p p.aT.L T W it=(it.loop,m.event W it.s.id []):=by
   unfold Mc.do
   dsimp only
   rw[if_neg (by simp[b7]),if_pos b8]
  rw[yp]
  refine bG.uq gS rfl fun B Q hB hQ=>?_
  have⟨hD,hY,hZ,gA⟩:=bX
  repeat' (first
 |simp only[go_sem,hD,hY,hZ,gA,z0,z1,z2,z3,hn,b7,b8]
 |(with_reducible first|refine bt fun hc=>?_|refine bu fun hc=>?_|refine bx (fun hc=>?_) fun hc=>?_)<;>(try simp only[hc,bs,↓reduceIte]at h)<;>try simp only[hc]
 |(with_reducible refine aF hQ ?_;(try cases h);simp only[aV,aY,bH,bI,go_sem,hD,hY,hZ,gA,z0,z1,z2,z3,hn,b7,b8];try exact cr)
 |(cases h;done))
  refine CR c1 fun d s2 h2=>?_
  obtain⟨rfl,y2,rfl,h2⟩:=h2
  obtain⟨x1,x2,x3⟩:=je h2
  repeat' (first
 |simp only[go_sem,hD,hY,hZ,gA,x1,x2]
 |(with_reducible first|refine bt fun hc=>?_|refine bu fun hc=>?_|refine bx (fun hc=>?_) fun hc=>?_)<;>(try simp only[hc,bs,↓reduceIte]at h)<;>try simp only[hc]
 |(with_reducible refine aF hQ ?_;(try cases h);simp only[aV,aY,bH,bI,go_sem,hD,hY,hZ,gA,x1,x2];try exact cr)
 |(cases h;done))
  (refine gE hQ ?_;simp only[aV,aY,bH,bI,go_sem])
  exact⟨rfl,_,⟨_,rfl⟩,h2.sub nu⟩
 rcases Bool.eq_false_or_eq_true (it.s.kind==10)with tv|tv
 ·have c1:=vI h1 hz.W hz.trace it.s.id
  obtain⟨i,f,e1,e2⟩:=hd.FD (by simpa using tv)
  have cA:=fun s=>acO hp Vf e2 it.s.name s
  have yp:m.do p p.aT.L T W it=((kQ f.fin it.s.name (Sm.cU f.body)).1,m.event W it.s.id []):=by
   unfold Mc.do
   dsimp only
   rw[if_neg (by simp[b7]),if_neg (by simp[b8]),if_pos tv,e1,Int.toNat_natCast,e2]
  rw[yp]
  refine bG.uq gS rfl fun B Q hB hQ=>?_
  have⟨hD,hY,hZ,gA⟩:=bX
  repeat' (first
 |simp only[go_sem,hD,hY,hZ,gA,z0,z1,z2,z3,hn,b7,b8,tv]
 |(with_reducible first|refine bt fun hc=>?_|refine bu fun hc=>?_|refine bx (fun hc=>?_) fun hc=>?_)<;>(try simp only[hc,bs,↓reduceIte]at h)<;>try simp only[hc]
 |(with_reducible refine aF hQ ?_;(try cases h);simp only[aV,aY,bH,bI,go_sem,hD,hY,hZ,gA,z0,z1,z2,z3,hn,b7,b8,tv];try exact cr)
 |(cases h;done))
  refine CR c1 fun d s2 h2=>?_
  obtain⟨rfl,y2,rfl,h2⟩:=h2
  obtain⟨x1,x2,x3⟩:=je h2
  have jv:=h2.jy
  rw[fk]at jv
  repeat' (first
 |simp only[go_sem,hD,hY,hZ,gA,x1,x2,jv,e1]
 |(with_reducible refine CU (cA _) ?_)
 |(with_reducible first|refine bt fun hc=>?_|refine bu fun hc=>?_|refine bx (fun hc=>?_) fun hc=>?_)<;>(try simp only[hc,bs,↓reduceIte]at h)<;>try simp only[hc]
 |(with_reducible refine aF hQ ?_;(try cases h);simp only[aV,aY,bH,bI,go_sem,hD,hY,hZ,gA,x1,x2,jv,e1];try exact cr)
 |(cases h;done))
  (refine gE hQ ?_;simp only[aV,aY,bH,bI,go_sem])
  exact⟨rfl,_,⟨_,rfl⟩,h2.sub nu⟩
 rcases Bool.eq_false_or_eq_true (it.s.kind==2)with b2|b2
 ·obtain⟨k,hk⟩:=hd.name (.inr (by simpa using b2))
  have jl:=hz.reads
  have hTl:=hz.T
  have F5:=jl.1
  have avc : ∀ r,((s.ah++ [dq it]++ [bm it.s]).set 0 r)[0]? = some r:=fun r=>List.getElem?_set_self vu
  cases e:T[m.reads.toNat]? with
  | none=>
   have uh:decide (m.reads≥(T.length:Int))=true:=by have:=List.getElem?_eq_none_iff.1 e;simp;omega
   have yp:m.do p p.aT.L T W it=(-1,{m with fin:=3}):=by
    unfold Mc.do
    dsimp only
    rw[if_neg (by simp[b7]),if_neg (by simp[b8]),if_neg (by simp[tv]),if_pos b2,e]
   rw[yp]
   have h2:=h1.tF (m':= {m with fin:=3}) rfl rfl h1.t0 h1.t1
   rw[fk]at h2
   simp only at h2
   refine bG.uq gS rfl fun B Q hB hQ=>?_
   have⟨hD,hY,hZ,gA⟩:=bX
   repeat' (first
 |simp only[go_sem,hD,hY,hZ,gA,z0,z1,z2,z3,z4,hn,b7,b8,tv,b2,uh,vu]
 |(with_reducible first|refine bt fun hc=>?_|refine bu fun hc=>?_|refine bx (fun hc=>?_) fun hc=>?_)<;>(try simp only[hc,bs,↓reduceIte]at h)<;>try simp only[hc]
 |(with_reducible refine aF hQ ?_;(try cases h);simp only[aV,aY,bH,bI,go_sem,hD,hY,hZ,gA,z0,z1,z2,z3,z4,hn,b7,b8,tv,b2,uh,vu];try exact cr)
 | (cases h;done))
   (refine gE hQ ?_;simp only[aV,aY,bH,bI,go_sem])
   exact⟨rfl,_,⟨_,rfl⟩,h2.sub nu⟩
  | some v=>
   have uh:decide (m.reads≥(T.length:Int))=false:=by have:=(List.getElem?_eq_some_iff.1 e).1;simp;omega
   have ER:IntKind.wrap .i64 (m.reads+1)=m.reads+1:=dV (by omega) (by omega)
   have JZ:=hk.cell ht.top
   obtain⟨j,hj,BA⟩:=hk
   have yp:m.do p p.aT.L T W it=(it.next,(({m with reads:=m.reads+1,mem:=m.mem.set k v} : Mc).event W it.s.id [v])):=by
    unfold Mc.do
    dsimp only
    rw[if_neg (by simp[b7]),if_neg (by simp[b8]),if_neg (by simp[tv]),if_pos b2,e]
    have:({m with reads:=m.reads+1} : Mc).cell it.s.name=k:=JZ
    simp only[Mc.set,this]
   rw[yp]
   have h2:=h1.tF (m':= {m with reads:=m.reads+1}) rfl rfl h1.t0 h1.t1
   have td:mJ ({m with reads:=m.reads+1} : Mc) fr r:=⟨ht.st,ht.len,ht.names,ht.vars⟩
   have c2:=Cb h2 td.st td.len td.names hj BA
   obtain⟨hκ,v0,g1,g2⟩:=cell_of h2 td.st BA
   have h3:=h2.U5 hκ v
   have c3:=DB h3 hz.W hz.trace it.s.id v
   obtain⟨x1,x2,x3⟩:=je h3
   obtain⟨x4,x5,x6⟩:=je h2
   rw[fk]at c2 g2 c3 x1 x2 x4 x5
   simp only at c2 g2 c3 x1 x2 x4 x5
   refine bG.uq gS rfl fun B Q hB hQ=>?_
   have⟨hD,hY,hZ,gA⟩:=bX
   repeat' (first
 |simp only[go_sem,hD,hY,hZ,gA,z0,z1,z2,z3,z4,hn,b7,b8,tv,b2,uh,vu,e,ER,F5,x1,x2,x4,x5,g2]
 |(with_reducible refine CU (c2) ?_)
 |(with_reducible first|refine bt fun hc=>?_|refine bu fun hc=>?_|refine bx (fun hc=>?_) fun hc=>?_)<;>(try simp only[hc,bs,↓reduceIte]at h)<;>try simp only[hc]
 |(with_reducible refine aF hQ ?_;(try cases h);simp only[aV,aY,bH,bI,go_sem,hD,hY,hZ,gA,z0,z1,z2,z3,z4,hn,b7,b8,tv,b2,uh,vu,e,ER,F5,x1,x2,x4,x5,g2];try exact cr)
 | (cases h;done))
   refine CR c3 fun d s2 h4=>?_
   obtain⟨rfl,y2,rfl,h4⟩:=h4
   obtain⟨x1,x2,x3⟩:=je h4
   repeat' (first
 |simp only[go_sem,hD,hY,hZ,gA,x1,x2]
 |(with_reducible first|refine bt fun hc=>?_|refine bu fun hc=>?_|refine bx (fun hc=>?_) fun hc=>?_)<;>(try simp only[hc,bs,↓reduceIte]at h)<;>try simp only[hc]
 |(with_reducible refine aF hQ ?_;(try cases h);simp only[aV,aY,bH,bI,go_sem,hD,hY,hZ,gA,x1,x2];try exact cr)
 | (cases h;done))
   (refine gE hQ ?_;simp only[aV,aY,bH,bI,go_sem])
   exact⟨rfl,_,⟨_,rfl⟩,h4.sub nu⟩
 -- an expression is reckoned
 have hx:it.s.x.size<1000000:=by have:=hd.said.2.2;omega
 have c1:=DA h1 ht hx hd.said.1
 rcases Bool.eq_false_or_eq_true (m.bg it.s.x).1.2 with bw|bw
 case inr=>
  have yp:m.do p p.aT.L T W it=(-1,(m.bg it.s.x).2):=by
   unfold Mc.do
   dsimp only
   rw[if_neg (by simp[b7]),if_neg (by simp[b8]),if_neg (by simp[tv]),if_neg (by simp[b2]),if_neg (by simp[bw])]
  rw[yp]
  refine bG.uq gS rfl fun B Q hB hQ=>?_
  have⟨hD,hY,hZ,gA⟩:=bX
  repeat' (first
 |simp only[go_sem,hD,hY,hZ,gA,z0,z1,z2,z3,hn,b7,b8,tv,b2]
 |(with_reducible first|refine bt fun hc=>?_|refine bu fun hc=>?_|refine bx (fun hc=>?_) fun hc=>?_)<;>(try simp only[hc,bs,↓reduceIte]at h)<;>try simp only[hc]
 |(with_reducible refine aF hQ ?_;(try cases h);simp only[aV,aY,bH,bI,go_sem,hD,hY,hZ,gA,z0,z1,z2,z3,hn,b7,b8,tv,b2];try exact cr)
 |(cases h;done))
  refine CR c1 fun d s2 h2=>?_
  obtain⟨⟨rfl,y2,vJ,h2⟩,_⟩:=h2
  repeat' (first
 |simp only[go_sem,hD,hY,hZ,gA,bw]
 |(with_reducible first|refine bt fun hc=>?_|refine bu fun hc=>?_|refine bx (fun hc=>?_) fun hc=>?_)<;>(try simp only[hc,bs,↓reduceIte]at h)<;>try simp only[hc]
 |(with_reducible refine aF hQ ?_;(try cases h);simp only[aV,aY,bH,bI,go_sem,hD,hY,hZ,gA,bw];try exact cr)
 |(cases h;done))
  (refine gE hQ ?_;simp only[aV,aY,bH,bI,go_sem])
  exact⟨rfl,y2,⟨_,vJ⟩,h2.sub nu⟩
 have R7:(m.bg it.s.x).2=m:=by
  unfold Mc.bg
  dsimp only
  rw[if_pos (show(it.s.x.bg m.top.names m.bM).2=true from bw)]
 have yp:m.do p p.aT.L T W it=(let m1:=m.event W it.s.id [(m.bg it.s.x).1.1];let n:=(m.bg it.s.x).1.1
  if it.s.kind==1 then(it.next,m1.set it.s.name n)else if it.s.kind==3 then(it.next,{m1 with out:=m1.out++ [n]})
  else if it.s.kind==5 then(if n==0 then firstM it.s.aX it.next else firstM it.s.a7 it.next,m1)else if it.s.kind==6 then(if n==0 then it.next else firstM it.s.a7 it.s.id,m1)else(it.next,m1)):=by
  unfold Mc.do
  dsimp only
  rw[if_neg (by simp[b7]),if_neg (by simp[b8]),if_neg (by simp[tv]),if_neg (by simp[b2]),if_pos bw,R7]
 rw[yp]
 rw[R7]at c1
 generalize hR:(m.bg it.s.x).1=R at *
 obtain⟨v,ok⟩:=R
 subst bw
 dsimp only
 have he:=eJ W m it.s.id [v]
 have R8:mJ (m.event W it.s.id [v]) fr r:=⟨by rw[he.1];exact ht.st,ht.len,ht.names,ht.vars⟩
 have nb:(v != 0) = !(v==0):=rfl
 have fT:=fun o s=>LX it.s.a7 (by have:=hd.a7;omega) o s
 have fE:=fun o s=>LX it.s.aX (by have:=hd.aX;omega) o s
 refine bG.uq gS rfl fun B Q hB hQ=>?_
 have⟨hD,hY,hZ,gA⟩:=bX
 repeat' (first
 |simp only[go_sem,hD,hY,hZ,gA,z0,z1,z2,z3,hn,b7,b8,tv,b2]
 |(with_reducible first|refine bt fun hc=>?_|refine bu fun hc=>?_|refine bx (fun hc=>?_) fun hc=>?_)<;>(try simp only[hc,bs,↓reduceIte]at h)<;>try simp only[hc]
 |(with_reducible refine aF hQ ?_;(try cases h);simp only[aV,aY,bH,bI,go_sem,hD,hY,hZ,gA,z0,z1,z2,z3,hn,b7,b8,tv,b2];try exact cr)
 |(cases h;done))
 refine CR c1 fun d s2 h2=>?_
 obtain⟨⟨rfl,y2,vJ,h2⟩,_⟩:=h2
 obtain⟨x1,x2,x3⟩:=je h2
 have c2:=DB h2 hz.W hz.trace it.s.id v
 repeat' (first
 |simp only[go_sem,hD,hY,hZ,gA,x1,x2]
 |(with_reducible first|refine bt fun hc=>?_|refine bu fun hc=>?_|refine bx (fun hc=>?_) fun hc=>?_)<;>(try simp only[hc,bs,↓reduceIte]at h)<;>try simp only[hc]
 |(with_reducible refine aF hQ ?_;(try cases h);simp only[aV,aY,bH,bI,go_sem,hD,hY,hZ,gA,x1,x2];try exact cr)
 |(cases h;done))
 refine CR c2 fun d s3 h3=>?_
 obtain⟨rfl,y3,rfl,h3⟩:=h3
 obtain⟨x1,x2,x3⟩:=je h3
 have od:=h3.jy
 rw[fk]at od
 rcases Bool.eq_false_or_eq_true (it.s.kind==1)with b1|b1
 ·obtain⟨k,hk⟩:=hd.name (.inl (by simpa using b1))
  have JZ:=hk.cell R8.top
  obtain⟨j,hj,BA⟩:=hk
  have c3:=Cb h3 R8.st R8.len R8.names hj BA
  obtain⟨hκ,v0,g1,g2⟩:=cell_of h3 R8.st BA
  have h4:=h3.U5 hκ v
  obtain⟨x4,x5,x6⟩:=je h4
  simp only at x4 x5
  repeat' (first
 |simp only[go_sem,hD,hY,hZ,gA,x1,x2,b1,g2,x4,x5]
 |(with_reducible refine CU (c3) ?_)
 |(with_reducible first|refine bt fun hc=>?_|refine bu fun hc=>?_|refine bx (fun hc=>?_) fun hc=>?_)<;>(try simp only[hc,bs,↓reduceIte]at h)<;>try simp only[hc]
 |(with_reducible refine aF hQ ?_;(try cases h);simp only[aV,aY,bH,bI,go_sem,hD,hY,hZ,gA,x1,x2,b1,g2,x4,x5];try exact cr)
 |(cases h;done))
  (refine gE hQ ?_;simp only[aV,aY,bH,bI,go_sem])
  rw[if_pos b1]
  refine⟨rfl,y3,⟨_,vJ⟩, ?_⟩
  simp only[Mc.set,JZ]
  exact h4.sub nu
 rw[if_neg (by simp[b1])]at hQ
 rcases Bool.eq_false_or_eq_true (it.s.kind==3)with b3|b3
 ·rw [if_pos b3]at hQ
  have eH:ig 1 8 (.slice (.tok 0) 1 ((m.event W it.s.id [v]).out.map cq)) (.slice .full 1 [[.int .i64 v]]) s3=some (.slice (.tok 0) 1 (((m.event W it.s.id [v]).out++ [v]).map cq),⟨s3.ah,s3.au.set 0 (some ((m.event W it.s.id [v]).out.length+1))⟩):=by
   rw[oU (size:=1) (by simp only[List.length_map,List.length_singleton,he.2.2.2.2.2];have:=hz.out;unfold bJ;omega) (by simpa using h3.t0)]
   simp[cq]
  have h4:=h3.tF (m':= {m.event W it.s.id [v]with out:=(m.event W it.s.id [v]).out++ [v]}) (ts:=s3.au.set 0 (some ((m.event W it.s.id [v]).out.length+1))) rfl rfl (by simp[(List.getElem?_eq_some_iff.1 h3.t0).1]) (by rw[List.getElem?_set_ne (by omega)];exact h3.t1)
  obtain⟨x4,x5,x6⟩:=je h4
  rw[fk]at h4 x4 x5
  simp only[List.map_append,List.map_cons,List.map_nil,cq]at h4 x4 x5 eH
  repeat' (first
 |simp only[go_sem,hD,hY,hZ,gA,x1,x2,b1,b3,od,eH,x3,x4,x5]
 |(with_reducible first|refine bt fun hc=>?_|refine bu fun hc=>?_|refine bx (fun hc=>?_) fun hc=>?_)<;>(try simp only[hc,bs,↓reduceIte]at h)<;>try simp only[hc]
 |(with_reducible refine aF hQ ?_;(try cases h);simp only[aV,aY,bH,bI,go_sem,hD,hY,hZ,gA,x1,x2,b1,b3,od,eH,x3,x4,x5];try exact cr)
 |(cases h;done))
  (refine gE hQ ?_;simp only[aV,aY,bH,bI,go_sem])
  exact⟨rfl,y3,⟨_,vJ⟩,h4.sub nu⟩
 rw[if_neg (by simp[b3])]at hQ
 rcases Bool.eq_false_or_eq_true (it.s.kind==5)with b5|b5
 ·rw [if_pos b5]at hQ
  rcases Bool.eq_false_or_eq_true (v==0)with bv|bv
  ·rw [if_pos bv]at hQ
   repeat' (first
 |simp only[go_sem,hD,hY,hZ,gA,x1,x2,b1,b3,b5,nb,bv]
 |(with_reducible refine CU (fT _ _) ?_)
 |(with_reducible refine CU (fE _ _) ?_)
 |(with_reducible first|refine bt fun hc=>?_|refine bu fun hc=>?_|refine bx (fun hc=>?_) fun hc=>?_)<;>(try simp only[hc,bs,↓reduceIte]at h)<;>try simp only[hc]
 |(with_reducible refine aF hQ ?_;(try cases h);simp only[aV,aY,bH,bI,go_sem,hD,hY,hZ,gA,x1,x2,b1,b3,b5,nb,bv];try exact cr)
 | (cases h;done))
   (refine gE hQ ?_;simp only[aV,aY,bH,bI,go_sem])
   exact⟨rfl,y3,⟨_,vJ⟩,h3.sub nu⟩
  ·rw [if_neg (by simp [bv])]at hQ
   repeat' (first
 |simp only[go_sem,hD,hY,hZ,gA,x1,x2,b1,b3,b5,nb,bv]
 |(with_reducible refine CU (fT _ _) ?_)
 |(with_reducible refine CU (fE _ _) ?_)
 |(with_reducible first|refine bt fun hc=>?_|refine bu fun hc=>?_|refine bx (fun hc=>?_) fun hc=>?_)<;>(try simp only[hc,bs,↓reduceIte]at h)<;>try simp only[hc]
 |(with_reducible refine aF hQ ?_;(try cases h);simp only[aV,aY,bH,bI,go_sem,hD,hY,hZ,gA,x1,x2,b1,b3,b5,nb,bv];try exact cr)
 | (cases h;done))
   (refine gE hQ ?_;simp only[aV,aY,bH,bI,go_sem])
   exact⟨rfl,y3,⟨_,vJ⟩,h3.sub nu⟩
 rw[if_neg (by simp[b5])]at hQ
 rcases Bool.eq_false_or_eq_true (it.s.kind==6)with b6|b6
 ·rw [if_pos b6]at hQ
  rcases Bool.eq_false_or_eq_true (v==0)with bv|bv
  ·rw [if_pos bv]at hQ
   repeat' (first
 |simp only[go_sem,hD,hY,hZ,gA,x1,x2,b1,b3,b5,b6,nb,bv]
 |(with_reducible refine CU (fT _ _) ?_)
 |(with_reducible refine CU (fE _ _) ?_)
 |(with_reducible first|refine bt fun hc=>?_|refine bu fun hc=>?_|refine bx (fun hc=>?_) fun hc=>?_)<;>(try simp only[hc,bs,↓reduceIte]at h)<;>try simp only[hc]
 |(with_reducible refine aF hQ ?_;(try cases h);simp only[aV,aY,bH,bI,go_sem,hD,hY,hZ,gA,x1,x2,b1,b3,b5,b6,nb,bv];try exact cr)
 | (cases h;done))
   (refine gE hQ ?_;simp only[aV,aY,bH,bI,go_sem])
   exact⟨rfl,y3,⟨_,vJ⟩,h3.sub nu⟩
  ·rw [if_neg (by simp [bv])]at hQ
   repeat' (first
 |simp only[go_sem,hD,hY,hZ,gA,x1,x2,b1,b3,b5,b6,nb,bv]
 |(with_reducible refine CU (fT _ _) ?_)
 |(with_reducible refine CU (fE _ _) ?_)
 |(with_reducible first|refine bt fun hc=>?_|refine bu fun hc=>?_|refine bx (fun hc=>?_) fun hc=>?_)<;>(try simp only[hc,bs,↓reduceIte]at h)<;>try simp only[hc]
 |(with_reducible refine aF hQ ?_;(try cases h);simp only[aV,aY,bH,bI,go_sem,hD,hY,hZ,gA,x1,x2,b1,b3,b5,b6,nb,bv];try exact cr)
 | (cases h;done))
   (refine gE hQ ?_;simp only[aV,aY,bH,bI,go_sem])
   exact⟨rfl,y3,⟨_,vJ⟩,h3.sub nu⟩
 rw[if_neg (by simp[b6])]at hQ
 repeat' (first
 |simp only[go_sem,hD,hY,hZ,gA,x1,x2,b1,b3,b5,b6]
 |(with_reducible first|refine bt fun hc=>?_|refine bu fun hc=>?_|refine bx (fun hc=>?_) fun hc=>?_)<;>(try simp only[hc,bs,↓reduceIte]at h)<;>try simp only[hc]
 |(with_reducible refine aF hQ ?_;(try cases h);simp only[aV,aY,bH,bI,go_sem,hD,hY,hZ,gA,x1,x2,b1,b3,b5,b6];try exact cr)
 |(cases h;done))
 (refine gE hQ ?_;simp only[aV,aY,bH,bI,go_sem])
 exact⟨rfl,y3,⟨_,vJ⟩,h3.sub nu⟩
end
end Go.Abs
namespace Go.Abs
set_option maxRecDepth 8000
open Go.Proofs
section
variable {p:Pg} {T W:List Int} {y:Lay} {m:Mc} {loc:List (Nat×List D)} {s:St}
theorem zF : ∀ (l:List Ar) (m:Mc) (out:List Nat),(Mc.args l m out).2.out=m.out∧(Mc.args l m out).2.trace=m.trace
 | [],m,out=>⟨rfl,rfl⟩
 | a::l,m,out=>by
  have hw:=gw m a.x
  simp only[Mc.args]
  by_cases c:a.ref=true
  ·rw[if_pos c];exact zF l m _
  ·rw [if_neg c]
   by_cases c2:(m.bg a.x).1.2=true
   ·rw [if_pos c2]
    obtain⟨h1,h2⟩:=zF l {(m.bg a.x).2 with mem:=(m.bg a.x).2.mem++ [(m.bg a.x).1.1]} (out++ [(m.bg a.x).2.mem.length])
    exact⟨h1.trans hw.2.2.2.2.1,h2.trans hw.2.2.2.2.2⟩
   ·rw[if_neg c2];exact⟨hw.2.2.2.2.1,hw.2.2.2.2.2⟩
structure R9 (p:Pg) (fr:Fr) (v:Sm):Prop where
 said:v.nh
 args : ∀ a∈v.args,a.x.texts∧a.x.size<1000000∧(a.ref=true→∃ k,vK fr a.name k)
 proc : ∃ (j:Nat) (q:Pc),p.at v.proc=(j:Int)∧p.procs[j]? = some q∧p.find q.name=some q
theorem Sb (hp:p.iR) (Vf:p.may=true) (h:Inv p T W y m loc s) {fr:Fr} {r:List Fr} (ht:mJ m fr r) (hz:HN p T W m) (hg:p.globals.length≤m.mem.length) {v:Sm} (hd:R9 p fr v) :
 bG Tryz.prog oV [.ptr 0 0, .agg (bm v)] s (Rl p T W (.int .i64 (m.call p W v).1) (m.call p W v).2 (fun _=>True) loc):=by
 have h1:=h.new (bm v)
 have Ia:2≤s.au.length:=by have:=(List.getElem?_eq_some_iff.1 h.t1).1;omega
 generalize hn:s.ah.length=n at h1
 generalize Lj:s.au.length=tk at Ia
 have AY:v.args.length<1000000:=by have:=hd.said.2.2;have:=Ar.eW v.args;omega
 have avd:=ht.st
 refine bG.uq yV rfl fun B Q hB hQ=>?_
 have⟨hD,hY,hZ,gA⟩:=bX
 have loop : ∀ (rest:List Ar) (k:Nat) (m1:Mc) (out:List Nat) (y1:Lay) (s1:St),v.args.drop k=rest→Mc.args v.args m [] = Mc.args rest m1 out→m1.st=m.st→m1.trace=m.trace∧m1.out=m.out→m.mem.length≤m1.mem.length→out.length=k∧k≤v.args.length→(∀ c∈out,c<m1.mem.length)→
  Inv p T W y1 m1 ((n,bm v)::loc) s1→s1.au[tk]? = some (some out.length)→
  br Tryz.prog B 67 QB5 (ku 0 (nL (jW Tryz.prog B 67 QBK Q) Q))
   [(0, .ptr 0 0),(3, .ptr n 0),(5, .slice (.tok tk) 1 (out.map fun c=>fe (y1.κ.getD c 0))),(12, .slice .shared 6 (v.args.map ek)),(13, .int .i64 (v.args.length:Int)),(14, .int .i64 (k:Int))] s1:=by
  intro rest
  induction rest with
  | nil=>
   intro k m1 out y1 s1 Gx ni uV AJ vu vU pB h2 Vg
   have hD:=drop_nil Gx
   have wy:mJ m1 fr r:=⟨by rw[uV];exact ht.st,ht.len,ht.names,ht.vars⟩
   obtain⟨so,g,cells,o,e1,e2,e3,e4,e5⟩:=h2.U9 wy.st
   have jv:=h2.jy
   rw[fk,e1]at jv
   have tu:=(h2.loc (n,bm v) (by simp)).1
   have kT:=h2.uw
   have F8:m.call p W v=if m1.st.length > 100 then(-1,{m1 with fin:=5})else(m1.event W v.id []).open p (p.at v.proc) out v.id:=by
    unfold Mc.call
    rw[ni]
    rfl
   have hlen:m1.st.length=r.length+1:=by rw[wy.st];rfl
   rw[F8,hlen]at hQ
   simp only at tu
   refine br.kH ?_
   by_cases Uz:r.length+1 > 100
   ·have ES:decide (((r.length+1:Nat):Int) > 100)=true:=by simp;omega
    rw[if_pos Uz]at hQ
    have h3:=h2.tF (m':= {m1 with fin:=5}) rfl rfl h2.t0 h2.t1
    rw[fk,e1]at h3
    simp only at h3
    repeat' (first
 |simp only[go_sem,hD,hY,hZ,gA,jv,tu,ES,kT]
 |(with_reducible first|refine bt fun hc=>?_|refine bu fun hc=>?_|refine bx (fun hc=>?_) fun hc=>?_)<;>(try simp only[hc,bs,↓reduceIte]at h)<;>try simp only[hc]
 |(with_reducible refine aF hQ ?_;(try cases h);simp only[aV,aY,bH,bI,go_sem,hD,hY,hZ,gA,jv,tu,ES,kT];try exact cr)
 | (cases h;done))
    (refine gE hQ ?_;simp only[aV,aY,bH,bI,go_sem])
    exact⟨rfl,y1,trivial,h3.sub fun q mq=>List.mem_cons_of_mem _ mq⟩
   ·have ES:decide (((r.length+1:Nat):Int) > 100)=false:=by simp;omega
    rw[if_neg Uz]at hQ
    have c1:=vI h2 hz.W (by rw[AJ.1];exact hz.trace) v.id
    repeat' (first
 |simp only[go_sem,hD,hY,hZ,gA,jv,tu,ES,kT]
 |(with_reducible first|refine bt fun hc=>?_|refine bu fun hc=>?_|refine bx (fun hc=>?_) fun hc=>?_)<;>(try simp only[hc,bs,↓reduceIte]at h)<;>try simp only[hc]
 |(with_reducible refine aF hQ ?_;(try cases h);simp only[aV,aY,bH,bI,go_sem,hD,hY,hZ,gA,jv,tu,ES,kT];try exact cr)
 | (cases h;done))
    refine CR c1 fun d s3 h3=>?_
    obtain⟨rfl,y3,rfl,h3⟩:=h3
    have he:=eJ W m1 v.id []
    obtain⟨j,q,j1,j2,j3⟩:=hd.proc
    obtain⟨y4,s4,hF,h4⟩:=LZ h3 hp Vf j2 j3 (by rw[he.1,hlen];have:=ht.len;omega) (l:=out) (by rw[he.2.1];exact pB) (by omega) (by rw[he.2.1];omega) v.id
    have hF':=fun g:Tag=>bG.pK (.cons (Wk.refl _) (.cons (Wk.refl _) (.cons (Wk.shared g 1 _) (ji.refl _)))) hF
    have hF2:aG Tryz.prog jd [.ptr 0 0, .int .i64 (j:Int), .slice (.tok tk) 1 (out.map fun c=>fe (y3.κ.getD c 0)), .int .i64 v.id] s3 _ s4:=hF' _
    have cP:=fun s=>El (p:=p) (by have:=hp.procs.1;omega) v.proc s
    have od:=h3.jy
    rw[fk]at od
    have hx3:=(h3.loc (n,bm v) (by simp)).1
    simp only at hx3
    rw[j1]at hQ cP
    repeat' (first
 |simp only[go_sem,hD,hY,hZ,gA,od,hx3]
 |(with_reducible refine CU (cP _) ?_)
 |(with_reducible refine CU (hF2) ?_)
 |(with_reducible first|refine bt fun hc=>?_|refine bu fun hc=>?_|refine bx (fun hc=>?_) fun hc=>?_)<;>(try simp only[hc,bs,↓reduceIte]at h)<;>try simp only[hc]
 |(with_reducible refine aF hQ ?_;(try cases h);simp only[aV,aY,bH,bI,go_sem,hD,hY,hZ,gA,od,hx3];try exact cr)
 | (cases h;done))
    (refine gE hQ ?_;simp only[aV,aY,bH,bI,go_sem])
    exact⟨rfl,y4,trivial,h4.sub fun q mq=>List.mem_cons_of_mem _ mq⟩
  | cons a rest ih=>
   intro k m1 out y1 s1 Gx ni uV AJ vu vU pB h2 Vg
   obtain⟨hY,g2,hD,g4⟩:=drop_cons Gx
   have cj:k<4611686018427387904:=by omega
   obtain⟨a1,a2,a3⟩:=hd.args a (List.mem_of_getElem? hY)
   have wy:mJ m1 fr r:=⟨by rw[uV];exact ht.st,ht.len,ht.names,ht.vars⟩
   have h3:=h2.new (ek a)
   have zq : ∀ z:List D,(s1.ah++ [z]).set s1.ah.length (ek a)=s1.ah++ [ek a]:=fun z=>by simp
   have zg : ∀ z:List D,(s1.ah++ [z])[s1.ah.length]? = some z:=fun z=>by simp
   have eH : ∀ (x:Nat) (os:List (List D)),ig 1 8 (.slice (.tok tk) 1 (out.map fun c=>fe (y1.κ.getD c 0))) (.slice .full 1 [[.ptr x 0]]) ⟨os,s1.au⟩=some (.slice (.tok tk) 1 ((out.map fun c=>fe (y1.κ.getD c 0))++ [fe x]),⟨os,s1.au.set tk (some (out.length+1))⟩):=fun x os=>by
    rw[oU (size:=1) (by simp only[List.length_map,List.length_singleton];unfold bJ;omega) (by simpa using Vg)]
    simp[fe]
   have DD : ∀ k':Nat,(s1.au.set tk (some k'))[0]? = s1.au[0]? ∧(s1.au.set tk (some k'))[1]? = s1.au[1]? ∧(s1.au.set tk (some k'))[tk]? = some (some k'):=fun k'=>
    ⟨List.getElem?_set_ne (by omega),List.getElem?_set_ne (by omega),by simp[(List.getElem?_eq_some_iff.1 Vg).1]⟩
   refine br.kH ?_
   rcases Bool.eq_false_or_eq_true a.ref with b|b
   ·obtain⟨c,hc⟩:=a3 b
    have JZ:=hc.cell wy.top
    obtain⟨j,hj,BA⟩:=hc
    have c1:=Cb h3 wy.st wy.len wy.names hj BA
    obtain⟨hκ,v0,gm,_⟩:=cell_of h2 wy.st BA
    have zR:=(List.getElem?_eq_some_iff.1 gm).1
    repeat' (first
 |simp only[go_sem,hD,hY,hZ,gA,hY,zq,zg,b,eH]
 |(with_reducible refine CU (c1) ?_)
 |(with_reducible first|refine bt fun hc=>?_|refine bu fun hc=>?_|refine bx (fun hc=>?_) fun hc=>?_)<;>(try simp only[hc,bs,↓reduceIte]at h)<;>try simp only[hc]
 |(with_reducible refine aF hQ ?_;(try cases h);simp only[aV,aY,bH,bI,go_sem,hD,hY,hZ,gA,hY,zq,zg,b,eH];try exact cr)
 | (cases h;done))
    have:=ih (k+1) m1 (out++ [c]) y1 ⟨s1.ah++ [ek a],s1.au.set tk (some (out.length+1))⟩ g2 (by rw[ni];simp only[Mc.args,b,if_true,JZ]) uV AJ vu ⟨by simp[vU.1],g4⟩ (fun x mx=>by
     rcases List.mem_append.1 mx with mx|mx
     ·exact pB x mx
     ·rw[List.mem_singleton.1 mx];exact zR) ((h3.sub fun q mq=>List.mem_cons_of_mem _ mq).keep (fun _ _ e=>e) (DD _).1 (DD _).2.1) (by simpa using (DD _).2.2)
    refine br.pE ?_ this
    simp only[go_sem,aM cj,List.map_append,List.map_cons,List.map_nil]
    repeat' (first|exact Ok.out|with_reducible refine iQ ?_ ?_)
   ·have c1:=DA h3 wy a2 a1
    repeat' (first
 |simp only[go_sem,hD,hY,hZ,gA,hY,zq,zg,b]
 |(with_reducible first|refine bt fun hc=>?_|refine bu fun hc=>?_|refine bx (fun hc=>?_) fun hc=>?_)<;>(try simp only[hc,bs,↓reduceIte]at h)<;>try simp only[hc]
 |(with_reducible refine aF hQ ?_;(try cases h);simp only[aV,aY,bH,bI,go_sem,hD,hY,hZ,gA,hY,zq,zg,b];try exact cr)
 | (cases h;done))
    refine CR c1 fun d s2 h4=>?_
    obtain⟨⟨rfl,y2,vJ,h4⟩,u9⟩:=h4
    have hw:=gw m1 a.x
    simp only at u9
    rcases Bool.eq_false_or_eq_true (m1.bg a.x).1.2 with bw|bw
    ·have R7:(m1.bg a.x).2=m1:=by
      unfold Mc.bg
      dsimp only
      rw[if_pos (show(a.x.bg m1.top.names m1.bM).2=true from bw)]
     rw[R7]at h4
     have yq : ∀ z:List D,(s2.ah++ [z]).set s2.ah.length [.int .i64 (m1.bg a.x).1.1] = s2.ah++ [[.int .i64 (m1.bg a.x).1.1]]:=fun z=>by simp
     have yg : ∀ z:List D,(s2.ah++ [z])[s2.ah.length]? = some z:=fun z=>by simp
     rw[← u9]at eH DD
     have h5:=h4.amT (m1.bg a.x).1.1 (by omega)
     have hyκ:y2.κ=y1.κ:=by rw[vJ]
     have agX:y1.κ.length=m1.mem.length:=h2.len
     repeat' (first
 |simp only[go_sem,hD,hY,hZ,gA,bw,yq,yg,eH]
 |(with_reducible first|refine bt fun hc=>?_|refine bu fun hc=>?_|refine bx (fun hc=>?_) fun hc=>?_)<;>(try simp only[hc,bs,↓reduceIte]at h)<;>try simp only[hc]
 |(with_reducible refine aF hQ ?_;(try cases h);simp only[aV,aY,bH,bI,go_sem,hD,hY,hZ,gA,bw,yq,yg,eH];try exact cr)
 | (cases h;done))
     have:=ih (k+1) {m1 with mem:=m1.mem++ [(m1.bg a.x).1.1]} (out++ [m1.mem.length]) {y2 with κ:=y2.κ++ [s2.ah.length]} ⟨s2.ah++ [[.int .i64 (m1.bg a.x).1.1]],s2.au.set tk (some (out.length+1))⟩ g2
      (by rw [ni];simp only [Mc.args,b,Bool.false_eq_true,if_false,bw,if_true,R7]) uV AJ (by simp;omega) ⟨by simp [vU.1],g4⟩ (fun x mx=>by
       simp only[List.length_append,List.length_singleton]
       rcases List.mem_append.1 mx with mx|mx
       ·have:=pB x mx;omega
       ·rw[List.mem_singleton.1 mx];omega) ((h5.sub fun q mq=>List.mem_cons_of_mem _ mq).keep (fun _ _ e=>e) (DD _).1 (DD _).2.1) (by simpa using (DD _).2.2)
     refine br.pE ?_ this
     have am2:(out.map fun c=>fe ((y2.κ++ [s2.ah.length]).getD c 0))=out.map fun c=>fe (y1.κ.getD c 0):=List.map_congr_left fun c mc=>by rw[hyκ,DC (by have:=pB c mc;omega)]
     have da:(y2.κ++ [s2.ah.length]).getD m1.mem.length 0=s2.ah.length:=by rw[hyκ, ← agX];simp[List.getD_eq_getElem?_getD]
     simp only[go_sem,aM cj,List.map_append,List.map_cons,List.map_nil,am2,da]
     repeat' (first|exact Ok.out|with_reducible refine iQ ?_ ?_)
    ·repeat' (first
 |simp only[go_sem,hD,hY,hZ,gA,bw]
 |(with_reducible first|refine bt fun hc=>?_|refine bu fun hc=>?_|refine bx (fun hc=>?_) fun hc=>?_)<;>(try simp only[hc,bs,↓reduceIte]at h)<;>try simp only[hc]
 |(with_reducible refine aF hQ ?_;(try cases h);simp only[aV,aY,bH,bI,go_sem,hD,hY,hZ,gA,bw];try exact cr)
 |(cases h;done))
     (refine gE hQ ?_;simp only[aV,aY,bH,bI,go_sem])
     have F8:m.call p W v=(-1,(m1.bg a.x).2):=by
      unfold Mc.call
      rw[ni]
      simp only[Mc.args,b,Bool.false_eq_true,if_false,bw]
     rw[F8]
     exact⟨rfl,y2,trivial,h4.sub fun q mq=>List.mem_cons_of_mem _ (List.mem_cons_of_mem _ mq)⟩
 have Xu:(s.ah++ [bm v])[n]? = some (bm v):=by simp[← hn]
 have l0:=loop v.args 0 m [] y ⟨s.ah++ [bm v],s.au++ [some 0]⟩ rfl rfl rfl ⟨rfl,rfl⟩ (Nat.le_refl _) ⟨rfl,Nat.zero_le _⟩ (by simp) (h1.au _) (by simp[← Lj])
 repeat' (first
 |simp only[go_sem,hD,hY,hZ,gA,Xu,hn]
 |(with_reducible first|refine bt fun hc=>?_|refine bu fun hc=>?_|refine bx (fun hc=>?_) fun hc=>?_)<;>(try simp only[hc,bs,↓reduceIte]at h)<;>try simp only[hc]
 |(with_reducible refine aF hQ ?_;(try cases h);simp only[aV,aY,bH,bI,go_sem,hD,hY,hZ,gA,Xu,hn];try exact cr)
 |(cases h;done))
 refine br.w6 5 1 rfl ?_
 simp only[go_sem,hD,hY,hZ,gA]
 refine br.pE ?_ l0
 simp only[go_sem,Lj,List.map_nil]
 repeat' (first|exact Ok.out|with_reducible refine iQ ?_ ?_)
end
end Go.Abs
namespace Go.Abs
theorem Vh {v:Sm} (h:v.one=true) (hk:v.kind=1∨v.kind=2):v.name≠ []:=by
 intro e
 have hn:v.hasName=true:=by unfold Sm.hasName;rcases hk with hk|hk<;>simp[hk]
 unfold Sm.one at h
 split at h
 ·cases h
 ·rw [e,hn]at h
  simp[isName]at h
theorem G5 {v:Sm} (hk:v.kind≠10) (hn:v.name≠ []):v.name∈v.said:=by
 unfold Sm.said Sm.sF
 refine uM (.inl ?_)
 rw[if_pos (by simp[hk,hn])]
 simp
theorem zG {name:aE} {f:Pc} : ∀ {l:List Pc},iM name l=some f→f.name=name
 |g::l,h=>by
  simp only[iM]at h
  split at h
  ·rename_i e;cases h;simpa using e
  ·exact zG h
mutual
theorem ado : ∀ s:Sm,∀ v∈s.pre,v.size≤s.size
 | ⟨id,kind,labels,name,proc,x,has,args,a7,aX⟩,v,m=>by
  rw[Sm.p6]at m
  rcases List.mem_cons.1 m with rfl|m
  ·exact Nat.le_refl _
  ·simp only [Sm.size]
   rcases List.mem_append.1 m with m|m
   ·have:=Cc a7 v m;omega
   ·have:=Cc aX v m;omega
theorem Cc : ∀ l:List Sm,∀ v∈Sm.cU l,v.size≤Sm.bc l
 | [],v,m=>by simp[Sm.cU]at m
 |s::l,v,m=>by
  simp only[Sm.cU,List.mem_append]at m
  simp only[Sm.bc]
  rcases m with m|m
  ·have:=ado s v m;omega
  ·have:=Cc l v m;omega
end
theorem FK : ∀ l:List Sm,l.length≤Sm.bc l
 | []=>Nat.le_refl _
 |s::l=>by
  have:=FK l
  have h1:1≤s.size:=by cases s;simp only[Sm.size];omega
  simp only[Sm.bc,List.length_cons];omega
section
variable {p:Pg} {m:Mc} {a:Int}
theorem J0 (hO:p.iR) (h:pd p p.aT.L a m) (hl:m.st.length≤1000) : ∃ fr r f,mJ m fr r∧p.procs[fr.proc.toNat]? = some f∧fr.names=p.globals++f.own∧fr.vars.length=fr.names.length∧m.top=fr:=by
 obtain⟨fr,r,e⟩:=h.st.ne
 have ht:m.top=fr:=by simp[Mc.top,e]
 obtain⟨f,h1,h2,h3,h4,h5⟩:=h.fr fr (by rw[e];exact List.mem_cons_self ..)
 have hf:=List.mem_of_getElem? h1
 have s1:=Pc.dr hf
 have s2:=hO.sz
 simp only[Pg.size]at s2
 have hn:fr.names.length<1000000:=by
  rw[h3]
  have s3:=hO.small hf
  simp only[Pc.size]at s1
  simp only[List.length_append,Pc.own,Pc.ti,List.length_map]
  have:=s3.par;have:=s3.vars
  omega
 rw[e]at hl
 exact⟨fr,r,f,⟨e,by simp at hl;omega,hn,by omega⟩,h1,h3,h4,ht⟩
theorem FL {fr:Fr} (hv:fr.vars.length=fr.names.length) {n:aE} (hn:n∈fr.names) : ∃ k,vK fr n k:=by
 obtain⟨j,h1,h2⟩:=JR (k:=0) hn
 exact⟨_,j,by simpa using h1,List.getElem?_eq_getElem (by omega)⟩
theorem Zp {fr:Fr} (h:pd p p.aT.L a m) (ht:m.top=fr) (hR:p.Right) (ha:a≠ -1) {f:Pc} (hf:p.procs[fr.proc.toNat]? = some f):Bx p p.aT.L (fc p.aT.L a) f∧(fc p.aT.L a).proc=fr.proc∧fc p.aT.L a∈p.aT.L∧
 ∃ c:Nat,a=(c:Int)+1∧p.aT.L[c]? = some (fc p.aT.L a):=by
 have hm:=h.at_.resolve_left ha
 have gp:=nT (L:=p.aT.L) (.inr ⟨hm.1,hm.2.1⟩) ha
 obtain⟨f',o⟩:=(pb hR).im _ gp
 have hp:(fc p.aT.L a).proc=fr.proc:=by rw[← ht];exact hm.2.2
 have:f'=f:=by have:=o.proc.1;rw[hp,hf]at this;exact(Option.some.inj this).symm
 subst this
 have h1:=hm.1
 have h2:=hm.2.1
 refine⟨o,hp,gp,(a - 1).toNat,by omega, ?_⟩
 unfold fc
 rw[List.getD_eq_getElem?_getD,List.getElem?_eq_getElem (show(a - 1).toNat<p.aT.L.length by omega)];rfl
theorem L0 (hO:p.iR) (hR:p.Right) {x:Im} {f:Pc} {fr:Fr} (hx:Bx p p.aT.L x f) (hn:fr.names=p.globals++f.own) (hv:fr.vars.length=fr.names.length):adh p fr x:=by
 have hf:=List.mem_of_getElem? hx.proc.1
 have pO:x.s∈p.pre:=by
  simp only[Pg.pre,List.mem_flatten,List.mem_map];exact⟨_,⟨f,hf,rfl⟩,hx.mem⟩
 have dL:=Cc f.body x.s hx.mem
 have s1:=Pc.dr hf
 have s2:=hO.sz
 simp only[Pg.size]at s2
 simp only[Pc.size]at s1
 have hs:Sm.bc x.s.a7+Sm.bc x.s.aX≤x.s.size:=by
  cases x with
  |mk s _ _ _ _=>cases s;simp only[Sm.size];omega
 refine⟨hO.said hf _ hx.mem,fun hk=>?_,fun hk=>?_,fun hk=>?_, ?_, ?_⟩
 ·have hl:=hx.loop (.inl hk)
  have h1:=hl.1
  have h2:=hl.2.1
  exact⟨(x.loop - 1).toNat,_,by omega,List.getElem?_eq_getElem (by omega)⟩
 ·obtain⟨i,hi⟩:=Int.eq_ofNat_of_zero_le hx.proc.2
  exact⟨i,f,hi,by have:=hx.proc.1;rwa [hi,Int.toNat_natCast]at this⟩
 ·refine FL hv ?_
  rw[hn]
  exact zv hR hx (G5 (by rcases hk with hk|hk<;>omega) (Vh (LQ hR.may _ pO) hk))
 ·have:=FK x.s.a7;omega
 ·have:=FK x.s.aX;omega
theorem Sc (hO:p.iR) (hR:p.Right) {x:Im} {f:Pc} {fr:Fr} (hx:Bx p p.aT.L x f) (hk:x.s.kind=4) (hn:fr.names=p.globals++f.own) (hv:fr.vars.length=fr.names.length):R9 p fr x.s:=by
 have hf:=List.mem_of_getElem? hx.proc.1
 have rK:=hO.said hf _ hx.mem
 have pO:x.s∈p.pre:=by
  simp only[Pg.pre,List.mem_flatten,List.mem_map];exact⟨_,⟨f,hf,rfl⟩,hx.mem⟩
 refine⟨rK,fun b mb=>⟨rK.2.1 b mb, ?_,fun hr=>?_⟩, ?_⟩
 ·have:=rK.2.2
  have key : ∀ l:List Ar,b∈l→b.x.size≤Ar.bc l:=fun l=>by
   induction l with
   |nil=>intro m;cases m
   |cons c l ih=>
    intro m
    simp only[Ar.bc]
    rcases List.mem_cons.1 m with rfl|m
    ·omega
    ·have:=ih m;omega
  have:=key _ mb
  omega
 ·refine FL hv ?_
  rw[hn]
  exact zv hR hx (uM (.inr ⟨b,mb,hr,rfl⟩))
 ·have jf:=hR.fits _ pO (by simp [hk])
  obtain⟨q,hq⟩:=GY jf
  obtain⟨j,h1,h2⟩:=HM (k:=0) hq
  exact⟨j,q,by simpa[Pg.at]using h1,h2,by rw[zG hq];exact hq⟩
theorem Pb (hO:p.iR) (hR:p.Right) (h:pd p p.aT.L a m) (hl:m.st.length≤1000) {fr:Fr} {r:List Fr} (ht:mJ m fr r) :
 fr.call=0∨∃ (c:Nat) (it:Im) (uv:Fr) (r2:List Fr),fr.call=(c:Int)+1∧p.aT.L[c]? = some it∧mJ {m with st:=r} uv r2∧(it.s.name≠ []→∃ k,vK uv it.s.name k):=by
 have hs:=h.st
 have ja:=ht.st
 rw[ja]at hs
 cases r with
 |nil=>exact .inl hs
 | cons uv r2=>
  obtain⟨⟨h1,GO⟩,h2⟩:=hs
  have e1:=h1.1
  have e2:=h1.2.1
  refine .inr ⟨(fr.call - 1).toNat,fc p.aT.L fr.call,uv,r2,by omega, ?_, ?_,fun hn=>?_⟩
  ·unfold fc
   rw[List.getD_eq_getElem?_getD,List.getElem?_eq_getElem (show(fr.call - 1).toNat<p.aT.L.length by omega)];rfl
  ·have h3:pd p p.aT.L (-1) {m with st:=uv::r2}:=⟨h2,fun q hq=>h.fr q (by rw [ja];exact List.mem_cons_of_mem _ hq), .inl rfl,h.tW⟩
   obtain⟨LY,r',f',t,_⟩:=J0 hO h3 (by rw[ja]at hl;simp at hl ⊢;omega)
   have:=t.st
   cases this
   exact t
  ·obtain⟨f,g1,g2,g3,g4,g5⟩:=h.fr uv (by rw [ja];simp)
   have gp:fc p.aT.L fr.call∈p.aT.L:=nT (.inr ⟨e1,e2⟩) (by omega)
   obtain⟨f',o⟩:=(pb hR).im _ gp
   have:f'=f:=by have:=o.proc.1;rw[h1.2.2,g1]at this;exact(Option.some.inj this).symm
   subst this
   refine FL g4 ?_
   rw[g3]
   exact zv hR o (G5 (by omega) hn)
end
end Go.Abs
namespace Go.Abs
structure xq (m:Mc):Prop where
 steps:0≤m.steps
 trace:(m.trace.length:Int)≤m.steps
 out:(m.out.length:Int)≤m.steps
 reads:0≤m.reads∧m.reads≤m.steps
 st:m.st.length≤101
structure BD (m m':Mc):Prop where
 trace:m'.trace.length≤m.trace.length+1
 out:m'.out.length≤m.out.length+1
 reads:m'.reads=m.reads∨m'.reads=m.reads+1
 steps:m'.steps=m.steps
theorem Sd (W:List Int) (m:Mc) (id:Int) (bM:List Int):(m.event W id bM).trace.length≤m.trace.length+1:=by
 unfold Mc.event
 split<;>simp
theorem l8 (W:List Int) (m:Mc) (id:Int) (bM:List Int):BD m (m.event W id bM):=by
 have h:=eJ W m id bM
 exact⟨Sd W m id bM,by rw[h.2.2.2.2.2];omega, .inl h.2.2.2.2.1,h.2.2.2.1⟩
theorem ET (m:Mc) (x:Ex):BD m (m.bg x).2:=by
 have h:=gw m x
 exact⟨by rw[h.2.2.2.2.2];omega,by rw[h.2.2.2.2.1];omega, .inl h.2.2.2.1,h.2.2.1⟩
theorem wM (p:Pg) (m:Mc) (i:Int) (l:List Nat) (c:Int):(m.open p i l c).2.trace=m.trace∧(m.open p i l c).2.out=m.out∧(m.open p i l c).2.reads=m.reads∧(m.open p i l c).2.steps=m.steps:=by
 unfold Mc.open
 split<;>exact⟨rfl,rfl,rfl,rfl⟩
theorem wN : ∀ (l:List Ar) (m:Mc) (out:List Nat),(Mc.args l m out).2.reads=m.reads∧(Mc.args l m out).2.steps=m.steps
 | [],m,out=>⟨rfl,rfl⟩
 | a::l,m,out=>by
  have hw:=gw m a.x
  simp only[Mc.args]
  by_cases c:a.ref=true
  ·rw[if_pos c];exact wN l m _
  ·rw [if_neg c]
   by_cases c2:(m.bg a.x).1.2=true
   ·rw [if_pos c2]
    obtain⟨h1,h2⟩:=wN l {(m.bg a.x).2 with mem:=(m.bg a.x).2.mem++ [(m.bg a.x).1.1]} (out++ [(m.bg a.x).2.mem.length])
    exact⟨h1.trans hw.2.2.2.1,h2.trans hw.2.2.1⟩
   ·rw[if_neg c2];exact⟨hw.2.2.2.1,hw.2.2.1⟩
theorem Se (p:Pg) (W:List Int) (m:Mc) (v:Sm):BD m (m.call p W v).2∧((m.call p W v).2.st.length≤m.st.length∨(m.call p W v).2.st.length≤101):=by
 have h1:=zF v.args m []
 have h2:=wN v.args m []
 have h3:=(uP v.args m []).1
 unfold Mc.call
 generalize Mc.args v.args m [] = r at *
 obtain⟨o,m1⟩:=r
 dsimp only at h1 h2 h3
 cases o with
 |none=>exact⟨⟨by simp[h1.2],by simp[h1.1], .inl h2.1,h2.2⟩, .inl (by simp[h3])⟩
 | some l=>
  dsimp only
  by_cases c:m1.st.length > 100
  ·rw[if_pos c];exact⟨⟨by simp[h1.2],by simp[h1.1], .inl h2.1,h2.2⟩, .inl (by simp[h3])⟩
  ·rw [if_neg c]
   have e1:=l8 W m1 v.id []
   have e2:=wM p (m1.event W v.id []) (p.at v.proc) l v.id
   have e3:=(yl p (m1.event W v.id []) (p.at v.proc) l v.id).1
   have e4:=(eJ W m1 v.id []).1
   refine⟨⟨by rw[e2.1, ← h1.2];exact e1.trace,by rw[e2.2.1, ← h1.1];exact e1.out, ?_,by rw[e2.2.2.2,e1.steps,h2.2]⟩, .inr (by rw[e4]at e3;omega)⟩
   rw[e2.2.2.1, ← h2.1];exact e1.reads
theorem Pe (W:List Int) (m:Mc) (v:Sm):BD m (m.e7 W v).2:=by
 have hw:=gw m v.x
 unfold Mc.e7
 split
 ·dsimp only
  split
  ·have e:=l8 W (m.bg v.x).2 v.id [(m.bg v.x).1.1]
   exact⟨by rw[← hw.2.2.2.2.2];exact e.trace,by rw[← hw.2.2.2.2.1];exact e.out,by rw[← hw.2.2.2.1];exact e.reads,e.steps.trans hw.2.2.1⟩
  ·exact ET m v.x
 ·exact l8 W m v.id []
theorem Zq (p:Pg) (L:List Im) (T W:List Int) (m:Mc) (it:Im):BD m (m.do p L T W it).2:=by
 have hw:=gw m it.s.x
 unfold Mc.do
 dsimp only
 split
 ·exact l8 W m _ _
 split
 ·exact l8 W m _ _
 split
 ·exact l8 W m _ _
 split
 ·split
  ·exact⟨by simp,by simp, .inl rfl,rfl⟩
  ·rename_i n _
   have e:=l8 W (({m with reads:=m.reads+1} : Mc).set it.s.name n) it.s.id [n]
   have e2:=(eJ W (({m with reads:=m.reads+1} : Mc).set it.s.name n) it.s.id [n])
   exact⟨e.trace,e.out, .inr e2.2.2.2.2.1,e2.2.2.2.1⟩
 split
 ·have e:=l8 W (m.bg it.s.x).2 it.s.id [(m.bg it.s.x).1.1]
  have e2:=eJ W (m.bg it.s.x).2 it.s.id [(m.bg it.s.x).1.1]
  have k:BD m ((m.bg it.s.x).2.event W it.s.id [(m.bg it.s.x).1.1]):=⟨by rw[← hw.2.2.2.2.2];exact e.trace,by rw[← hw.2.2.2.2.1];exact e.out,by rw[← hw.2.2.2.1];exact e.reads,e.steps.trans hw.2.2.1⟩
  split
  ·exact⟨k.trace,k.out,k.reads,k.steps⟩
  split
  ·exact⟨k.trace,by simp[e2.2.2.2.2.2,hw.2.2.2.2.1],k.reads,k.steps⟩
  split
  ·exact k
  split
  ·exact k
  ·exact k
 ·exact ET m it.s.x
theorem zH (L:List Im) (m:Mc) (g:Int):(m.close L g).2.trace=m.trace∧(m.close L g).2.out=m.out∧(m.close L g).2.reads=m.reads∧(m.close L g).2.steps=m.steps∧(m.close L g).2.st=m.st.tail:=by
 unfold Mc.close
 dsimp only
 split
 ·exact⟨rfl,rfl,rfl,rfl,rfl⟩
 ·split<;>exact⟨rfl,rfl,rfl,rfl,rfl⟩
theorem xq.less {m m1:Mc} (h:xq m) (k:BD {m with steps:=m.steps+1} m1) (hs:m1.st.length≤101):xq m1:=by
 have h1:=h.steps;have h2:=h.trace;have h3:=h.out;have h4:=h.reads
 have k1:=k.trace;have k2:=k.out;have k3:=k.reads;have k4:=k.steps
 dsimp only at k1 k2 k3 k4
 exact⟨by omega,by omega,by omega,by omega,hs⟩
theorem xq.close {L:List Im} {m:Mc} (h:xq m) (g:Int):xq (m.close L g).2:=by
 obtain⟨h1,h2,h3,h4,h5⟩:=zH L m g
 exact⟨by rw[h4];exact h.steps,by rw[h1,h4];exact h.trace,by rw[h2,h4];exact h.out,by rw[h3,h4];exact h.reads,by rw[h5];have:=h.st;simp;omega⟩
theorem xq.run {p:Pg} {T W:List Int} {m:Mc} (h:xq m) (hs:m.steps≤1000000) (hO:p.iR) (hW:W.length<1000000) (hT:T.length<1000000):HN p T W m:=by
 obtain⟨rI,rn,rm⟩:=hO.procs
 have:=o7 p
 have h2:=h.trace;have h3:=h.out;have h4:=h.reads
 exact⟨hW,hT,by omega,by omega,by omega,by omega,by omega⟩
set_option maxRecDepth 8000
open Go.Proofs
theorem Zr {p:Pg} (h:p.iR) (nF:(p.scope.1==0)=true) (s:St):aG Tryz.prog q5 [.agg (cB p)] s (.dt (fq p) 0) s:=by
 refine aG.pure ?_ (by simp[D.bL,D.ok,ki]) (by simp[D.ok,tV]) s
 obtain⟨rI,rn,rm⟩:=h.procs
 have pB:=fun s=>vz h s
 have da:=fun s=>BW (p:=p) (by omega) s
 have b0:(p.scope.1 != 0) = !(p.scope.1==0):=rfl
 rw[nF]at b0
 unfold S0
 refine aG.go x7 rfl fun B Q hB hQ=>?_
 have⟨hD,hY,hZ,gA⟩:=bX
 repeat' (first
 |simp only[go_sem,hD,hY,hZ,gA,b0,Bool.not_true]
 |(with_reducible refine CU (pB _) ?_)
 |(with_reducible refine CU (da _) ?_)
 |(with_reducible refine aF hQ ?_;exact bk))
theorem Zs {p:Pg} (h:p.iR) (nF:(p.scope.1==0)=false) (s:St):aG Tryz.prog q5 [.agg (cB p)] s .dO s:=by
 refine aG.pure ?_ (by simp[D.bL,D.ok,ki]) rfl s
 have pB:=fun s=>vz h s
 have b0:(p.scope.1 != 0) = !(p.scope.1==0):=rfl
 rw[nF]at b0
 unfold S0
 refine aG.go x7 rfl fun B Q hB hQ=>?_
 have⟨hD,hY,hZ,gA⟩:=bX
 repeat' (first
 |simp only[go_sem,hD,hY,hZ,gA,b0,Bool.not_false]
 |(with_reducible refine CU (pB _) ?_)
 |(with_reducible refine aF hQ ?_;exact bk))
mutual
theorem Vi {pr up next loop:Int} : ∀ (s:Sm) (m:Im),m∈s.vB pr up next loop→m.proc=pr
 | ⟨id,kind,labels,name,pc,x,has,args,a7,aX⟩,m,h=>by
  simp only[Sm.vB]at h
  rcases List.mem_cons.1 h with rfl|h
  ·rfl
  ·rcases List.mem_append.1 h with h | h
   ·exact wO a7 m h
   ·exact wO aX m h
theorem wO {pr up next loop:Int} : ∀ (l:List Sm) (m:Im),m∈Sm.jI pr up next loop l→m.proc=pr
 |s::l,m,h=>by
  simp only[Sm.jI]at h
  rcases List.mem_append.1 h with h|h
  ·exact Vi s m h
  ·exact wO l m h
end
theorem xr : ∀ a b:List Sm,ib (a++b)=ib a++ib b
 | [],b=>rfl
 |v::a,b=>by simp only[List.cons_append,ib,xr a b,List.append_assoc]
mutual
theorem K6 : ∀ s:Sm,(ib s.pre).length≤s.size
 |⟨id,kind,labels,name,pc,x,has,args,a7,aX⟩=>by
  have:=rE a7;have:=rE aX
  simp only[Sm.pre,ib,xr,List.length_append,Sm.size];omega
theorem rE : ∀ l:List Sm,(ib (Sm.cU l)).length≤Sm.bc l
 | []=>Nat.le_refl _
 |s::l=>by
  have:=K6 s;have:=rE l
  simp only[Sm.cU,xr,List.length_append,Sm.bc];omega
end
theorem Sf (seen l:List aE):(iN seen l).1.length≤seen.length+l.length:=(GQ l seen).2
theorem Vj {p:Pg} (h:p.iR) (s:St):aG Tryz.prog vh [.agg (cB p)] s (.agg [.int .i64 p.jump.1, .int .i64 p.jump.2]) s:=by
 refine aG.pure ?_ (by simp[D.bL,D.ok,ki]) rfl s
 obtain⟨rI,rn,rm⟩:=h.procs
 obtain⟨R,hR⟩ : ∃ R,p.jump=R:=⟨_,rfl⟩
 rw[hR]
 unfold Pg.jump at hR
 unfold S0
 rcases Bool.eq_false_or_eq_true (p.scope.1==0)with nF|nF
 case inr=>
  have hs:=fun s=>Zs h nF s
  simp only[nF,Bool.false_eq_true,if_false]at hR
  subst hR
  refine aG.go xW rfl fun B Q hB hQ=>?_
  have⟨hD,hY,hZ,gA⟩:=bX
  repeat' (first
 |simp only[go_sem,hD,hY,hZ,gA]
 |(with_reducible refine CU (hs _) ?_)
 |(with_reducible refine aF hQ ?_;exact bk))
 have hs:=fun s=>Zr h nF s
 have hb:=Bl nF
 simp only[nF,if_true]at hR
 refine aG.go xW rfl fun B Q hB hQ=>?_
 have⟨hD,hY,hZ,gA⟩:=bX
 repeat' (first
 |simp only[go_sem,hD,hY,hZ,gA]
 |(with_reducible refine CU (hs _) ?_)
 |(with_reducible refine aF hQ ?_;exact bk))
 refine fm 2 0 (br.ind (ι:=List Pc×Nat) (fun i=>p.procs.drop i.2=i.1∧yk 7 (sJ i.1)=R) (fun i=>i.1.length)
  (fun i=> [(1, .ptr 0 0),(2, .ptr 1 0),(3, .dt (fq p) 0),(16, .slice .shared 5 (p.procs.map cf)),(17, .int .i64 (p.procs.length:Int)),(18, .int .i64 (i.2:Int))]) (fun i=>⟨[cB p,[.int .i64 0, .int .i64 0]],[]⟩) ?_ (p.procs,0) ⟨rfl,hR⟩)
 clear hR
 rintro⟨rest,k⟩ ⟨h1,hR⟩ IH
 dsimp only at h1 hR
 cases rest with
 |nil=>
  have hD:=drop_nil h1
  simp only[sJ,yk]at hR
  subst hR
  repeat' (first
 |simp only[go_sem,hD,hY,hZ,gA]
 |(with_reducible refine aF hQ ?_;exact bk))
 | cons f rest=>
  obtain⟨hY,g2,hD,g4⟩:=drop_cons h1
  have cj:k<4611686018427387904:=by omega
  have z6:=List.mem_of_getElem? hY
  have wE:=fun s=>acM hb hY (by omega) s
  have pO:=ry (k:Int) 0 (-1) 0 f.body
  have yd:=JA (k:Int) f
  have agY:=fun m=>wO (pr:=(k:Int)) (up:=0) (next:= -1) (loop:=0) f.body m
  have JC:=EE h z6
  have vD:=GR h z6
  have adp:(ib (Sm.cU f.body)).length≤900000:=by
   have h1:=rE f.body
   have h2:=Pc.dr z6
   simp only[Pc.size]at h2
   omega
  rw[← pO]at adp
  generalize hI:Sm.jI (k:Int) 0 (-1) 0 f.body=I at *
  have hIl:I.length≤900000:=by rw[← pO,List.length_map]at JC;exact JC
  simp only[sJ, ← yd]at hR
  obtain⟨J,hJ⟩ : ∃ J,sI f.labels f.fin [] (I.map Im.pair)=J:=⟨_,rfl⟩
  rw[hJ]at hR
  have hld:=fun(m:Im) (hm:m∈I) s=>Za h hb hY m (agY m hm) s
  repeat' (first
 |simp only[go_sem,hD,hY,hZ,gA]
 |(with_reducible refine CU (wE _) ?_)
 | (with_reducible refine aF hQ ?_;exact bk))
  refine br.w6 6 1 rfl ?_
  simp only[go_sem,hD,hY,hZ,gA]
  refine fm 3 1 (br.ind (ι:=List Im×Nat×List aE×Nat) (fun i=>I.drop i.2.1=i.1∧sI f.labels f.fin i.2.2.1 (i.1.map Im.pair)=J∧i.2.2.2=i.2.2.1.length∧i.2.2.1.length+(ib (i.1.map Im.s)).length≤900000) (fun i=>i.1.length)
   (fun i=> [(1, .ptr 0 0),(2, .ptr 1 0),(3, .dt (fq p) 0),(5, .ptr 2 0),(6, .slice (.tok 0) 1 (i.2.2.1.map encStr)),(16, .slice .shared 5 (p.procs.map cf)),(17, .int .i64 (p.procs.length:Int)),(18, .int .i64 (k:Int)),
    (25, .slice .shared 17 (I.map dq)),(26, .int .i64 (I.length:Int)),(27, .int .i64 (i.2.1:Int))]) (fun i=>⟨[cB p,[.int .i64 0, .int .i64 0],cf f],[some i.2.2.2]⟩) ?_ (I,0,[],0) ⟨rfl,hJ,rfl,by simpa using adp⟩)
  clear hJ
  rintro⟨wH,k2,seen,n2⟩ ⟨j1,j2,j3,j4⟩ Eo
  dsimp only at j1 j2 j3 j4
  subst j3
  cases wH with
  | nil=>
   have adq:=drop_nil j1
   simp only[List.map_nil,sI]at j2
   simp only[List.map_nil,ib,List.length_nil,Nat.add_zero]at j4
   have G6:=fun {s:St} {t:Nat} (ht:s.au[t]? = some (some seen.length))=>RK (seen:=seen) (l:=f.fin) (by omega) ht
   obtain⟨P1,hP1⟩ : ∃ P1,iN seen f.fin=P1:=⟨_,rfl⟩
   rw[hP1]at j2 G6
   rcases Bool.eq_false_or_eq_true P1.2 with c1|c1
   ·simp only [c1,if_true]at j2
    subst j2
    simp only at hR
    repeat' (first
 |simp only[go_sem,hD,hY,hZ,gA,adq,c1,Bool.not_true]
 |(with_reducible refine CU (G6 (by with_unfolding_all rfl)) ?_)
 | (with_reducible refine aF hQ ?_;exact bk))
    refine fp 2 0 ?_ ?_ (IH (rest,k+1) ⟨g2,hR⟩ (Nat.lt_succ_self _))
    ·(simp only[go_sem,hD,hY,hZ,gA,aM cj];try exact cz)
    ·(simp only[go_sem,hD,hY,hZ,gA,aM cj];try exact cz)
   ·simp only [c1,Bool.false_eq_true,if_false]at j2
    subst j2
    simp only[yk]at hR
    subst hR
    repeat' (first
 |simp only[go_sem,hD,hY,hZ,gA,adq,c1,Bool.not_false]
 |(with_reducible refine CU (G6 (by with_unfolding_all rfl)) ?_)
 | (with_reducible refine aF hQ ?_;exact bk))
  | cons m wH=>
   obtain⟨o9,j5,ye,j6⟩:=drop_cons j1
   have yf:k2<4611686018427387904:=by omega
   have L1:=List.mem_of_getElem? o9
   have Xh:=fun s=>hld m L1 s
   simp only[List.map_cons,Im.pair,sI]at j2
   simp only[List.map_cons,ib,List.length_append]at j4
   have G6:=fun {s:St} {t:Nat} (ht:s.au[t]? = some (some seen.length))=>RK (seen:=seen) (l:=m.s.labels) (by omega) ht
   have V0:=Sf seen m.s.labels
   obtain⟨P1,hP1⟩ : ∃ P1,iN seen m.s.labels=P1:=⟨_,rfl⟩
   rw[hP1]at j2 G6 V0
   rcases Bool.eq_false_or_eq_true P1.2 with c1|c1
   ·rcases Bool.eq_false_or_eq_true (qg f.labels m.s m.loop)with c2 | c2
    ·simp only [c1,c2,if_true]at j2
     repeat' (first
 |simp only[go_sem,hD,hY,hZ,gA,o9,ye,c1,c2,Bool.not_true]
 |(with_reducible refine CU (G6 (by with_unfolding_all rfl)) ?_)
 |(with_reducible refine CU (Xh _) ?_)
 | (with_reducible refine aF hQ ?_;exact bk))
     refine fp 3 1 ?_ ?_ (Eo (wH,k2+1,P1.1,P1.1.length) ⟨j5,j2,rfl,by dsimp only;omega⟩ (Nat.lt_succ_self _))
     ·(simp only[go_sem,hD,hY,hZ,gA,aM yf];try exact cz)
     ·(simp only[go_sem,hD,hY,hZ,gA,aM yf];try exact cz)
    ·simp only [c1,c2,if_true,Bool.false_eq_true,if_false]at j2
     subst j2
     simp only[yk]at hR
     subst hR
     repeat' (first
 |simp only[go_sem,hD,hY,hZ,gA,o9,ye,c1,c2,Bool.not_true,Bool.not_false]
 |(with_reducible refine CU (G6 (by with_unfolding_all rfl)) ?_)
 |(with_reducible refine CU (Xh _) ?_)
 | (with_reducible refine aF hQ ?_;exact bk))
   ·simp only [c1,Bool.false_eq_true,if_false]at j2
    subst j2
    simp only[yk]at hR
    subst hR
    repeat' (first
 |simp only[go_sem,hD,hY,hZ,gA,o9,ye,c1,Bool.not_false]
 |(with_reducible refine CU (G6 (by with_unfolding_all rfl)) ?_)
 |(with_reducible refine CU (Xh _) ?_)
 |(with_reducible refine aF hQ ?_;exact bk))
theorem Vk (x:It):(jK x)[2]? = some (.slice .shared 1 (x.s.labels.map encStr)):=nd rfl
theorem Sg (x:It):(jK x)[14]? = some (.int .i64 x.dg):=nd rfl
attribute [go_sem] Vk Sg
end Go.Abs
namespace Go.Abs
set_option maxRecDepth 8000
open Go.Proofs
def Pc.am4:List Pc→Nat
 | []=>0
 |f::l=>Sm.iU f.body+Pc.am4 l
theorem Vl {p:Pg} (h:p.may=false):p.scope=(1,0):=by unfold Pg.scope;rw[h];rfl
theorem ads {p:Pg} (h:p.iR) (s:St):aG Tryz.prog xa [.agg (cB p)] s (.agg [.int .i64 p.check.1, .int .i64 p.check.2]) s:=by
 refine aG.pure ?_ (by simp[D.bL,D.ok,ki]) rfl s
 have h1:=fun s=>Jh h.OG s
 rw[B1]at h1
 have h2:=fun s=>vz h s
 have h3:=fun s=>Js h s
 have h4:=fun s=>Vj h s
 have h5:=fun s=>RR h s
 obtain⟨R,hR⟩ : ∃ R,p.check=R:=⟨_,rfl⟩
 rw[hR]
 unfold Pg.check at hR
 unfold S0
 rcases Bool.eq_false_or_eq_true p.may with b0|b0
 case inr=>
  have e:((1:Int)==0)=false:=rfl
  rw[Vl b0]at hR
  simp only[e,Bool.false_eq_true,if_false]at hR
  subst hR
  refine aG.go oa rfl fun B Q hB hQ=>?_
  have⟨hD,hY,hZ,gA⟩:=bX
  repeat' (first
 |simp only[go_sem,hD,hY,hZ,gA,b0,Bool.not_false]
 |(with_reducible refine CU (h1 _) ?_)
 |(with_reducible refine aF hQ ?_;exact bk))
 rcases Bool.eq_false_or_eq_true (p.scope.1==0)with b1|b1
 case inr=>
  simp only[b1,Bool.false_eq_true,if_false]at hR
  subst hR
  refine aG.go oa rfl fun B Q hB hQ=>?_
  have⟨hD,hY,hZ,gA⟩:=bX
  repeat' (first
 |simp only[go_sem,hD,hY,hZ,gA,b0,b1,Bool.not_true]
 |(with_reducible refine CU (h1 _) ?_)
 |(with_reducible refine CU (h2 _) ?_)
 |(with_reducible refine aF hQ ?_;exact bk))
 simp only[b1,if_true]at hR
 rcases Bool.eq_false_or_eq_true (p.arity.1==0)with b2|b2
 case inr=>
  simp only[b2,Bool.false_eq_true,if_false]at hR
  subst hR
  refine aG.go oa rfl fun B Q hB hQ=>?_
  have⟨hD,hY,hZ,gA⟩:=bX
  repeat' (first
 |simp only[go_sem,hD,hY,hZ,gA,b0,b1,b2,Bool.not_true]
 |(with_reducible refine CU (h1 _) ?_)
 |(with_reducible refine CU (h2 _) ?_)
 |(with_reducible refine CU (h3 _) ?_)
 |(with_reducible refine aF hQ ?_;exact bk))
 simp only[b2,if_true]at hR
 rcases Bool.eq_false_or_eq_true (p.jump.1==0)with b3|b3
 case inr=>
  simp only[b3,Bool.false_eq_true,if_false]at hR
  subst hR
  refine aG.go oa rfl fun B Q hB hQ=>?_
  have⟨hD,hY,hZ,gA⟩:=bX
  repeat' (first
 |simp only[go_sem,hD,hY,hZ,gA,b0,b1,b2,b3,Bool.not_true]
 |(with_reducible refine CU (h1 _) ?_)
 |(with_reducible refine CU (h2 _) ?_)
 |(with_reducible refine CU (h3 _) ?_)
 |(with_reducible refine CU (h4 _) ?_)
 |(with_reducible refine aF hQ ?_;exact bk))
 simp only[b3,if_true]at hR
 subst hR
 refine aG.go oa rfl fun B Q hB hQ=>?_
 have⟨hD,hY,hZ,gA⟩:=bX
 repeat' (first
 |simp only[go_sem,hD,hY,hZ,gA,b0,b1,b2,b3,Bool.not_true]
 |(with_reducible refine CU (h1 _) ?_)
 |(with_reducible refine CU (h2 _) ?_)
 |(with_reducible refine CU (h3 _) ?_)
 |(with_reducible refine CU (h4 _) ?_)
 |(with_reducible refine CU (h5 _) ?_)
 |(with_reducible refine aF hQ ?_;exact bk))
theorem Si {p:Pg} (h:p.iR) (s:St):aG Tryz.prog sC [.agg (cB p)] s (.bool (p.check.1==0)) s:=by
 refine aG.pure ?_ (by simp[D.bL,D.ok,ki]) rfl s
 have h1:=fun s=>ads h s
 unfold S0
 refine aG.go Hg rfl fun B Q hB hQ=>?_
 have⟨hD,hY,hZ,gA⟩:=bX
 repeat' (first
 |simp only[go_sem,hD,hY,hZ,gA]
 |(with_reducible refine CU (h1 _) ?_)
 |(with_reducible refine aF hQ ?_;exact bk))
def gj (m:Mc):List D:= [.int .i64 m.fin, .int .i64 m.steps, .int .i64 m.reads, .slice .shared 1 (m.out.map cq), .slice .shared 2 (m.trace.map nV)]
theorem adt (e:Int×List Int):D.bL 0 0 (nV e)=true:=by simp[nV,D.bL,D.ok,Tag.ok,jt]
theorem agZ (l:List (Int×List Int)):D.gU 0 0 (l.map nV)=true:=gW adt l
theorem ag0 (n m:Nat) (l:List (Int×List Int)):D.kn n m (l.map nV)=l.map nV:=lO adt n m l
attribute [go_sem] ag0
abbrev runT (m:Mc):List D:= [.int .i64 m.fin, .int .i64 m.steps, .int .i64 m.reads, .slice (.tok 0) 1 (m.out.map cq), .slice (.tok 1) 2 (m.trace.map nV)]
section
variable {p:Pg} {T W:List Int} {fuel:Int} {B:fP} {Q:Exit→Tm→St→Prop} {mf:Mc}
theorem Inv.qL {y:Lay} {m:Mc} {s:St} {q:Nat} {r r':List D} {loc:List (Nat×List D)} (h:Inv p T W y m ((q,r)::loc) s) (hq : ∀ x∈loc,x.1≠q) (hr:r.length≠4):Inv p T W y m ((q,r')::loc) ⟨s.ah.set q r',s.au⟩:=by
 obtain⟨h1,h2⟩:=h.loc (q,r) (List.mem_cons_self ..)
 simp only at h1 h2
 have ne : ∀ {o:Nat} {x:List D},s.ah[o]? = some x→o≠q→(s.ah.set q r')[o]? = some x:=fun e hn=>by rw[List.getElem?_set_ne (Ne.symm hn)];exact e
 have no : ∀ o∈y.own,o≠q:=fun o mo e=>h2 (e ▸ mo)
 have ka : ∀ {d:D} {cs:List D},(∀ o∈d.arr,o∈y.own)→jx s d cs→jx ⟨s.ah.set q r',s.au⟩ d cs:=fun hd ha=>ha.keep fun o mo=>by
  show(s.ah.set q r')[o]? = _
  rw[List.getElem?_set_ne (Ne.symm (no o (hd o mo)))]
 obtain⟨l,hl⟩:=h.bM
 refine⟨ne h.jy (no 0 (by simp[Lay.own])),h.t0,h.t1,h.len,fun i c v e1 e2=>ne (h.cell i c v e1 e2) (no c (by simp[Lay.own,List.mem_of_getElem? e1])),h.si,fun i o fr e1 e2=>?_,ka (fun o m=>by simp[Lay.own,m]) h.stack,⟨l,ka (fun o m=>by simp[Lay.own,m]) hl⟩,h.own,fun x mx=>?_⟩
 ·obtain⟨f1,f2,f3⟩:=h.frame i o fr e1 e2
  exact⟨ne f1 (Lq f1 h1 fun e=>hr (by rw[← e];rfl)),f2,f3⟩
 ·rcases List.mem_cons.1 mx with rfl | mx
  ·exact⟨by simp[fQ h1],h2⟩
  ·obtain⟨f1,f2⟩:=h.loc x (List.mem_cons_of_mem _ mx)
   exact⟨ne f1 (hq x mx),f2⟩
abbrev BE:List D:= [.int .i64 0, .int .i64 0, .int .i64 0, .slice .full 0 [], .slice .full 0 []]
structure FM (p:Pg) (T W:List Int) (fuel:Int):Prop where
 ok:p.iR
 right:p.Right
 W:W.length<1000000
 T:T.length<1000000
 fuel:0≤fuel∧fuel≤1000000
structure At (p:Pg) (T W:List Int) (fuel:Int) (a:Int) (m:Mc) (y:Lay) (q:Nat) (s:St):Prop where
 inv : ∃ r:List D,r.length=17∧Inv p T W y m [(q,r),(2,BE)] s
 ok:pd p p.aT.L a m
 sz:xq m
 fin:m.fin=0
 fuel:m.steps≤fuel
abbrev TMr (fuel:Int) (q:Nat) (a:Int):Tm:= [(2, .int .i64 fuel),(8, .ptr 2 0),(10, .ptr 0 0),(11, .ptr q 0),(13, .int .i64 a)]
abbrev JJ (B:fP) (Q:Exit→Tm→St→Prop):=yJ Tryz.prog B 131 Q42 Q
theorem EU (hQ:pL 0 0 [(8,some (true,5)),(9,none)] (.tuple [.agg (gj mf), .int .i64 0]) ⟨[],[]⟩=Q) {y:Lay} {q:Nat} {r:List D} {s:St} (h:Inv p T W y mf [(q,r),(2,BE)] s) {tm:Tm} (ht:vb tm [(8, .ptr 2 0),(10, .ptr 0 0)]):JJ B Q (.goto 2) tm s:=by
 refine C9 (r:= .seq .skip Q3K) rfl (lr.pE ht (lr.kH ?_))
 have hm:=h.jy
 rw[fk]at hm
 have h2:=(h.loc (2,BE) (by simp)).1
 have hl:=fQ h2
 have⟨hD,hY,hZ,gA⟩:=bX
 have zO : ∀ r,(s.ah.set 2 r)[2]? = some r:=fun r=>List.getElem?_set_self hl
 simp only[gj]at hQ
 repeat' (first
 |simp only[go_sem,hD,hY,hZ,gA,hm,h2,zO]
 |(with_reducible first|refine bt fun hc=>?_|refine bu fun hc=>?_|refine bx (fun hc=>?_) fun hc=>?_)<;>(try simp only[hc,bs,↓reduceIte]at h)<;>try simp only[hc]
 |(with_reducible refine aF hQ ?_;(try cases h);simp only[aV,aY,bH,bI,go_sem,hD,hY,hZ,gA,hm,h2,zO];try exact cr)
 |(cases h;done))
theorem J1 (hS:FM p T W fuel) (hQ:pL 0 0 [(8,some (true,5)),(9,none)] (.tuple [.agg (gj mf), .int .i64 0]) ⟨[],[]⟩=Q) {a:Int} {m:Mc} {y:Lay} {q:Nat} {s:St} {g:Int} (h:At p T W fuel a m y q s)
 (adv:m.back p.aT.L g=(none,mf)∨∃ a' m',m.back p.aT.L g=(some a',m')∧∀ y' s' tm,At p T W fuel a' m' y' q s'→vb tm (TMr fuel q a')→JJ B Q (.goto 1) tm s')
 {tm:Tm} (ht:vb tm [(2, .int .i64 fuel),(8, .ptr 2 0),(10, .ptr 0 0),(11, .ptr q 0),(12, .int .i64 g)]):JJ B Q (.goto 0) tm s:=by
 obtain⟨⟨r,hr,hi⟩,pC,dL,vD,hfu⟩:=h
 obtain⟨fr,rs,f,zw,h1,h2,h3,h4⟩:=J0 hS.ok pC (by have:=dL.st;omega)
 have CO:=dL.run (by have:=hS.fuel;omega) hS.ok hS.W hS.T
 have hc:=Pb hS.ok hS.right pC (by have:=dL.st;omega) zw
 have c1:=Zo hi zw CO.L hc g
 have oE:=zH p.aT.L m g
 refine C9 (r:= .seq .skip Q3N) rfl (lr.pE ht (lr.kH ?_))
 have⟨hD,hY,hZ,gA⟩:=bX
 repeat' (first
 |simp only[go_sem,hD,hY,hZ,gA]
 |(with_reducible first|refine bt fun hc=>?_|refine bu fun hc=>?_|refine bx (fun hc=>?_) fun hc=>?_)<;>(try simp only[hc,bs,↓reduceIte]at h)<;>try simp only[hc]
 |(with_reducible refine aF hQ ?_;exact fX)
 |(cases h;replace h:=hr;clear hr;(try simp only[bs,↓reduceIte]at h))
 |(cases h;done))
 refine CR c1 fun d s2 J2=>?_
 obtain⟨rfl,y2,vJ,nD⟩:=J2
 have jv:=nD.jy
 rw[fk]at jv
 have Xv:=(nD.loc (2,BE) (by simp)).1
 have kT:=fQ Xv
 have zO : ∀ r,(s2.ah.set 2 r)[2]? = some r:=fun r=>List.getElem?_set_self kT
 simp only at Xv
 have hb:m.back p.aT.L g=(if(m.close p.aT.L g).2.fin==0 then some (m.close p.aT.L g).1 else none,(m.close p.aT.L g).2):=rfl
 rcases Bool.eq_false_or_eq_true ((m.close p.aT.L g).2.fin==0)with b|b
 ·rw [b,if_pos rfl]at hb
  rcases adv with he|⟨a',m',he,hIH⟩
  ·rw[hb]at he;cases he
  ·have hk:=Zh (pb hS.right) pC he
   rw[hb]at he
   cases he
   repeat' (first
 |simp only[go_sem,hD,hY,hZ,gA,jv,b]
 |(with_reducible first|refine bt fun hc=>?_|refine bu fun hc=>?_|refine bx (fun hc=>?_) fun hc=>?_)<;>(try simp only[hc,bs,↓reduceIte]at h)<;>try simp only[hc]
 |(with_reducible refine aF hQ ?_;(try cases h);simp only[aV,aY,bH,bI,go_sem,hD,hY,hZ,gA,jv,b];try exact cr)
 |(cases h;replace h:=hr;clear hr;(try simp only[bs,↓reduceIte]at h))
 | (cases h;done))
   refine hIH y2 s2 _ ⟨⟨r,hr,nD⟩,hk,dL.close g,by simpa using b,by rw[oE.2.2.2.1];exact hfu⟩ ?_
   simp only[go_sem]
   repeat' (first|exact Ok.out|with_reducible refine iQ ?_ ?_)
 ·rw [b,if_neg (by simp)]at hb
  rcases adv with he|⟨a',m',he,hIH⟩
  ·rw [hb]at he
   cases he
   simp only[gj]at hQ
   repeat' (first
 |simp only[go_sem,hD,hY,hZ,gA,jv,b,Xv,zO]
 |(with_reducible first|refine bt fun hc=>?_|refine bu fun hc=>?_|refine bx (fun hc=>?_) fun hc=>?_)<;>(try simp only[hc,bs,↓reduceIte]at h)<;>try simp only[hc]
 |(with_reducible refine aF hQ ?_;(try cases h);simp only[aV,aY,bH,bI,go_sem,hD,hY,hZ,gA,jv,b,Xv,zO];try exact cr)
 |(cases h;replace h:=hr;clear hr;(try simp only[bs,↓reduceIte]at h))
 |(cases h;done))
  ·rw[hb]at he;cases he
theorem Vm (hS:FM p T W fuel) (hQ:pL 0 0 [(8,some (true,5)),(9,none)] (.tuple [.agg (gj mf), .int .i64 0]) ⟨[],[]⟩=Q) : ∀ (N:Nat) (a:Int) (m:Mc) (y:Lay) (q:Nat) (s:St),At p T W fuel a m y q s→Mc.go p p.aT.L T W fuel N a m=some mf→
 Sem Tryz.prog B 131 Q3V (JJ B Q) (TMr fuel q a) s:=by
 intro N
 induction N with
 |zero=>intro a m y q s _ h;cases h
 | succ N ih=>
  intro a m y q s qN kE
  have IH : ∀ (a':Int) (m':Mc) (y':Lay) (s':St) (tm:Tm),Mc.go p p.aT.L T W fuel N a' m'=some mf→At p T W fuel a' m' y' q s'→vb tm (TMr fuel q a')→JJ B Q (.goto 1) tm s':=fun a' m' y' s' tm hg hA ht=>
   C9 (r:= .seq .skip Q3V) rfl (lr.pE ht (lr.once (Sem.mU (ih a' m' y' q s' hA hg))))
  have am5:=qN
  obtain⟨⟨r,hr,hi⟩,pC,dL,vD,hfu⟩:=qN
  simp only[Mc.go]at kE
  refine iA ?_
  have⟨hD,hY,hZ,gA⟩:=bX
  have hm:=hi.jy
  rw[fk]at hm
  have qv:=hi.uw
  rcases Bool.eq_false_or_eq_true (a == -1)with ba|ba
  ·have hn:m.next p p.aT.L T W fuel a=m.back p.aT.L 0:=by unfold Mc.next;rw [if_pos ba]
   rw[hn]at kE
   repeat' (first
 |simp only[go_sem,hD,hY,hZ,gA,ba]
 |(with_reducible first|refine bt fun hc=>?_|refine bu fun hc=>?_|refine bx (fun hc=>?_) fun hc=>?_)<;>(try simp only[hc,bs,↓reduceIte]at h)<;>try simp only[hc]
 |(with_reducible refine aF hQ ?_;(try cases h);simp only[aV,aY,bH,bI,go_sem,hD,hY,hZ,gA,ba];try exact cr)
 |(cases h;replace h:=hr;clear hr;(try simp only[bs,↓reduceIte]at h))
 | (cases h;done))
   refine J1 hS hQ am5 (g:=0) ?_ ?_
   ·rcases e:m.back p.aT.L 0 with ⟨_ | a',m'⟩
    ·rw[e]at kE;cases kE;exact .inl rfl
    ·rw[e]at kE;exact .inr ⟨a',m',rfl,fun y' s' tm h1 h2=>IH a' m' y' s' tm kE h1 h2⟩
   ·simp only [go_sem]
    repeat' (first|exact Ok.out|with_reducible refine iQ ?_ ?_)
  rcases Bool.eq_false_or_eq_true (m.steps==fuel)with bf|bf
  ·have hn:m.next p p.aT.L T W fuel a=(none,{m with fin:=2}):=by unfold Mc.next;rw [if_neg (by simp [ba]),if_pos bf]
   rw[hn]at kE
   cases kE
   have h2:=hi.tF (m':= {m with fin:=2}) rfl rfl hi.t0 hi.t1
   rw[fk]at h2
   simp only at h2
   repeat' (first
 |simp only[go_sem,hD,hY,hZ,gA,ba,bf,hm,qv]
 |(with_reducible first|refine bt fun hc=>?_|refine bu fun hc=>?_|refine bx (fun hc=>?_) fun hc=>?_)<;>(try simp only[hc,bs,↓reduceIte]at h)<;>try simp only[hc]
 |(with_reducible refine aF hQ ?_;(try cases h);simp only[aV,aY,bH,bI,go_sem,hD,hY,hZ,gA,ba,bf,hm,qv];try exact cr)
 |(cases h;replace h:=hr;clear hr;(try simp only[bs,↓reduceIte]at h))
 | (cases h;done))
   refine EU hQ h2 ?_
   simp only[go_sem]
   repeat' (first|exact Ok.out|with_reducible refine iQ ?_ ?_)
  -- a statement
  obtain⟨fr,rs,f,zw,h1,h2,h3,h4⟩:=J0 hS.ok pC (by have:=dL.st;omega)
  have am6:a≠ -1:=by simpa using ba
  obtain⟨hx,yd,gp,c,hac,J3⟩:=Zp pC h4 hS.right am6 h1
  have hfb:=hS.fuel
  have CO:=dL.run (by omega) hS.ok hS.W hS.T
  have avh:m.steps<fuel:=by
   have h:m.steps≠fuel:=by simpa using bf
   omega
  have uW:=dL.steps
  have ER:IntKind.wrap .i64 (m.steps+1)=m.steps+1:=dV (by omega) (by omega)
  have Bz:IntKind.wrap .i64 (a - 1)=(c:Int):=by
   have:=(List.getElem?_eq_some_iff.1 J3).1
   have:=CO.L
   rw[show a - 1=(c:Int) by omega];exact dV (by omega) (by omega)
  have cS:(fq p)[2]? = some (.slice .shared 17 (p.aT.L.map dq)):=rfl
  have L2:=hi.tF (m':= {m with steps:=m.steps+1}) rfl rfl hi.t0 hi.t1
  generalize pG:fc p.aT.L a=it at *
  have am7:2≠q:=by
   have e1:=(hi.loc (q,r) (by simp)).1
   have e2:=(hi.loc (2,BE) (by simp)).1
   exact Lq e2 e1 fun e=>by have e':BE=r:=e;rw[← e']at hr;cases hr
  have FN:17≤r.length:=by omega
  have L3:List.drop 17 r = []:=List.drop_of_length_le (by omega)
  have nD:=L2.qL (r':=dq it) (by simpa using am7) (by omega)
  have ni:=L2.jy
  have G7:=(L2.loc (q,r) (by simp)).1
  have AV:=(nD.loc (q,dq it) (by simp)).1
  rw[fk]at ni nD G7 AV
  simp only at ni nD G7 AV
  have hle:q<s.ah.length:=fQ (hi.loc (q,r) (by simp)).1
  have Ph:mJ ({m with steps:=m.steps+1} : Mc) fr rs:=⟨zw.st,zw.len,zw.names,zw.vars⟩
  have Pj:HN p T W ({m with steps:=m.steps+1} : Mc):=⟨CO.W,CO.T,CO.trace,CO.out,CO.L,CO.P,CO.reads⟩
  have J4:pd p p.aT.L a ({m with steps:=m.steps+1} : Mc):=pC.of rfl (Nat.le_refl _) pC.at_
  have hn:m.next p p.aT.L T W fuel a=(if it.s.kind==4 then(if(({m with steps:=m.steps+1} : Mc).call p W it.s).2.fin==0 then some (({m with steps:=m.steps+1} : Mc).call p W it.s).1 else none,(({m with steps:=m.steps+1} : Mc).call p W it.s).2)
   else if it.s.kind==9 then(if(({m with steps:=m.steps+1} : Mc).e7 W it.s).2.fin==0 then(({m with steps:=m.steps+1} : Mc).e7 W it.s).2.back p.aT.L (({m with steps:=m.steps+1} : Mc).e7 W it.s).1 else(none,(({m with steps:=m.steps+1} : Mc).e7 W it.s).2))
   else(if(({m with steps:=m.steps+1} : Mc).do p p.aT.L T W it).2.fin==0 then some (({m with steps:=m.steps+1} : Mc).do p p.aT.L T W it).1 else none,(({m with steps:=m.steps+1} : Mc).do p p.aT.L T W it).2)):=by
   unfold Mc.next
   rw[if_neg (by simp[ba]),if_neg (by simp[bf])]
   dsimp only
   rw[pG]
  rw[hn]at kE
  generalize L1:({m with steps:=m.steps+1} : Mc)=m1 at *
  have am8:m1.fin=0:=by rw[← L1];exact vD
  have Vn:m1.steps=m.steps+1:=by rw[← L1]
  have Pk : ∀ m2:Mc,BD m1 m2→m2.st.length≤101→xq m2:=fun m2 hl hs=>dL.less (by rw[L1];exact hl) hs
  have J5:m1.st=m.st:=by rw[← L1]
  rcases Bool.eq_false_or_eq_true (it.s.kind==4)with b4|b4
  ·rw [if_pos b4]at kE
   have GO:it.s.kind=4:=by simpa using b4
   have c1:=Sb hS.ok hS.right.may nD Ph Pj J4.tW (Sc hS.ok hS.right hx GO h2 h3)
   repeat' (first
 |simp only[go_sem,hD,hY,hZ,gA,ba,bf,hm,qv,ER,ni,Bz,J3,cS,G7,AV,hle,b4,FN,L3,List.append_nil]
 |(with_reducible first|refine bt fun hc=>?_|refine bu fun hc=>?_|refine bx (fun hc=>?_) fun hc=>?_)<;>(try simp only[hc,bs,↓reduceIte]at h)<;>try simp only[hc]
 |(with_reducible refine aF hQ ?_;(try cases h);simp only[aV,aY,bH,bI,go_sem,hD,hY,hZ,gA,ba,bf,hm,qv,ER,ni,Bz,J3,cS,G7,AV,hle,b4,FN,L3,List.append_nil];try exact cr)
 |(cases h;replace h:=hr;clear hr;(try simp only[bs,↓reduceIte]at h))
 | (cases h;done))
   refine CR c1 fun d s2 J2=>?_
   obtain⟨rfl,y2,_,BF⟩:=J2
   have od:=BF.jy
   rw[fk]at od
   have oE:=Se p W m1 it.s
   have nC:(m1.call p W it.s).2.st.length≤101:=by
    rcases oE.2 with h|h
    ·rw[J5]at h;have:=dL.st;omega
    ·exact h
   rcases Bool.eq_false_or_eq_true ((m1.call p W it.s).2.fin==0)with b|b
   ·rw [b,if_pos rfl]at kE
    repeat' (first
 |simp only[go_sem,hD,hY,hZ,gA,od,b]
 |(with_reducible first|refine bt fun hc=>?_|refine bu fun hc=>?_|refine bx (fun hc=>?_) fun hc=>?_)<;>(try simp only[hc,bs,↓reduceIte]at h)<;>try simp only[hc]
 |(with_reducible refine aF hQ ?_;(try cases h);simp only[aV,aY,bH,bI,go_sem,hD,hY,hZ,gA,od,b];try exact cr)
 |(cases h;replace h:=hr;clear hr;(try simp only[bs,↓reduceIte]at h))
 | (cases h;done))
    refine IH _ _ y2 s2 _ kE ⟨⟨dq it,rfl,BF⟩,Zj hS.right J4 hx GO (by rw[yd, ← h4];unfold Mc.top;rw[J5]) (by simpa using b) rfl am8,Pk _ oE.1 nC,by simpa using b,by rw[oE.1.steps,Vn];omega⟩ ?_
    simp only[go_sem]
    repeat' (first|exact Ok.out|with_reducible refine iQ ?_ ?_)
   ·rw [b,if_neg (by simp)]at kE
    cases kE
    repeat' (first
 |simp only[go_sem,hD,hY,hZ,gA,od,b]
 |(with_reducible first|refine bt fun hc=>?_|refine bu fun hc=>?_|refine bx (fun hc=>?_) fun hc=>?_)<;>(try simp only[hc,bs,↓reduceIte]at h)<;>try simp only[hc]
 |(with_reducible refine aF hQ ?_;(try cases h);simp only[aV,aY,bH,bI,go_sem,hD,hY,hZ,gA,od,b];try exact cr)
 |(cases h;replace h:=hr;clear hr;(try simp only[bs,↓reduceIte]at h))
 | (cases h;done))
    refine EU hQ BF ?_
    simp only[go_sem]
    repeat' (first|exact Ok.out|with_reducible refine iQ ?_ ?_)
  rw[if_neg (by simp[b4])]at kE
  rcases Bool.eq_false_or_eq_true (it.s.kind==9)with b9|b9
  ·rw [if_pos b9]at kE
   have c1:=Zm nD Ph (L0 hS.ok hS.right hx h2 h3).said Pj.W Pj.trace
   repeat' (first
 |simp only[go_sem,hD,hY,hZ,gA,ba,bf,hm,qv,ER,ni,Bz,J3,cS,G7,AV,hle,b4,b9,FN,L3,List.append_nil]
 |(with_reducible first|refine bt fun hc=>?_|refine bu fun hc=>?_|refine bx (fun hc=>?_) fun hc=>?_)<;>(try simp only[hc,bs,↓reduceIte]at h)<;>try simp only[hc]
 |(with_reducible refine aF hQ ?_;(try cases h);simp only[aV,aY,bH,bI,go_sem,hD,hY,hZ,gA,ba,bf,hm,qv,ER,ni,Bz,J3,cS,G7,AV,hle,b4,b9,FN,L3,List.append_nil];try exact cr)
 |(cases h;replace h:=hr;clear hr;(try simp only[bs,↓reduceIte]at h))
 | (cases h;done))
   refine CR c1 fun d s2 J2=>?_
   obtain⟨rfl,y2,_,BF⟩:=J2
   have od:=BF.jy
   rw[fk]at od
   have rm:=Pe W m1 it.s
   have hgs:=(zn W m1 it.s).1
   rcases Bool.eq_false_or_eq_true ((m1.e7 W it.s).2.fin==0)with b|b
   ·rw [b,if_pos rfl]at kE
    repeat' (first
 |simp only[go_sem,hD,hY,hZ,gA,od,b]
 |(with_reducible first|refine bt fun hc=>?_|refine bu fun hc=>?_|refine bx (fun hc=>?_) fun hc=>?_)<;>(try simp only[hc,bs,↓reduceIte]at h)<;>try simp only[hc]
 |(with_reducible refine aF hQ ?_;(try cases h);simp only[aV,aY,bH,bI,go_sem,hD,hY,hZ,gA,od,b];try exact cr)
 |(cases h;replace h:=hr;clear hr;(try simp only[bs,↓reduceIte]at h))
 | (cases h;done))
    have RB:m1.mem.length≤(m1.e7 W it.s).2.mem.length:=by
     have hw:=gw m1 it.s.x
     unfold Mc.e7
     split
     ·dsimp only
      split
      ·rw[(eJ _ _ _ _).2.1,hw.2.1];exact Nat.le_refl _
      ·rw[hw.2.1];exact Nat.le_refl _
     ·rw[(eJ _ _ _ _).2.1];exact Nat.le_refl _
    refine J1 (a:=a) (g:=(m1.e7 W it.s).1) hS hQ (y:=y2) ⟨⟨dq it,rfl,BF⟩,J4.of hgs RB J4.at_,Pk _ rm (by rw[hgs,J5];exact dL.st),by simpa using b,by rw[rm.steps,Vn];omega⟩ ?_ ?_
    ·rcases e:(m1.e7 W it.s).2.back p.aT.L (m1.e7 W it.s).1 with ⟨_ | a',m'⟩
     ·rw[e]at kE;cases kE;exact .inl rfl
     ·rw[e]at kE;exact .inr ⟨a',m',rfl,fun y' s' tm h1 h2=>IH a' m' y' s' tm kE h1 h2⟩
    ·simp only [go_sem]
     repeat' (first|exact Ok.out|with_reducible refine iQ ?_ ?_)
   ·rw [b,if_neg (by simp)]at kE
    cases kE
    repeat' (first
 |simp only[go_sem,hD,hY,hZ,gA,od,b]
 |(with_reducible first|refine bt fun hc=>?_|refine bu fun hc=>?_|refine bx (fun hc=>?_) fun hc=>?_)<;>(try simp only[hc,bs,↓reduceIte]at h)<;>try simp only[hc]
 |(with_reducible refine aF hQ ?_;(try cases h);simp only[aV,aY,bH,bI,go_sem,hD,hY,hZ,gA,od,b];try exact cr)
 |(cases h;replace h:=hr;clear hr;(try simp only[bs,↓reduceIte]at h))
 | (cases h;done))
    refine EU hQ BF ?_
    simp only[go_sem]
    repeat' (first|exact Ok.out|with_reducible refine iQ ?_ ?_)
  rw[if_neg (by simp[b9])]at kE
  have c1:=amZ hS.ok hS.right.may nD Ph Pj (L0 hS.ok hS.right hx h2 h3)
  repeat' (first
 |simp only[go_sem,hD,hY,hZ,gA,ba,bf,hm,qv,ER,ni,Bz,J3,cS,G7,AV,hle,b4,b9,FN,L3,List.append_nil]
 |(with_reducible first|refine bt fun hc=>?_|refine bu fun hc=>?_|refine bx (fun hc=>?_) fun hc=>?_)<;>(try simp only[hc,bs,↓reduceIte]at h)<;>try simp only[hc]
 |(with_reducible refine aF hQ ?_;(try cases h);simp only[aV,aY,bH,bI,go_sem,hD,hY,hZ,gA,ba,bf,hm,qv,ER,ni,Bz,J3,cS,G7,AV,hle,b4,b9,FN,L3,List.append_nil];try exact cr)
 |(cases h;replace h:=hr;clear hr;(try simp only[bs,↓reduceIte]at h))
 | (cases h;done))
  refine CR c1 fun d s2 J2=>?_
  obtain⟨rfl,y2,_,BF⟩:=J2
  have od:=BF.jy
  rw[fk]at od
  have hdl:=Zq p p.aT.L T W m1 it
  have AP:=(OX p p.aT.L T W m1 it).1
  rcases Bool.eq_false_or_eq_true ((m1.do p p.aT.L T W it).2.fin==0)with b|b
  ·rw [b,if_pos rfl]at kE
   repeat' (first
 |simp only[go_sem,hD,hY,hZ,gA,od,b]
 |(with_reducible first|refine bt fun hc=>?_|refine bu fun hc=>?_|refine bx (fun hc=>?_) fun hc=>?_)<;>(try simp only[hc,bs,↓reduceIte]at h)<;>try simp only[hc]
 |(with_reducible refine aF hQ ?_;(try cases h);simp only[aV,aY,bH,bI,go_sem,hD,hY,hZ,gA,od,b];try exact cr)
 |(cases h;replace h:=hr;clear hr;(try simp only[bs,↓reduceIte]at h))
 | (cases h;done))
   refine IH _ _ y2 s2 _ kE ⟨⟨dq it,rfl,BF⟩,agL hS.right J4 hx (by rw[yd, ← h4];unfold Mc.top;rw[J5]) (by simpa using b),Pk _ hdl (by rw[AP,J5];exact dL.st),by simpa using b,by rw[hdl.steps,Vn];omega⟩ ?_
   simp only[go_sem]
   repeat' (first|exact Ok.out|with_reducible refine iQ ?_ ?_)
  ·rw [b,if_neg (by simp)]at kE
   cases kE
   repeat' (first
 |simp only[go_sem,hD,hY,hZ,gA,od,b]
 |(with_reducible first|refine bt fun hc=>?_|refine bu fun hc=>?_|refine bx (fun hc=>?_) fun hc=>?_)<;>(try simp only[hc,bs,↓reduceIte]at h)<;>try simp only[hc]
 |(with_reducible refine aF hQ ?_;(try cases h);simp only[aV,aY,bH,bI,go_sem,hD,hY,hZ,gA,od,b];try exact cr)
 |(cases h;replace h:=hr;clear hr;(try simp only[bs,↓reduceIte]at h))
 | (cases h;done))
   refine EU hQ BF ?_
   simp only[go_sem]
   repeat' (first|exact Ok.out|with_reducible refine iQ ?_ ?_)
end
end Go.Abs
namespace Go.Abs
set_option maxRecDepth 8000
open Go.Proofs
def ofM (p:Pg) (T W:List Int) (fuel:Int):Mc×Int:=
 if decide (fuel<0) ||(decide (fuel > 1000000) || !(p.check.1==0))then(⟨[],[],0,0,0,[],[]⟩,1)else((runM p T W fuel).getD ⟨[],[],0,0,0,[],[]⟩,0)
theorem Pl (m:Mc):D.bL 0 0 (gj m)=true:=by simp[gj,D.bL,D.ok,Tag.ok,jt,agZ]
theorem Zt {p:Pg} (hR:p.Right) : ∃ (j:Nat) (q:Pc),p.at iC=(j:Int)∧p.procs[j]? = some q∧p.find q.name=some q∧q.params.length=0:=by
 have h:=hR.main
 unfold Pg.tn at h
 cases e:p.find iC with
 |none=>rw[e]at h;cases h
 |some q=>
  rw[e]at h
  obtain⟨j,h1,h2⟩:=HM (k:=0) e
  refine⟨j,q,by simpa[Pg.at]using h1,h2,by rw[zG e];exact e, ?_⟩
  simp only[decide_eq_false_iff_not]at h
  omega
theorem adw {p:Pg} (hO:p.iR) {T W:List Int} (hT:T.length<1000000) (hW:W.length<1000000) (fuel:Int) (s:St) :
 aG Tryz.prog rX [.agg (cB p), .slice .shared 1 (T.map cq), .int .i64 fuel, .slice .shared 1 (W.map cq)] s (.tuple [.agg (gj (ofM p T W fuel).1), .int .i64 (ofM p T W fuel).2]) s:=by
 refine aG.pure ?_ (by simp[D.bL,D.ok,Tag.ok,ki,jt]) (by simp only[D.ok,D.bL,Pl];rfl) s
 have cM:=fun s=>Si hO s
 have cN:=fun s=>BW (p:=p) (by have:=hO.procs;omega) s
 generalize hR:ofM p T W fuel=R
 unfold ofM at hR
 obtain⟨R1,R2⟩:=R
 dsimp only
 unfold S0
 by_cases J6:(decide (fuel<0) ||(decide (fuel > 1000000) || !(p.check.1==0)))=true
 ·rw [if_pos J6]at hR
  cases hR
  simp only[gj,List.map_nil]
  rcases Bool.eq_false_or_eq_true (decide (fuel<0))with b1|b1
  ·refine aG.go uE rfl fun B Q hB hQ=> ?_
   have⟨hD,hY,hZ,gA⟩:=bX
   repeat' (first
 |simp only[go_sem,hD,hY,hZ,gA,b1]
 |(with_reducible first|refine bt fun hc=>?_|refine bu fun hc=>?_|refine bx (fun hc=>?_) fun hc=>?_)<;>(try simp only[hc,bs,↓reduceIte]at h)<;>try simp only[hc]
 |(with_reducible refine aF hQ ?_;(try cases h);simp only[aV,aY,bH,bI,go_sem,hD,hY,hZ,gA,b1];try exact cr)
 | (cases h;done))
   refine lr.kH ?_
   repeat' (first
 |simp only[go_sem,hD,hY,hZ,gA,b1]
 |(with_reducible first|refine bt fun hc=>?_|refine bu fun hc=>?_|refine bx (fun hc=>?_) fun hc=>?_)<;>(try simp only[hc,bs,↓reduceIte]at h)<;>try simp only[hc]
 |(with_reducible refine aF hQ ?_;(try cases h);simp only[aV,aY,bH,bI,go_sem,hD,hY,hZ,gA,b1];try exact cr)
 | (cases h;done))
  rcases Bool.eq_false_or_eq_true (decide (fuel > 1000000))with b2|b2
  ·refine aG.go uE rfl fun B Q hB hQ=> ?_
   have⟨hD,hY,hZ,gA⟩:=bX
   repeat' (first
 |simp only[go_sem,hD,hY,hZ,gA,b1,b2]
 |(with_reducible first|refine bt fun hc=>?_|refine bu fun hc=>?_|refine bx (fun hc=>?_) fun hc=>?_)<;>(try simp only[hc,bs,↓reduceIte]at h)<;>try simp only[hc]
 |(with_reducible refine aF hQ ?_;(try cases h);simp only[aV,aY,bH,bI,go_sem,hD,hY,hZ,gA,b1,b2];try exact cr)
 | (cases h;done))
   refine lr.kH ?_
   repeat' (first
 |simp only[go_sem,hD,hY,hZ,gA,b1,b2]
 |(with_reducible first|refine bt fun hc=>?_|refine bu fun hc=>?_|refine bx (fun hc=>?_) fun hc=>?_)<;>(try simp only[hc,bs,↓reduceIte]at h)<;>try simp only[hc]
 |(with_reducible refine aF hQ ?_;(try cases h);simp only[aV,aY,bH,bI,go_sem,hD,hY,hZ,gA,b1,b2];try exact cr)
 | (cases h;done))
  ·have b3:(p.check.1==0)=false:=by simpa [b1,b2]using J6
   rw[b3]at cM
   refine aG.go uE rfl fun B Q hB hQ=>?_
   have⟨hD,hY,hZ,gA⟩:=bX
   repeat' (first
 |simp only[go_sem,hD,hY,hZ,gA,b1,b2]
 |(with_reducible refine CU (cM _) ?_)
 |(with_reducible first|refine bt fun hc=>?_|refine bu fun hc=>?_|refine bx (fun hc=>?_) fun hc=>?_)<;>(try simp only[hc,bs,↓reduceIte]at h)<;>try simp only[hc]
 |(with_reducible refine aF hQ ?_;(try cases h);simp only[aV,aY,bH,bI,go_sem,hD,hY,hZ,gA,b1,b2];try exact cr)
 | (cases h;done))
   refine lr.kH ?_
   repeat' (first
 |simp only[go_sem,hD,hY,hZ,gA,b1,b2]
 |(with_reducible refine CU (cM _) ?_)
 |(with_reducible first|refine bt fun hc=>?_|refine bu fun hc=>?_|refine bx (fun hc=>?_) fun hc=>?_)<;>(try simp only[hc,bs,↓reduceIte]at h)<;>try simp only[hc]
 |(with_reducible refine aF hQ ?_;(try cases h);simp only[aV,aY,bH,bI,go_sem,hD,hY,hZ,gA,b1,b2];try exact cr)
 |(cases h;done))
 rw[if_neg J6]at hR
 simp only[Bool.or_eq_true,not_or,Bool.not_eq_true,Bool.not_eq_false']at J6
 obtain⟨b1,b2,b3⟩:=J6
 rw[b3]at cM
 have Pn:0≤fuel∧fuel≤1000000:=by simp at b1 b2;omega
 obtain⟨mf,hmf⟩:=GU p T W Pn.1
 rw[hmf]at hR
 simp only[Option.getD_some]at hR
 cases hR
 have Xw:=Dy b3
 have hS:FM p T W fuel:=⟨hO,Xw,hW,hT,Pn⟩
 obtain⟨j,q,j1,j2,j3,j4⟩:=Zt Xw
 have cP:=fun s=>(show aG Tryz.prog ik [.dt (fq p) 0, .str [109,97,105,110]] s (.int .i64 (p.at iC)) s from El (p:=p) (by have:=hO.procs;omega) iC s)
 rw[j1]at cP
 have rm:=hO.procs.2.2
 refine aG.go uE rfl fun B Q hB hQ=>?_
 have⟨hD,hY,hZ,gA⟩:=bX
 -- from the globals on
 have start : ∀ (y:Lay) (s:St),Inv p T W y (jw p) [(2,BE)] s→Sem Tryz.prog B 131 Q3Z (JJ B Q) [(2, .int .i64 fuel),(8, .ptr 2 0),(10, .ptr 0 0)] s:=by
  intro y s hi
  have L2:=hi.new [.int .i64 0, .int .i64 0, .slice .full 0 [], .str [], .str [], .int .i64 0, .int .i64 0, .str [], .slice .full 0 [], .bool false, .slice .full 0 [], .slice .full 0 [], .slice .full 0 [], .int .i64 0, .int .i64 0, .int .i64 0, .int .i64 0]
  have ni:=L2.jy
  rw[fk]at ni
  simp only at ni
  obtain⟨y2,s2,hF,nD⟩:=LZ L2 hO Xw.may j2 j3 (by simp[jw]) (l:= []) (by simp) (by simp) (by simp[jw]) 0
  have hF':=bG.pK (.cons (Wk.refl _) (.cons (Wk.refl _) (.cons (Wk.nil .full 0 1) (ji.refl _)))) hF
  have hF2:aG Tryz.prog jd [.ptr 0 0, .int .i64 (j:Int), .slice .full 0 [], .int .i64 0] _ _ s2:=hF'
  have pC:=LS (m:=jw p) (pb Xw) j2 (l:= []) (call:=0) (by simp[j4]) (by simp) (by simp[jw]) (by simp[jw]) (.inl ⟨rfl,rfl⟩)
  have kE:=hmf
  unfold runM at kE
  rw[j1]at kE
  dsimp only at kE
  have jh:=wM p (jw p) (j:Int) [] 0
  have ui:=(yl p (jw p) (j:Int) [] 0).1
  have wE:((jw p).open p (j:Int) [] 0).2.fin=0:=by
   unfold Mc.open
   split<;>rfl
  have ady:=Vm (B:=B) hS hQ _ _ _ y2 s.ah.length s2 ⟨⟨_,rfl,nD⟩,pC,⟨by rw[jh.2.2.2];simp[jw],by rw[jh.1,jh.2.2.2];simp[jw],by rw[jh.2.1,jh.2.2.2];simp[jw],by rw[jh.2.2.1,jh.2.2.2];simp[jw],Nat.le_trans ui (by simp[jw])⟩,wE,by rw[jh.2.2.2];simp[jw];exact Pn.1⟩ kE
  refine Sem.mU ?_
  repeat' (first
 |simp only[go_sem,hD,hY,hZ,gA]
 |(with_reducible first|refine bt fun hc=>?_|refine bu fun hc=>?_|refine bx (fun hc=>?_) fun hc=>?_)<;>(try simp only[hc,bs,↓reduceIte]at h)<;>try simp only[hc]
 |(with_reducible refine aF hQ ?_;exact fX)
 |(cases h;done))
  refine Sem.mU ?_
  repeat' (first
 |simp only[go_sem,hD,hY,hZ,gA]
 |(with_reducible first|refine bt fun hc=>?_|refine bu fun hc=>?_|refine bx (fun hc=>?_) fun hc=>?_)<;>(try simp only[hc,bs,↓reduceIte]at h)<;>try simp only[hc]
 |(with_reducible refine aF hQ ?_;exact fX)
 |(cases h;done))
  refine Sem.mU ?_
  repeat' (first
 |simp only[go_sem,hD,hY,hZ,gA,ni]
 |(with_reducible refine CU (cP _) ?_)
 |(with_reducible refine CU (hF2) ?_)
 |(with_reducible first|refine bt fun hc=>?_|refine bu fun hc=>?_|refine bx (fun hc=>?_) fun hc=>?_)<;>(try simp only[hc,bs,↓reduceIte]at h)<;>try simp only[hc]
 |(with_reducible refine aF hQ ?_;(try cases h);simp only[aV,aY,bH,bI,go_sem,hD,hY,hZ,gA,ni];try exact cr)
 |(cases h;done))
  refine Sem.mU ?_
  repeat' (first
 |simp only[go_sem,hD,hY,hZ,gA]
 |(with_reducible first|refine bt fun hc=>?_|refine bu fun hc=>?_|refine bx (fun hc=>?_) fun hc=>?_)<;>(try simp only[hc,bs,↓reduceIte]at h)<;>try simp only[hc]
 |(with_reducible refine aF hQ ?_;exact fX)
 |(cases h;done))
  refine Sem.pE ?_ ady
  simp only[go_sem]
  repeat' (first|exact Ok.out|with_reducible refine iQ ?_ ?_)
 generalize hG:p.globals.length=G at *
 have hGb:G≤900000:=by rw[← hG];exact hO.procs.2.2
 let row:Nat→List D:=fun k=> [.dt (fq p) 0, .slice (.tok 2) 1 ((List.range k).map fun i=>fe (3+i)), .slice .shared 1 (T.map cq), .slice .shared 1 (W.map cq), .dX 1, .dX 1, .int .i64 0, .int .i64 0, .int .i64 0, .slice (.tok 0) 1 [], .slice (.tok 1) 2 []]
 have loop : ∀ d k:Nat,k+d=G→br Tryz.prog B 131 Q2D (ku 0 (nL (Sem Tryz.prog B 131 Q3Z (JJ B Q)) (JJ B Q))) [(2, .int .i64 fuel),(8, .ptr 2 0),(10, .ptr 0 0),(34, .int .i64 (G:Int)),(35, .int .i64 (k:Int))]
  ⟨row k::cB p::BE::List.replicate k [.int .i64 0],[some 0,some 0,some k]⟩:=by
  intro d
  induction d with
  |zero=>
   intro k hk
   have ud:k=G:=by omega
   subst ud
   have hD:decide ((k:Int)<(k:Int))=false:=by simp
   refine br.kH ?_
   repeat' (first
 |simp only[go_sem,hD,hY,hZ,gA]
 |(with_reducible first|refine bt fun hc=>?_|refine bu fun hc=>?_|refine bx (fun hc=>?_) fun hc=>?_)<;>(try simp only[hc,bs,↓reduceIte]at h)<;>try simp only[hc]
 |(with_reducible refine aF hQ ?_;exact fX)
 | (cases h;done))
   refine Sem.pE (bn:= [(2, .int .i64 fuel),(8, .ptr 2 0),(10, .ptr 0 0)]) (by simp only[go_sem];repeat' (first|exact Ok.out|with_reducible refine iQ ?_ ?_)) ?_
   have hκ:((List.range k).map (3 + ·)).length=k:=by simp
   have hmp:((List.range k).map fun i=>fe (3+i))=(((List.range k).map (3 + ·)).take k).map fe:=by rw[List.take_of_length_le (by simp),List.map_map];rfl
   refine Sem.wkO (fk p T W ⟨(List.range k).map (3 + ·),[], .dX 1, .dX 1⟩ (jw p)::cB p::BE::List.replicate k [.int .i64 0]) ?_ (start ⟨(List.range k).map (3 + ·),[], .dX 1, .dX 1⟩ _ ?_)
   ·refine .cons ?_ (gn.refl _)
    simp only[row,fk,hG, ← hmp,jw,List.map_nil]
    exact Ok.out
   ·have R5:((List.range k).map (3 + ·)).Nodup:=by
     rw[List.nodup_iff_pairwise_ne,List.pairwise_map]
     exact List.Pairwise.imp (fun h=>by omega) (List.nodup_iff_pairwise_ne.1 List.nodup_range)
    refine⟨rfl,rfl,rfl,by simp[jw,hG],fun i c v e1 e2=>?_,rfl,fun i o fr e1 e2=>by simp at e1, .inl ⟨rfl,rfl⟩,⟨[], .inl ⟨rfl,rfl⟩⟩, ?_,fun x mx=>?_⟩
    ·have hD:=(List.getElem?_eq_some_iff.1 e1).1
     simp only[hκ]at hD
     rw[List.getElem?_map,List.getElem?_range hD]at e1
     simp only[jw]at e2
     rw[List.getElem?_replicate_of_lt (by omega)]at e2
     simp only[Option.map_some,Option.some.injEq]at e1 e2
     subst e1 e2
     show(_::_::_::List.replicate k [D.int .i64 0])[3+i]? = _
     rw[show 3+i=i+1+1+1 by omega]
     simp only[List.getElem?_cons_succ]
     exact List.getElem?_replicate_of_lt hD
    ·simp only [Lay.own,D.arr,List.append_nil]
     rw[List.nodup_cons]
     exact⟨by simp,R5⟩
    ·rw [List.mem_singleton.1 mx]
     refine⟨rfl, ?_⟩
     simp only[Lay.own,D.arr,List.append_nil,List.mem_cons,List.mem_map,List.mem_range,not_or]
     exact⟨by omega,by rintro⟨i,_,h⟩;omega⟩
  | succ d ih=>
   intro k hk
   have hD:decide ((k:Int)<(G:Int))=true:=by simp;omega
   have cj:k<4611686018427387904:=by omega
   have eH : ∀ os,ig 1 8 (.slice (.tok 2) 1 ((List.range k).map fun i=>fe (3+i))) (.slice .full 1 [[.ptr (3+k) 0]]) ⟨os,[some 0,some 0,some k]⟩ =
    some (.slice (.tok 2) 1 ((List.range (k+1)).map fun i=>fe (3+i)),⟨os,[some 0,some 0,some (k+1)]⟩):=fun os=>by
    rw[oU (size:=1) (by simp only[List.length_map,List.length_range,List.length_singleton];unfold bJ;omega) (by simp)]
    simp[List.range_succ,fe]
   have hln : ∀ a b c:List D,(a::b::c::List.replicate k [D.int .i64 0]).length=3+k:=fun a b c=>by simp;omega
   have adz : ∀ a b c:List D,a::b::c::List.replicate k [D.int .i64 0]++ [[D.int .i64 0]] = a::b::c::List.replicate (k+1) [D.int .i64 0]:=fun a b c=>by rw[List.replicate_succ'];rfl
   refine br.kH ?_
   simp only[row]
   repeat' (first
 |simp only[go_sem,hD,hY,hZ,gA,eH,hln,adz]
 |(with_reducible first|refine bt fun hc=>?_|refine bu fun hc=>?_|refine bx (fun hc=>?_) fun hc=>?_)<;>(try simp only[hc,bs,↓reduceIte]at h)<;>try simp only[hc]
 |(with_reducible refine aF hQ ?_;(try cases h);simp only[aV,aY,bH,bI,go_sem,hD,hY,hZ,gA,eH,hln,adz];try exact cr)
 | (cases h;done))
   have:=ih (k+1) (by omega)
   simp only[row,List.range_succ,List.map_append,List.map_cons,List.map_nil]at this
   refine br.pE ?_ this
   simp only[go_sem,aM cj]
   repeat' (first|exact Ok.out|with_reducible refine iQ ?_ ?_)
 repeat' (first
 |simp only[go_sem,hD,hY,hZ,gA,b1,b2]
 |(with_reducible first|refine bt fun hc=>?_|refine bu fun hc=>?_|refine bx (fun hc=>?_) fun hc=>?_)<;>(try simp only[hc,bs,↓reduceIte]at h)<;>try simp only[hc]
 |(with_reducible refine aF hQ ?_;(try cases h);simp only[aV,aY,bH,bI,go_sem,hD,hY,hZ,gA,b1,b2];try exact cr)
 |(cases h;done))
 refine lr.once (Sem.mU ?_)
 repeat' (first
 |simp only[go_sem,hD,hY,hZ,gA,b1,b2]
 |(with_reducible refine CU (cM _) ?_)
 |(with_reducible first|refine bt fun hc=>?_|refine bu fun hc=>?_|refine bx (fun hc=>?_) fun hc=>?_)<;>(try simp only[hc,bs,↓reduceIte]at h)<;>try simp only[hc]
 |(with_reducible refine aF hQ ?_;(try cases h);simp only[aV,aY,bH,bI,go_sem,hD,hY,hZ,gA,b1,b2];try exact cr)
 |(cases h;done))
 refine Sem.mU ?_
 repeat' (first
 |simp only[go_sem,hD,hY,hZ,gA]
 |(with_reducible refine CU (cN _) ?_)
 |(with_reducible first|refine bt fun hc=>?_|refine bu fun hc=>?_|refine bx (fun hc=>?_) fun hc=>?_)<;>(try simp only[hc,bs,↓reduceIte]at h)<;>try simp only[hc]
 |(with_reducible refine aF hQ ?_;exact fX)
 |(cases h;done))
 refine Sem.mU ?_
 repeat' (first
 |simp only[go_sem,hD,hY,hZ,gA]
 |(with_reducible first|refine bt fun hc=>?_|refine bu fun hc=>?_|refine bx (fun hc=>?_) fun hc=>?_)<;>(try simp only[hc,bs,↓reduceIte]at h)<;>try simp only[hc]
 |(with_reducible refine aF hQ ?_;exact fX)
 |(cases h;done))
 refine br.C8 2 9 1 rfl rfl ?_
 refine br.C8 2 10 2 rfl rfl ?_
 refine br.C8 2 1 1 rfl rfl ?_
 simp only[List.set_cons_succ,List.set_cons_zero,List.length_nil,List.nil_append,List.length_cons,List.cons_append]
 have l0:=loop G 0 (by omega)
 simp only[row,List.range_zero,List.map_nil,List.replicate_zero]at l0
 refine br.re [(2, .int .i64 fuel),(8, .ptr 1 0),(10, .ptr 2 0),(34, .int .i64 (G:Int)),(35, .int .i64 ((0:Nat):Int))]
  [cB p,BE,[.dt (fq p) 0, .slice (.tok 2) 1 [], .slice .shared 1 (T.map cq), .slice .shared 1 (W.map cq), .dX 1, .dX 1, .int .i64 0, .int .i64 0, .int .i64 0, .slice (.tok 0) 1 [], .slice (.tok 1) 2 []]] 3 3 (by rw[hB];exact Nat.zero_le _) (by rw[hB];exact Nat.zero_le _) ?_ ?_ ?_
 ·simp only [go_sem,hG]
  repeat' (first|exact Ok.out|with_reducible refine iQ ?_ ?_)
 ·simp only [go_sem,Xf]
  repeat' (first|exact Ok.out|with_reducible refine iQ ?_ ?_)
 have r1 : ∀ os ts,D.eQ os ts (fq p)=fq p:=fun os ts=>fv os ts _ (tV p)
 have r2 : ∀ n m,D.bL n m (fq p)=true:=fun n m=>ij (Nat.zero_le n) (Nat.zero_le m) _ (tV p)
 have r3 : ∀ os ts l,D.nN os ts (List.map cq l)=List.map cq l:=fun os ts l=>jc os ts _ (jt l)
 have r4 : ∀ n m l,D.gU n m (List.map cq l)=true:=fun n m l=>mh (Nat.zero_le n) (Nat.zero_le m) _ (jt l)
 refine br.ajj hB [2,0,1] _ _ (by decide) (by simp) ?_ ?_ l0
 ·simp[A1,D.eQ,D.cJ,D.nN,D.bL,D.gU,D.ok,Tag.cJ,Tag.ok,St.cut,r1,r2,r3,r4,Lr,Q1,BE]
 ·simp[CF,Tm.get,D.cJ,D.ok]
theorem J7 {a b:List Int} (ha:a.length<1000000000) (g:Tag) (s:St):aG Tryz.prog pw [.slice .shared 1 (a.map cq), .slice g 1 (b.map cq)] s (.bool (a==b)) s:=by
 refine bG.pK (.cons (Wk.refl _) (.cons (Wk.shared _ _ _) .nil)) (aG.pure ?_ (by simp[D.bL,D.ok,Tag.ok,jt]) rfl s)
 generalize h:(a==b)=R
 unfold S0
 by_cases hl:a.length=b.length
 ·have e1:((a.length:Int) != (b.length:Int))=false:=by simp [hl]
  refine aG.go vq rfl fun B Q hB hQ=>?_
  have⟨hD,hY,hZ,gA⟩:=bX
  repeat' (first
 |simp only[go_sem,hD,hY,hZ,gA,e1]
 |(with_reducible first|refine bt fun hc=>?_|refine bu fun hc=>?_|refine bx (fun hc=>?_) fun hc=>?_)<;>(try simp only[hc,bs,↓reduceIte]at h)<;>try simp only[hc]
 |(with_reducible refine aF hQ ?_;(try cases h);simp only[aV,aY,bH,bI,go_sem,hD,hY,hZ,gA,e1];try exact cr)
 | (cases h;done))
  refine fm 0 0 (br.ind (ι:=List Int×List Int×Nat) (fun i=>a.drop i.2.2=i.1∧b.drop i.2.2=i.2.1∧(i.1==i.2.1)=R) (fun i=>i.1.length)
   (fun i=> [(0, .slice .shared 1 (a.map cq)),(1, .slice .shared 1 (b.map cq)),(12, .int .i64 (a.length:Int)),(13, .int .i64 (i.2.2:Int))]) (fun i=>⟨[],[]⟩) ?_ (a,b,0) ⟨rfl,rfl,h⟩)
  rintro⟨ra,rb,k⟩ ⟨h1,h2,h⟩ IH
  dsimp only at h1 h2 h
  cases ra with
  |nil=>
   have hD:=drop_nil h1
   have:b.drop k = []:=by rw[List.drop_eq_nil_iff]at h1 ⊢;omega
   rw[h2]at this
   subst this
   have h':true=R:=h
   subst h'
   repeat' (first
 |simp only[go_sem,hD,hY,hZ,gA]
 |(with_reducible first|refine bt fun hc=>?_|refine bu fun hc=>?_|refine bx (fun hc=>?_) fun hc=>?_)<;>(try simp only[hc,bs,↓reduceIte]at h)<;>try simp only[hc]
 |(with_reducible refine aF hQ ?_;exact fX)
 | (cases h;done))
  | cons x ra=>
   obtain⟨hY,g2,hD,g4⟩:=drop_cons h1
   have cj:k<4611686018427387904:=by omega
   cases rb with
   |nil=>rw[List.drop_eq_nil_iff]at h2;omega
   | cons y rb=>
    obtain⟨vY,g2',acJ,g4'⟩:=drop_cons h2
    have e2:(x != y) = !(x==y):=rfl
    simp only[List.cons_beq_cons]at h
    rcases Bool.eq_false_or_eq_true (x==y)with c|c
    ·simp only [c,Bool.true_and]at h
     repeat' (first
 |simp only[go_sem,hD,hY,hZ,gA,e2,c,vY]
 |(with_reducible first|refine bt fun hc=>?_|refine bu fun hc=>?_|refine bx (fun hc=>?_) fun hc=>?_)<;>(try simp only[hc,bs,↓reduceIte]at h)<;>try simp only[hc]
 |(with_reducible refine aF hQ ?_;(try cases h);simp only[aV,aY,bH,bI,go_sem,hD,hY,hZ,gA,e2,c,vY];try exact cr)
 | (cases h;done))
     refine fp 0 0 ?_ ?_ (IH (ra,rb,k+1) ⟨g2,g2',h⟩ (Nat.lt_succ_self _))
     ·(simp only[go_sem,hD,hY,hZ,gA,aM cj];try exact cz)
     ·(simp only[go_sem,hD,hY,hZ,gA,aM cj];try exact cz)
    ·simp only [c,Bool.false_and]at h
     repeat' (first
 |simp only[go_sem,hD,hY,hZ,gA,e2,c,vY]
 |(with_reducible first|refine bt fun hc=>?_|refine bu fun hc=>?_|refine bx (fun hc=>?_) fun hc=>?_)<;>(try simp only[hc,bs,↓reduceIte]at h)<;>try simp only[hc]
 |(with_reducible refine aF hQ ?_;(try cases h);simp only[aV,aY,bH,bI,go_sem,hD,hY,hZ,gA,e2,c,vY];try exact cr)
 |(cases h;done))
 ·have e1:((a.length:Int) != (b.length:Int))=true:=by simp;omega
  have:(a==b)=false:=by
   rw[beq_eq_false_iff_ne];intro e;rw[e]at hl;exact hl rfl
  rw[this]at h
  subst h
  refine aG.go vq rfl fun B Q hB hQ=>?_
  have⟨hD,hY,hZ,gA⟩:=bX
  repeat' (first
 |simp only[go_sem,hD,hY,hZ,gA,e1]
 |(with_reducible first|refine bt fun hc=>?_|refine bu fun hc=>?_|refine bx (fun hc=>?_) fun hc=>?_)<;>(try simp only[hc,bs,↓reduceIte]at h)<;>try simp only[hc]
 |(with_reducible refine aF hQ ?_;(try cases h);simp only[aV,aY,bH,bI,go_sem,hD,hY,hZ,gA,e1];try exact cr)
 |(cases h;done))
structure Mc.Len (m:Mc):Prop where
 out:m.out.length<1000000000
 trace:m.trace.length<1000000000
 bM : ∀ e∈m.trace,e.2.length<1000000000
def ag1 (a b:Mc):Bool:=a.fin==b.fin && (a.steps==b.steps && (a.reads==b.reads && a.out==b.out))
def auF (a b:Mc):Bool:=ag1 a b && a.trace==b.trace
theorem FP:gj (ofM rC [] [5,2] 50).1 = [.int .i64 1, .int .i64 7, .int .i64 0, .slice .shared 1 ([5,5].map cq), .slice .shared 2 ([(2,[]),(5,[5])].map nV)]:=by kernel_rfl
theorem ag2:(ofM rC [] [5,2] 50).2=0:=by kernel_rfl
theorem Zu:Nat.ble (rC.size+1) 1000=true:=by kernel_rfl
theorem Sl (n:Int):lI (.ofInt .f64) (.int .i64 n) (.int .i64 n)=some (.val (.float .f64 (FloatKind.nearest .f64 n))):=nd rfl
theorem J8 (a b:Nat):lI .HO (.val (.float .f64 a)) (.val (.float .f64 b))=some (.val (.complex .f64 a b)):=nd rfl
theorem zI (a b:Nat) (d:D):lI .real (.val (.complex .f64 a b)) d=some (.val (.float .f64 a)):=nd rfl
theorem J9 (a b:Nat) (d:D):lI .imag (.val (.complex .f64 a b)) d=some (.val (.float .f64 b)):=nd rfl
theorem Xx:lI .eq (.val (.float .f64 (FloatKind.nearest .f64 7))) (.val (.float .f64 4619567317775286272))=some (.bool true):=by
 have:FloatKind.nearest .f64 7=4619567317775286272:=by decide +kernel
 rw[this]
 have h:(FloatKind.f64.format.order 4619567317775286272 4619567317775286272==some .eq)=true:=by decide +kernel
 show(if FloatKind.f64=FloatKind.f64 then some (D.bool (FloatKind.f64.format.order 4619567317775286272 4619567317775286272==some .eq))else none)=_
 rw[if_pos rfl,h]
theorem adA:rC.iR:=by
 have uW:rC.size<100000:=by have:=Nat.le_of_ble_eq_true Zu;omega
 exact⟨Rv (by decide +kernel) (by omega),by omega⟩
theorem adB (n k:Nat) (m:Mc):D.gh n k (gj m)=gj m:=gQ n k _ (Pl m)
theorem Zv (m:Mc):(gj m).length=5:=nd rfl
theorem Vp (m:Mc):List.take 5 (gj m)=gj m:=nd rfl
theorem ag3 (m:Mc):(gj m)[0]? = some (.int .i64 m.fin):=nd rfl
theorem ag4 (m:Mc):(gj m)[1]? = some (.int .i64 m.steps):=nd rfl
theorem ag5 (m:Mc):(gj m)[2]? = some (.int .i64 m.reads):=nd rfl
theorem ag6 (m:Mc):(gj m)[3]? = some (.slice .shared 1 (m.out.map cq)):=nd rfl
theorem ag7 (m:Mc):(gj m)[4]? = some (.slice .shared 2 (m.trace.map nV)):=nd rfl
attribute [go_sem] adB Zv Vp ag3 ag4 ag5 ag6 ag7
theorem FQ (m:Mc) (s:St):aG Tryz.prog oj [.agg (gj m)] s (.val (.complex .f64 (FloatKind.nearest .f64 m.steps) (FloatKind.nearest .f64 m.reads))) s:=by
 refine aG.pure ?_ (by simp[D.bL,D.ok,Pl]) rfl s
 unfold S0
 refine aG.go Hh rfl fun B Q hB hQ=>?_
 have⟨hD,hY,hZ,gA⟩:=bX
 repeat' (first
 |simp only[go_sem,hD,hY,hZ,gA,gj,Sl,J8]
 |(with_reducible first|refine bt fun hc=>?_|refine bu fun hc=>?_|refine bx (fun hc=>?_) fun hc=>?_)<;>(try simp only[hc,bs,↓reduceIte]at h)<;>try simp only[hc]
 |(with_reducible refine aF hQ ?_;(try cases h);simp only[aV,aY,bH,bI,go_sem,hD,hY,hZ,gA,gj,Sl,J8];try exact cr)
 |(cases h;done))
theorem ag8 (s:St):aG Tryz.prog w7 [] s (.bool true) s:=by
 refine aG.pure ?_ rfl rfl s
 have h1:=fun s=>ac3 s
 have h2:=fun s=>adw (T:= []) (W:= [5,2]) adA (by simp) (by simp) 50 s
 have h4:=fun s=>FQ (ofM rC [] [5,2] 50).1 s
 have m1:(ofM rC [] [5,2] 50).1.steps=7:=by have:=congrArg (fun l=>l[1]?) FP;simpa[gj]using this
 have m2:(ofM rC [] [5,2] 50).1.reads=0:=by have:=congrArg (fun l=>l[2]?) FP;simpa[gj]using this
 rw[m1,m2]at h4
 rw[FP]at h2 h4
 rw[ag2]at h2
 simp only[List.map_cons,List.map_nil,cq,nV]at h2 h4
 have h3:=fun g s=>J7 (a:= [5,5]) (b:= [5,5]) (by simp) g s
 have h5:=fun g s=>J7 (a:= [5]) (b:= [5]) (by simp) g s
 have e5:(([5,5] : List Int) == [5,5])=true:=rfl
 have e6:(([5] : List Int) == [5])=true:=rfl
 rw[e5]at h3
 rw[e6]at h5
 simp only[List.map_cons,List.map_nil,cq]at h3 h5
 have uj:=fun s=>bG.pK (.cons (Wk.refl _) (.cons (Wk.nil .full 0 1) (.cons (Wk.refl _) (.cons (Wk.shared .full _ _) .nil)))) (h2 s)
 have h2 : ∀ s,aG Tryz.prog rX [.agg (cB rC), .slice .full 0 [], .int .i64 50, .slice .full 1 [[.int .i64 5],[.int .i64 2]]] s _ s:=uj
 clear uj
 have z0 : ∀ x:Int,(x==x)=true:=fun x=>beq_self_eq_true x
 have z2:(((2:Nat):Int)==2)=true:=rfl
 unfold S0
 refine aG.go He rfl fun B Q hB hQ=>?_
 have⟨hD,hY,hZ,gA⟩:=bX
 repeat' (first
 |simp only[go_sem,hD,hY,hZ,gA,z0,z2,zI,Xx,Int.toNat_one,List.getElem?_cons_succ,List.getElem?_cons_zero]
 |(with_reducible refine CU (h1 _) ?_)
 |(with_reducible refine CU (h2 _) ?_)
 |(with_reducible refine CU (h3 _ _) ?_)
 |(with_reducible refine CU (h5 _ _) ?_)
 |(with_reducible refine CU (h4 _) ?_)
 |(with_reducible first|refine bt fun hc=>?_|refine bu fun hc=>?_|refine bx (fun hc=>?_) fun hc=>?_)<;>(try simp only[hc,bs,↓reduceIte]at h)<;>try simp only[hc]
 |(with_reducible refine aF hQ ?_;(try cases h);simp only[aV,aY,bH,bI,go_sem,hD,hY,hZ,gA,z0,z2,zI,Xx,Int.toNat_one,List.getElem?_cons_succ,List.getElem?_cons_zero];try exact cr)
 |(cases h;done))
theorem Zw {p:Pg} (hO:p.iR) (T:List Int) (fuel:Int) (s:St):aG Tryz.prog tJ [.agg (cB p), .slice .shared 1 (T.map cq), .int .i64 fuel] s (.bool (p.check.1==0 && (decide (0≤fuel) && (decide (fuel≤400) && decide ((T.length:Int)≤100))))) s:=by
 refine aG.pure ?_ (by simp[D.bL,D.ok,Tag.ok,ki,jt]) rfl s
 have h1:=fun s=>Si hO s
 have g1:decide (fuel≥0)=decide (0≤fuel):=rfl
 unfold S0
 rcases Bool.eq_false_or_eq_true (p.check.1==0)with b1|b1
 all_goals rcases Bool.eq_false_or_eq_true (decide (0≤fuel))with b2|b2
 all_goals rcases Bool.eq_false_or_eq_true (decide (fuel≤400))with b3|b3
 all_goals rcases Bool.eq_false_or_eq_true (decide ((T.length:Int)≤100))with b4|b4
 all_goals simp only[b1,b2,b3,b4,Bool.true_and,Bool.false_and]
 all_goals rw[b1]at h1
 all_goals rw[b2]at g1
 all_goals
  refine aG.go Ec rfl fun B Q hB hQ=>?_
  have⟨hD,hY,hZ,gA⟩:=bX
  repeat' (first
 |simp only[go_sem,hD,hY,hZ,gA,g1,b3,b4]
 |(with_reducible refine CU (h1 _) ?_)
 |(with_reducible first|refine bt fun hc=>?_|refine bu fun hc=>?_|refine bx (fun hc=>?_) fun hc=>?_)<;>(try simp only[hc,bs,↓reduceIte]at h)<;>try simp only[hc]
 |(with_reducible refine aF hQ ?_;(try cases h);simp only[aV,aY,bH,bI,go_sem,hD,hY,hZ,gA,g1,b3,b4];try exact cr)
 |(cases h;done))
def Pg.whole (p:Pg) (T:List Int) (fuel:Int):Mc:=(ofM p T (xm 0 p.all) fuel).1
end Go.Abs
namespace Go.Abs
def Reads (n:Nat) (m:Mc):Prop:=0≤m.reads∧m.reads≤(n:Int)∧(m.fin=3→m.reads=(n:Int))
def Sm.tells (s:Sm):Nat:=if s.kind==4 ||(decide (s.kind≥7) && !s.has)then 0 else 1
def L4 (m m':Mc):Prop:=m'.trace=m.trace∧m'.out=m.out∧m'.reads=m.reads
def L5 (T:List Int) (x:Sm) (m m':Mc):Prop:=∃ bM:List Int,m'.trace=m.trace++ [(x.id,bM)]∧m'.out=m.out++(if x.kind==3 then bM else [])∧bM.length=x.tells∧
 (if x.kind==2 then ∃ v,T[m.reads.toNat]? = some v∧bM = [v]∧m'.reads=m.reads+1 else m'.reads=m.reads)
def zJ (T:List Int) (x:Sm) (m m':Mc):Prop:=L4 m m'∨L5 T x m m'
theorem Zx {s:Sm} (h:s.one=true):1≤s.kind∧s.kind≤10∧(s.kind≠9→s.has=false):=by
 unfold Sm.one at h
 split at h
 ·cases h
 ·rename_i c
  simp only[Bool.or_eq_true,not_or,Bool.not_eq_true,Bool.and_eq_false_iff,decide_eq_false_iff_not,bne_eq_false_iff_eq]at c
  obtain⟨⟨⟨⟨⟨c1,c2⟩,_⟩,_⟩,_⟩,c3⟩:=c
  refine⟨by omega,by omega,fun hk=>?_⟩
  rcases c3 with c3|c3
  ·exact c3
  ·exact absurd c3 hk
theorem sj {T W:List Int} {x:Sm} {m m1:Mc} {bM:List Int} (hW:W.contains x.id=true) (e:m1.trace=m.trace) (eo:m1.out=m.out) (er:m1.reads=m.reads) (hv:bM.length=x.tells) (h3:(x.kind==3)=false) (h2:(x.kind==2)=false):L5 T x m (m1.event W x.id bM):=by
 have k:=eJ W m1 x.id bM
 refine⟨bM, ?_, ?_,hv, ?_⟩
 ·unfold Mc.event;rw[if_pos hW];dsimp only;rw[e]
 ·rw[h3];simp[k.2.2.2.2.2,eo]
 ·rw[h2];simp[k.2.2.2.2.1,er]
theorem Po {p:Pg} {T W:List Int} {m:Mc} {v:Sm} (hk:(v.kind==4)=true) (hW:W.contains v.id=true):zJ T v m (m.call p W v).2:=by
 have h1:=zF v.args m []
 have h2:=wN v.args m []
 unfold Mc.call
 generalize Mc.args v.args m [] = r at *
 obtain⟨o,m1⟩:=r
 dsimp only at h1 h2
 have k4:v.kind=4:=by simpa using hk
 cases o with
 |none=>exact .inl ⟨h1.2,h1.1,h2.1⟩
 | some l=>
  dsimp only
  by_cases c:m1.st.length > 100
  ·rw[if_pos c];exact .inl ⟨h1.2,h1.1,h2.1⟩
  ·rw [if_neg c]
   have e2:=wM p (m1.event W v.id []) (p.at v.proc) l v.id
   obtain⟨bM,g1,g2,g3,g4⟩:=sj (T:=T) (x:=v) (m:=m) (bM:= []) hW h1.2 h1.1 h2.1 (by unfold Sm.tells;rw[hk];rfl) (by rw[k4];rfl) (by rw[k4];rfl)
   exact .inr ⟨bM,e2.1.trans g1,e2.2.1.trans g2,g3,by rw[e2.2.2.1];exact g4⟩
theorem K7 {T W:List Int} {m:Mc} {v:Sm} (hk:(v.kind==9)=true) (hW:W.contains v.id=true):zJ T v m (m.e7 W v).2:=by
 have hw:=gw m v.x
 have k9:v.kind=9:=by simpa using hk
 have k4:(v.kind==4)=false:=by rw[k9];rfl
 have k7:decide (v.kind≥7)=true:=by simp[k9]
 unfold Mc.e7
 rcases Bool.eq_false_or_eq_true v.has with c|c
 ·rw [if_pos c]
  dsimp only
  split
  ·exact .inr (sj hW hw.2.2.2.2.2 hw.2.2.2.2.1 hw.2.2.2.1 (by unfold Sm.tells;rw[k4,k7,c];rfl) (by rw[k9];rfl) (by rw[k9];rfl))
  ·exact .inl ⟨hw.2.2.2.2.2,hw.2.2.2.2.1,hw.2.2.2.1⟩
 ·rw [if_neg (by rw [c];exact Bool.false_ne_true)]
  exact .inr (sj hW rfl rfl rfl (by unfold Sm.tells;rw[k4,k7,c];rfl) (by rw[k9];rfl) (by rw[k9];rfl))
theorem Vr {p:Pg} {L:List Im} {T W:List Int} {m:Mc} {it:Im} (h1:it.s.one=true) (k4:(it.s.kind==4)=false) (k9:(it.s.kind==9)=false) (hW:W.contains it.s.id=true):zJ T it.s m (m.do p L T W it).2:=by
 have hw:=gw m it.s.x
 obtain⟨o1,o2,o3⟩:=Zx h1
 have hh:=o3 (by simpa using k9)
 have late:(decide (it.s.kind≥7))=true→it.s.tells=0:=fun e=>by unfold Sm.tells;rw[k4,e,hh];rfl
 have anc:(decide (it.s.kind≥7))=false→it.s.tells=1:=fun e=>by unfold Sm.tells;rw[k4,e];rfl
 unfold Mc.do
 dsimp only
 by_cases c7:(it.s.kind==7)=true
 ·rw [if_pos c7]
  have e:it.s.kind=7:=by simpa using c7
  exact .inr (sj hW rfl rfl rfl (late (by simp[e])).symm (by rw[e];rfl) (by rw[e];rfl))
 rw[if_neg c7]
 by_cases c8:(it.s.kind==8)=true
 ·rw [if_pos c8]
  have e:it.s.kind=8:=by simpa using c8
  exact .inr (sj hW rfl rfl rfl (late (by simp[e])).symm (by rw[e];rfl) (by rw[e];rfl))
 rw[if_neg c8]
 by_cases yo:(it.s.kind==10)=true
 ·rw [if_pos yo]
  have e:it.s.kind=10:=by simpa using yo
  exact .inr (sj hW rfl rfl rfl (late (by simp[e])).symm (by rw[e];rfl) (by rw[e];rfl))
 rw[if_neg yo]
 have s7:decide (it.s.kind≥7)=false:=by
  simp only[beq_iff_eq]at c7 c8 yo
  simp only[beq_eq_false_iff_ne,ne_eq]at k9
  simp only[decide_eq_false_iff_not]
  omega
 have one:=anc s7
 by_cases c2:(it.s.kind==2)=true
 ·rw [if_pos c2]
  have e:it.s.kind=2:=by simpa using c2
  cases ht:T[m.reads.toNat]? with
  |none=>exact .inl ⟨rfl,rfl,rfl⟩
  |some n=>
   dsimp only
   have k:=eJ W (({m with reads:=m.reads+1} : Mc).set it.s.name n) it.s.id [n]
   refine .inr ⟨[n], ?_, ?_,by rw[one];rfl, ?_⟩
   ·unfold Mc.event;rw[if_pos hW];rfl
   ·rw[k.2.2.2.2.2,e];simp[Mc.set]
   ·rw[if_pos c2];exact⟨n,ht,rfl,k.2.2.2.2.1⟩
 rw[if_neg c2]
 have c2':(it.s.kind==2)=false:=by simpa using c2
 by_cases cw:(m.bg it.s.x).1.2=true
 ·rw [if_pos cw]
  have k:=eJ W (m.bg it.s.x).2 it.s.id [(m.bg it.s.x).1.1]
  have et:((m.bg it.s.x).2.event W it.s.id [(m.bg it.s.x).1.1]).trace=m.trace++ [(it.s.id,[(m.bg it.s.x).1.1])]:=by
   unfold Mc.event;rw[if_pos hW];dsimp only;rw[hw.2.2.2.2.2]
  by_cases c3:(it.s.kind==3)=true
  ·have e:it.s.kind=3:=by simpa using c3
   have n1 : ¬((it.s.kind==1)=true):=by rw[e];decide
   rw[if_neg n1,if_pos c3]
   refine .inr ⟨[(m.bg it.s.x).1.1],et, ?_,by rw[one];rfl, ?_⟩
   ·rw[if_pos c3];dsimp only;rw[k.2.2.2.2.2,hw.2.2.2.2.1]
   ·rw[if_neg c2];dsimp only;rw[k.2.2.2.2.1,hw.2.2.2.1]
  ·have key:L5 T it.s m ((m.bg it.s.x).2.event W it.s.id [(m.bg it.s.x).1.1]):=
    sj hW hw.2.2.2.2.2 hw.2.2.2.2.1 hw.2.2.2.1 (by rw[one];rfl) (by simpa using c3) c2'
   rw[if_neg c3]
   split
   ·exact .inr key
   split
   ·exact .inr key
   split
   ·exact .inr key
   ·exact .inr key
 ·rw [if_neg cw]
  exact .inl ⟨hw.2.2.2.2.2,hw.2.2.2.2.1,hw.2.2.2.1⟩
theorem Ka (L:List Im) (m:Mc) (g:Int):L4 m (m.back L g).2:=by
 have h:=zH L m g
 exact⟨h.1,h.2.1,h.2.2.1⟩
theorem zJ.Xy {T:List Int} {x:Sm} {m m1 m2:Mc} (h:zJ T x m m1) (k:L4 m1 m2):zJ T x m m2:=by
 rcases h with h|⟨v,h1,h2,h3,h4⟩
 ·exact .inl ⟨k.1.trans h.1,k.2.1.trans h.2.1,k.2.2.trans h.2.2⟩
 ·exact .inr ⟨v,k.1.trans h1,k.2.1.trans h2,h3,by rw[k.2.2];exact h4⟩
theorem Pq {p:Pg} {L:List Im} {T W:List Int} (hW : ∀ x∈L,W.contains x.s.id=true∧x.s.one=true) {fuel a:Int} {m:Mc} (ha:my L a) :
 L4 m (m.next p L T W fuel a).2∨∃ x∈L,L5 T x.s m (m.next p L T W fuel a).2:=by
 unfold Mc.next
 by_cases c1:(a == -1)=true
 ·rw[if_pos c1];exact .inl (Ka L m 0)
 rw[if_neg c1]
 by_cases c2:(m.steps==fuel)=true
 ·rw[if_pos c2];exact .inl ⟨rfl,rfl,rfl⟩
 rw[if_neg c2]
 have hm:=nT ha (by simpa using c1)
 obtain⟨w1,w2⟩:=hW _ hm
 dsimp only
 have fin : ∀ {m':Mc},zJ T (fc L a).s {m with steps:=m.steps+1} m'→L4 m m'∨∃ x∈L,L5 T x.s m m':=fun {m'} h=>by
  rcases h with h|h
  ·exact .inl h
  ·exact .inr ⟨_,hm,h⟩
 by_cases c4:((fc L a).s.kind==4)=true
 ·rw[if_pos c4];exact fin (Po c4 w1)
 rw[if_neg c4]
 by_cases c9:((fc L a).s.kind==9)=true
 ·rw [if_pos c9]
  have:=K7 (T:=T) (m:= {m with steps:=m.steps+1}) c9 w1
  split
  ·exact fin (this.Xy (Ka ..))
  ·exact fin this
 rw[if_neg c9]
 exact fin (Vr w2 (by simpa using c4) (by simpa using c9) w1)
def oe (f:Int→Sm) (k:Int):List (Int×List Int)→List Int
 | []=> []
 |e::l=>(if(f e.1).kind==k then e.2 else [])++oe f k l
theorem zK (f:Int→Sm) (k:Int) : ∀ a b,oe f k (a++b)=oe f k a++oe f k b
 | [],b=>rfl
 |e::a,b=>by simp only[List.cons_append,oe,zK f k a b,List.append_assoc]
structure uc (L:List Im) (f:Int→Sm) (T:List Int) (m:Mc):Prop where
 ev : ∀ e∈m.trace,∃ x∈L,x.s.id=e.1∧e.2.length=x.s.tells
 out:oe f 3 m.trace=m.out
 ins:oe f 2 m.trace=T.take m.reads.toNat
 reads:0≤m.reads∧m.reads≤(T.length:Int)
theorem uc.Xy {L:List Im} {f:Int→Sm} {T:List Int} {m m':Mc} (h:uc L f T m) (k:L4 m m'):uc L f T m':=by
 obtain⟨k1,k2,k3⟩:=k
 exact⟨by rw[k1];exact h.ev,by rw[k1,k2];exact h.out,by rw[k1,k3];exact h.ins,by rw[k3];exact h.reads⟩
theorem uc.tel {L:List Im} {f:Int→Sm} {T:List Int} {m m':Mc} {x:Im} (hx:x∈L) (hf:f x.s.id=x.s) (h:uc L f T m) (k:L5 T x.s m m'):uc L f T m':=by
 obtain⟨v,k1,k2,k3,k4⟩:=k
 refine⟨fun e me=>?_, ?_, ?_, ?_⟩
 ·rw [k1]at me
  rcases List.mem_append.1 me with me|me
  ·exact h.ev e me
  ·rw[List.mem_singleton.1 me];exact⟨x,hx,rfl,k3⟩
 ·rw[k1,k2,zK,h.out];simp[oe,hf]
 ·rw [k1,zK,h.ins]
  by_cases c:(x.s.kind==2)=true
  ·rw [if_pos c]at k4
   obtain⟨w,j1,j2,j3⟩:=k4
   have hr:=h.reads.1
   have e:m'.reads.toNat=m.reads.toNat+1:=by rw[j3];omega
   rw[e,List.take_add_one,j1,j2]
   simp[oe,hf,c]
  ·rw [if_neg c]at k4
   rw[k4]
   have c':(x.s.kind==2)=false:=by simpa using c
   simp[oe,hf,c']
 ·by_cases c:(x.s.kind==2)=true
  ·rw [if_pos c]at k4
   obtain⟨w,j1,j2,j3⟩:=k4
   have hr:=h.reads
   have:=(List.getElem?_eq_some_iff.1 j1).1
   omega
  ·rw [if_neg c]at k4
   rw[k4];exact h.reads
theorem L6 {p:Pg} {L:List Im} (hL:wK p L) {f:Int→Sm} (hf : ∀ x∈L,f x.s.id=x.s) {T W:List Int} (hW : ∀ x∈L,W.contains x.s.id=true∧x.s.one=true) {fuel:Int} : ∀ (N:Nat) (a:Int) (m m':Mc),my L a→nU L m→m.fin=0→(m.trace.length:Int)=m.steps→uc L f T m→
 Mc.go p L T W fuel N a m=some m'→uc L f T m'
 | 0,_,_,_,_,_,_,_,_,h=>by simp[Mc.go]at h
 | N+1,a,m,m',ha,hs,hfi,ht,hl,h=>by
  have hn:=Bw (fuel:=fuel) (tape:=T) hL (fun x mx=>(hW x mx).1) ha hs hfi ht
  have he:=Pq (p:=p) (T:=T) (W:=W) (fuel:=fuel) (m:=m) hW ha
  have lU:uc L f T (m.next p L T W fuel a).2:=by
   rcases he with he|⟨x,mx,he⟩
   ·exact hl.Xy he
   ·exact hl.tel mx (hf x mx) he
  simp only[Mc.go]at h
  cases e:m.next p L T W fuel a with
  | mk o m1=>
   rw[e]at h hn lU
   cases o with
   |none=>simp only[Option.some.injEq]at h;subst h;exact lU
   |some a1=>
    obtain⟨h1,h2,h3,h4⟩:=hn
    exact L6 hL hf hW N a1 m1 m' h1 h2 h3 h4 lU h
theorem Sn {p:Pg} (hL:wK p p.aT.L) {f:Int→Sm} (hf : ∀ x∈p.aT.L,f x.s.id=x.s) {T W:List Int} (hW : ∀ x∈p.aT.L,W.contains x.s.id=true∧x.s.one=true) {fuel:Int} {m:Mc} (h:runM p T W fuel=some m):uc p.aT.L f T m:=by
 obtain⟨h1,h2,h3,h4⟩:=Dw hL
 have ho:=wM p (jw p) (p.at iC) [] 0
 refine L6 hL hf hW _ _ _ _ h1 h2 h3 h4 ?_ h
 have h0:uc p.aT.L f T (jw p):=⟨fun e me=>by simp[jw]at me,rfl,rfl,by simp[jw]⟩
 exact h0.Xy ⟨ho.1,ho.2.1,ho.2.2.1⟩
def avl (fuel:Int) (m:Mc):Prop:=m.fin=2→m.steps=fuel
def Xz (W:List Int) (l:List (Int×List Int)):List (Int×List Int):=l.filter fun e=>W.contains e.1
def gf (W:List Int) (m:Mc):Mc:= {m with trace:=Xz W m.trace}
theorem nG {W V:List Int} {m:Mc} {id:Int} {bM:List Int} (hV:V.contains id=true):gf W (m.event V id bM)=(gf W m).event W id bM:=by
 unfold Mc.event
 rw[if_pos hV]
 unfold gf Xz
 dsimp only
 rw[List.filter_append]
 by_cases c:W.contains id=true
 ·rw[if_pos c,List.filter_cons_of_pos (by exact c)];rfl
 ·rw[if_neg c,List.filter_cons_of_neg (by exact c)];simp
theorem BG (W:List Int) (m:Mc) (x:Ex):(gf W m).bg x=((m.bg x).1,gf W (m.bg x).2):=by
 have e:x.bg (gf W m).top.names (gf W m).bM=x.bg m.top.names m.bM:=rfl
 unfold Mc.bg
 dsimp only
 rw[e]
 split<;>rfl
theorem DE (W:List Int) : ∀ (l:List Ar) (m:Mc) (out:List Nat),Mc.args l (gf W m) out=((Mc.args l m out).1,gf W (Mc.args l m out).2)
 | [],m,out=>rfl
 | a::l,m,out=>by
  simp only[Mc.args,BG]
  split
  ·exact DE W l m _
  ·split
   ·exact DE W l {(m.bg a.x).2 with mem:=(m.bg a.x).2.mem++ [(m.bg a.x).1.1]} _
   ·rfl
theorem Kb (W:List Int) (p:Pg) (m:Mc) (i:Int) (l:List Nat) (c:Int):(gf W m).open p i l c=((m.open p i l c).1,gf W (m.open p i l c).2):=by
 unfold Mc.open
 split<;>rfl
theorem Sp (W:List Int) (L:List Im) (m:Mc) (g:Int):(gf W m).close L g=((m.close L g).1,gf W (m.close L g).2):=by
 have e:(gf W m).top=m.top:=rfl
 unfold Mc.close
 dsimp only
 rw[e]
 split
 ·rfl
 ·split<;>rfl
theorem Sq {W V:List Int} (m:Mc) {s:Sm} (hV:V.contains s.id=true):(gf W m).e7 W s=((m.e7 V s).1,gf W (m.e7 V s).2):=by
 unfold Mc.e7
 simp only[BG]
 split
 ·split
  ·simp only[nG hV]
  ·rfl
 ·simp only[nG hV]
theorem Vs {W V:List Int} (p:Pg) (m:Mc) {s:Sm} (hV:V.contains s.id=true):(gf W m).call p W s=((m.call p V s).1,gf W (m.call p V s).2):=by
 unfold Mc.call
 rw[DE]
 generalize Mc.args s.args m [] = r
 obtain⟨o,m1⟩:=r
 cases o with
 |none=>rfl
 |some l=>
  have e:(gf W m1).st=m1.st:=rfl
  dsimp only
  rw[e]
  by_cases c:m1.st.length > 100
  ·rw[if_pos c,if_pos c];rfl
  ·rw[if_neg c,if_neg c, ← nG hV,Kb]
theorem adD {W V:List Int} (p:Pg) (L:List Im) (T:List Int) (m:Mc) {it:Im} (hV:V.contains it.s.id=true):(gf W m).do p L T W it=((m.do p L T V it).1,gf W (m.do p L T V it).2):=by
 have er:(gf W m).reads=m.reads:=rfl
 have hw:=BG W m it.s.x
 unfold Mc.do
 dsimp only
 rw[er,hw]
 generalize m.bg it.s.x=r
 by_cases c7:(it.s.kind==7)=true
 ·rw[if_pos c7,if_pos c7,nG hV]
 rw[if_neg c7,if_neg c7]
 by_cases c8:(it.s.kind==8)=true
 ·rw[if_pos c8,if_pos c8,nG hV]
 rw[if_neg c8,if_neg c8]
 by_cases yo:(it.s.kind==10)=true
 ·rw[if_pos yo,if_pos yo,nG hV]
 rw[if_neg yo,if_neg yo]
 by_cases c2:(it.s.kind==2)=true
 ·rw [if_pos c2,if_pos c2]
  cases T[m.reads.toNat]? with
  |none=>rfl
  |some n=>dsimp only;rw[nG hV];rfl
 rw[if_neg c2,if_neg c2]
 dsimp only
 rw[← nG hV]
 by_cases cw:r.1.2=true
 ·rw [if_pos cw,if_pos cw]
  by_cases d1:(it.s.kind==1)=true
  ·rw[if_pos d1,if_pos d1];rfl
  rw[if_neg d1,if_neg d1]
  by_cases d1:(it.s.kind==3)=true
  ·rw[if_pos d1,if_pos d1];rfl
  rw[if_neg d1,if_neg d1]
  by_cases d1:(it.s.kind==5)=true
  ·rw[if_pos d1,if_pos d1]
  rw[if_neg d1,if_neg d1]
  by_cases d1:(it.s.kind==6)=true
  ·rw[if_pos d1,if_pos d1]
  rw[if_neg d1,if_neg d1]
 ·rw[if_neg cw,if_neg cw]
theorem Vt {p:Pg} {L:List Im} {T W V:List Int} (hV : ∀ x∈L,V.contains x.s.id=true) {fuel a:Int} (m:Mc) (ha:my L a) :
 (gf W m).next p L T W fuel a=((m.next p L T V fuel a).1,gf W (m.next p L T V fuel a).2):=by
 have back : ∀ (m:Mc) (g:Int),(gf W m).back L g=((m.back L g).1,gf W (m.back L g).2):=fun m g=>by
  unfold Mc.back
  simp only[Sp]
  rfl
 have es:(gf W m).steps=m.steps:=rfl
 unfold Mc.next
 rw[es]
 by_cases c1:(a == -1)=true
 ·rw[if_pos c1,if_pos c1];exact back m 0
 rw[if_neg c1,if_neg c1]
 by_cases c2:(m.steps==fuel)=true
 ·rw[if_pos c2,if_pos c2];rfl
 rw[if_neg c2,if_neg c2]
 have hm:=hV _ (nT ha (by simpa using c1))
 have e1:({gf W m with steps:=m.steps+1} : Mc)=gf W {m with steps:=m.steps+1}:=rfl
 dsimp only
 rw[e1]
 by_cases c4:((fc L a).s.kind==4)=true
 ·rw[if_pos c4,if_pos c4,Vs p _ hm];rfl
 rw[if_neg c4,if_neg c4]
 by_cases c9:((fc L a).s.kind==9)=true
 ·rw [if_pos c9,if_pos c9,Sq _ hm]
  have ef : ∀ m:Mc,(gf W m).fin=m.fin:=fun _=>rfl
  dsimp only
  rw[ef]
  split
  ·exact back _ _
  ·rfl
 rw[if_neg c9,if_neg c9,adD p L T _ hm];rfl
theorem Sr {p:Pg} {L:List Im} (hL:wK p L) {T W V:List Int} (hV : ∀ x∈L,V.contains x.s.id=true) {fuel:Int} : ∀ (N:Nat) (a:Int) (m m':Mc),my L a→nU L m→m.fin=0→(m.trace.length:Int)=m.steps→
 Mc.go p L T V fuel N a m=some m'→Mc.go p L T W fuel N a (gf W m)=some (gf W m')
 | 0,_,_,_,_,_,_,_,h=>by simp[Mc.go]at h
 | N+1,a,m,m',ha,hs,hfi,ht,h=>by
  have hn:=Bw (fuel:=fuel) (tape:=T) hL hV ha hs hfi ht
  simp only[Mc.go]at h ⊢
  rw[Vt hV m ha]
  cases e:m.next p L T V fuel a with
  | mk o m1=>
   rw[e]at h hn
   cases o with
   |none=>simp only[Option.some.injEq]at h;subst h;rfl
   |some a1=>
    obtain⟨h1,h2,h3,h4⟩:=hn
    exact Sr hL hV N a1 m1 m' h1 h2 h3 h4 h
theorem Ps {p:Pg} (hL:wK p p.aT.L) {T V:List Int} (W:List Int) (hV : ∀ x∈p.aT.L,V.contains x.s.id=true) {fuel:Int} {m:Mc} (h:runM p T V fuel=some m):runM p T W fuel=some (gf W m):=by
 obtain⟨h1,h2,h3,h4⟩:=Dw hL
 have:=Sr (W:=W) hL hV _ _ _ _ h1 h2 h3 h4 h
 unfold runM
 dsimp only
 have e:gf W (jw p)=jw p:=rfl
 have e2:=Kb W p (jw p) (p.at iC) [] 0
 rw[e]at e2
 rw[e2]
 exact this
theorem Kc : ∀ l:List It,xm 0 l=l.map fun i=>i.s.id
 | []=>rfl
 |i::l=>by simp only[xm,List.map_cons,Kc l];rfl
theorem DF {p:Pg} (hb:p.may=true) : ∀ x∈p.aT.L,(xm 0 p.all).contains x.s.id=true∧x.s.one=true:=fun x mx=>by
 have h1:x.s∈p.pre:=by rw[← (kX p).1];exact List.mem_map_of_mem mx
 refine⟨?_,LQ hb _ h1⟩
 rw[Kc,List.contains_iff_mem]
 have e:p.all.map (fun i=>i.s.id)=(p.all.map It.s).map fun s=>s.id:=by rw[List.map_map];rfl
 rw[e,(zc hb).2]
 exact List.mem_map_of_mem h1
theorem Ss {p:Pg} (hb:p.may=true) {v:Sm} (hv:v∈p.pre):p.B6 v.id=v:=by
 obtain⟨h1,h2⟩:=U2 hb ⟨v,hv,rfl⟩
 obtain⟨i,hi⟩:=List.getElem?_of_mem hv
 obtain⟨j,hj⟩:=List.getElem?_of_mem h1
 have e1:=Bj hb hi
 have e2:=Bj hb hj
 have:i=j:=by omega
 subst this
 rw[hi]at hj
 exact(Option.some.inj hj).symm
theorem Pt {p:Pg} {T W:List Int} {fuel:Int} {m:Mc} (h0:0≤fuel) (h:runM p T W fuel=some m):m.steps≤fuel:=by
 have h1:=yl p (jw p) (p.at iC) [] 0
 have e2:(jw p).steps=0:=rfl
 exact JE p _ T W _ _ _ m (by rw[h1.2,e2];exact h0) h
theorem EV {f:Int→Sm} {k:Int} : ∀ {l:List (Int×List Int)},(∀ e∈l,e.2.length≤1)→(oe f k l).length≤l.length
 | [],_=>Nat.le_refl _
 |e::l,h=>by
  have h1:=EV (f:=f) (k:=k) fun e m=>h e (List.mem_cons_of_mem _ m)
  have h2:=h e (List.mem_cons_self ..)
  simp only[oe,List.length_append,List.length_cons]
  split<;>simp<;>omega
theorem Vu (s:Sm):s.tells≤1:=by unfold Sm.tells;split<;>omega
structure Run (p:Pg) (T:List Int) (fuel:Int) (m:Mc):Prop where
 run:runM p T (xm 0 p.all) fuel=some m
 of:ofM p T (xm 0 p.all) fuel=(m,0)
 whole:p.whole T fuel=m
 adF:uc p.aT.L p.B6 T m
 told:U0 m
 steps:m.steps≤fuel
 len:m.Len
 small:m.trace.length≤fuel.toNat∧m.out.length≤fuel.toNat∧∀ e∈m.trace,e.2.length≤1
theorem adG {p:Pg} (hc:(p.check.1==0)=true) {T:List Int} {fuel:Int} (h0:0≤fuel) (h1:fuel≤1000000) : ∃ m,Run p T fuel m:=by
 have hR:=Dy hc
 have hb:=hR.may
 obtain⟨m,hm⟩:=GU p T (xm 0 p.all) h0
 have wE:ofM p T (xm 0 p.all) fuel=(m,0):=by
  unfold ofM
  rw[if_neg,hm];rfl
  simp[hc];omega
 have hl:=G1 hR
 have hlg:=Sn (f:=p.B6) hl (fun x mx=>Ss hb (by rw[← (kX p).1];exact List.mem_map_of_mem mx)) (DF hb) hm
 have ht:=RP hl (fun x mx=>(DF hb x mx).1) hm
 have hs:=Pt h0 hm
 have hv : ∀ e∈m.trace,e.2.length≤1:=fun e me=>by
  obtain⟨x,_,_,h⟩:=hlg.ev e me
  rw[h];exact Vu _
 have ug:m.trace.length≤fuel.toNat:=by rcases ht with ⟨_,h⟩|⟨_,h⟩<;>omega
 have jh:m.out.length≤fuel.toNat:=by rw[← hlg.out];exact Nat.le_trans (EV hv) ug
 exact⟨m,hm,wE,by unfold Pg.whole;rw[wE],hlg,ht,hs,⟨by omega,by omega,fun e me=>by have:=hv e me;omega⟩,ug,jh,hv⟩
theorem Run.watch {p:Pg} (hc:(p.check.1==0)=true) {T:List Int} {fuel:Int} (h0:0≤fuel) (h1:fuel≤1000000) {m:Mc} (h:Run p T fuel m) (W:List Int):ofM p T W fuel=(gf W m,0):=by
 have hR:=Dy hc
 have:=Ps (G1 hR) W (fun x mx=>(DF hR.may x mx).1) h.run
 unfold ofM
 rw[if_neg,this];rfl
 simp[hc];omega
structure avm (fuel:Int) (r s:Mc):Prop where
 steps:r.steps=fuel
 trace:(r.trace.length:Int)=fuel
 more:r.steps≤s.steps
 reads:r.reads≤s.reads
 out:(decide ((r.out.length:Int)≤(s.out.length:Int)) && r.out==s.out.take r.out.length)=true
 told:fuel≤(s.trace.length:Int)∧s.trace.take fuel.toNat=r.trace
set_option maxRecDepth 8000
open Go.Proofs
theorem Vv {p:Pg} {T:List Int} {fuel:Int} (h:(p.check.1==0 && (decide (0≤fuel) && (decide (fuel≤400) && decide ((T.length:Int)≤100))))=true):(p.check.1==0)=true∧0≤fuel∧fuel≤400∧T.length≤100:=by
 simp only[Bool.and_eq_true,decide_eq_true_eq]at h
 exact⟨h.1,h.2.1,h.2.2.1,by omega⟩
abbrev nw (n:Int):Nat:=FloatKind.nearest .f64 n
theorem L7 : ∀ n:Nat,n≤400→lI (.toInt .i64) (.val (.float .f64 (nw n))) (.val (.float .f64 (nw n)))=some (.int .i64 n):=by
 have h : ∀ n:Nat,n<401→(match (FloatKind.decode .f64 (nw n)).toInt .zero with|some k=>decide (k=(n:Int))|none=>false)=true:=by decide +kernel
 intro n hn
 have:=h n (by omega)
 simp only[lI]
 cases e:(FloatKind.decode .f64 (nw n)).toInt .zero with
 |none=>rw[e]at this;cases this
 |some k=>
  rw[e]at this
  simp only[decide_eq_true_eq]at this
  subst this
  simp only[IntKind.min,IntKind.max,IntKind.bits,IntKind.signed]
  rw[if_pos (by simp;omega)]
theorem Kd : ∀ n:Nat,n≤400→∃ e,E1 .f64 (nw n) (nw n)=some e∧(FloatKind.f64.format.order e (nw ((2*n:Nat):Int))==some .eq)=true:=by
 have h : ∀ n:Nat,n<401→(match E1 .f64 (nw n) (nw n)with|some e=>FloatKind.f64.format.order e (nw ((2*n:Nat):Int))==some .eq|none=>false)=true:=by decide +kernel
 intro n hn
 have:=h n (by omega)
 cases e:E1 .f64 (nw n) (nw n)with
 |none=>rw[e]at this;cases this
 |some k=>rw[e]at this;exact⟨k,rfl,this⟩
theorem K8 {a b:Nat} (ha:a≤400) (hb:b≤400) : ∃ e f,lI .CQ (.val (.complex .f64 (nw a) (nw b))) (.val (.complex .f64 (nw a) (nw b)))=some (.val (.complex .f64 e f))∧
 lI .HP (.val (.complex .f64 e f)) (.val (.complex .f64 (nw ((2*a:Nat):Int)) (nw ((2*b:Nat):Int))))=some (.bool true):=by
 obtain⟨e,e1,e2⟩:=Kd a ha
 obtain⟨f,f1,f2⟩:=Kd b hb
 refine⟨e,f, ?_, ?_⟩
 ·simp only[lI,if_true,e1,f1]
 ·simp only[lI,if_true,e2,f2,Bool.and_self]
theorem Ke (p:Pg) (T:List Int) (fuel:Int) (s:St):aG Tryz.prog vf [.agg (cB p), .slice .shared 1 (T.map cq), .int .i64 fuel] s (.bool true) s:=by
 refine aG.pure ?_ (by simp[D.bL,D.ok,Tag.ok,ki,jt]) rfl s
 have h1:=fun s=>ag8 s
 have h2:=fun s=>acZ p s
 unfold S0
 rcases Bool.eq_false_or_eq_true (decide (p.B7≤20000))with hw|hw
 case inr=>
  simp only[hw]at h2
  refine aG.go o4 rfl fun B Q hB hQ=>?_
  have⟨hD,hY,hZ,gA⟩:=bX
  repeat' (first
 |simp only[go_sem,hD,hY,hZ,gA]
 |(with_reducible refine CU (h1 _) ?_)
 |(with_reducible refine CU (h2 _) ?_)
 |(with_reducible first|refine bt fun hc=>?_|refine bu fun hc=>?_|refine bx (fun hc=>?_) fun hc=>?_)<;>(try simp only[hc,bs,↓reduceIte]at h)<;>try simp only[hc]
 |(with_reducible refine aF hQ ?_;exact fX)
 |(cases h;done))
 simp only[hw]at h2
 obtain⟨dL,ag9⟩:=O0 (of_decide_eq_true hw)
 have ho:p.iR:=⟨ag9,by omega⟩
 have h3:=fun s=>Zw ho T fuel s
 rcases Bool.eq_false_or_eq_true (p.check.1==0 && (decide (0≤fuel) && (decide (fuel≤400) && decide ((T.length:Int)≤100))))with b1|b1
 case inr=>
  rw[b1]at h3
  refine aG.go o4 rfl fun B Q hB hQ=>?_
  have⟨hD,hY,hZ,gA⟩:=bX
  repeat' (first
 |simp only[go_sem,hD,hY,hZ,gA]
 |(with_reducible refine CU (h1 _) ?_)
 |(with_reducible refine CU (h2 _) ?_)
 |(with_reducible refine CU (h3 _) ?_)
 |(with_reducible first|refine bt fun hc=>?_|refine bu fun hc=>?_|refine bx (fun hc=>?_) fun hc=>?_)<;>(try simp only[hc,bs,↓reduceIte]at h)<;>try simp only[hc]
 |(with_reducible refine aF hQ ?_;exact fX)
 |(cases h;done))
 rw[b1]at h3
 obtain⟨hc,f0,f1,hT1⟩:=Vv b1
 obtain⟨m,hm⟩:=adG (T:=T) hc f0 (by omega)
 have z8:=fun s=>adw (T:=T) (W:= []) ho (by omega) (by simp) fuel s
 rw[hm.watch hc f0 (by omega) []]at z8
 have h4:=fun s=>bG.pK (.cons (Wk.refl _) (.cons (Wk.refl _) (.cons (Wk.refl _) (.cons (Wk.nil .full 0 1) .nil)))) (z8 s)
 have h4 : ∀ s,aG Tryz.prog rX [.agg (cB p), .slice .shared 1 (T.map cq), .int .i64 fuel, .slice .full 0 []] s _ s:=h4
 obtain⟨a,ha⟩ : ∃ a:Nat,m.steps=(a:Int):=⟨m.steps.toNat,by
  have:=hm.told
  rcases this with ⟨_,h⟩|⟨_,h⟩<;>omega⟩
 obtain⟨b,hb⟩ : ∃ b:Nat,m.reads=(b:Int):=⟨m.reads.toNat,by have:=hm.adF.reads.1;omega⟩
 have ha4:a≤400:=by have:=hm.steps;omega
 have hb4:b≤400:=by have:=hm.adF.reads.2;omega
 have h5:=fun s=>FQ (gf [] m) s
 have h6:=fun s=>bG.pK (.cons (d:= .agg [.int .i64 0, .int .i64 (2*(a:Int)), .int .i64 (2*(b:Int)), .slice .full 0 [], .slice .full 0 []]) (Wk.agg (.cons (Wk.refl _) (.cons (Wk.refl _) (.cons (Wk.refl _) (.cons (Wk.nil _ _ _) (.cons (Wk.nil _ _ _) .nil)))))) .nil) (FQ ⟨[],[],0,2*(a:Int),2*(b:Int),[],[]⟩ s)
 have h6 : ∀ s,aG Tryz.prog oj [.agg [.int .i64 0, .int .i64 (2*(a:Int)), .int .i64 (2*(b:Int)), .slice .full 0 [], .slice .full 0 []]] s (.val (.complex .f64 (nw (2*(a:Int))) (nw (2*(b:Int))))) s:=h6
 have es:(gf [] m).steps=(a:Int):=ha
 have er:(gf [] m).reads=(b:Int):=hb
 rw[es,er]at h5
 have w1:IntKind.wrap .i64 (2*(a:Int))=2*(a:Int):=dV (by omega) (by omega)
 have w2:IntKind.wrap .i64 (2*(b:Int))=2*(b:Int):=dV (by omega) (by omega)
 obtain⟨e,f,k1,k2⟩:=K8 ha4 hb4
 have k3:=L7 a ha4
 have k4:=L7 b hb4
 have z1 : ∀ x:Int,(x==x)=true:=fun x=>beq_self_eq_true x
 rw[show((2*a:Nat):Int)=2*(a:Int) by omega,show((2*b:Nat):Int)=2*(b:Int) by omega]at k2
 generalize hR:gf [] m=r at *
 refine aG.go o4 rfl fun B Q hB hQ=>?_
 have⟨hD,hY,hZ,gA⟩:=bX
 repeat' (first
 |simp only[go_sem,hD,hY,hZ,gA,w1,w2,es,er,k1,k2,k3,k4,z1,zI,J9]
 |(with_reducible refine CU (h1 _) ?_)
 |(with_reducible refine CU (h2 _) ?_)
 |(with_reducible refine CU (h3 _) ?_)
 |(with_reducible refine CU (h4 _) ?_)
 |(with_reducible refine CU (h5 _) ?_)
 |(with_reducible refine CU (h6 _) ?_)
 |(with_reducible first|refine bt fun hc=>?_|refine bu fun hc=>?_|refine bx (fun hc=>?_) fun hc=>?_)<;>(try simp only[hc,bs,↓reduceIte]at h)<;>try simp only[hc]
 |(with_reducible refine aF hQ ?_;(try cases h);simp only[aV,aY,bH,bI,go_sem,hD,hY,hZ,gA,w1,w2,es,er,k1,k2,k3,k4,z1,zI,J9];try exact cr)
 |(cases h;done))
def M0:Map:=⟨fun _ _=>none,fun _=>(0, .any),fun _=>none⟩
def Kept (w w':World):Prop:=w.keptBut w' (fun _=>False)∧∀ a:Addr,a.block<w.heap.size→w'.frozen? a=w.frozen? a
theorem Kept.frame {w w':World} (h:Kept w w') (may:MemPlace→Prop):w.keptBut w' may:=World.keptBut_mono (fun _ f=>f.elim) h.1
theorem Ext.adI {M M':Map} {s':St} {w w':World} (e:Ext M S0 w M' s' w'):Kept w w':=by
 have hh : ∀ b,b<w.heap.size→w'.heap[b]? = w.heap[b]? :=fun b hb=>
  e.kept b hb (fun o ho=>by simp[S0]at ho) (fun t c z hl=>by obtain⟨n,hn⟩:=hl;simp[S0]at hn)
 refine⟨⟨e.os,e.output,fun i hi=>?_⟩,fun a ha=>?_⟩
 ·rw [hh i hi]
  exact(World.keptBut_refl w (fun _=>False)).2.2 i hi
 ·simp only[World.frozen?,hh _ ha]
theorem ane (G:Nat→Nat→Option Value) (w:World) (h : ∀ b o v,G b o=some v→w.cell? ⟨b,o,none⟩=some v∧v.oneCell'=true):Rel ⟨G,fun _=>(0, .any),fun _=>none⟩ S0 w:=
 ⟨h,fun o ds e=>by simp [S0]at e,fun o ho=>by simp [S0]at ho,fun o o' ho=>by simp [S0]at ho,fun t n e=>by simp [S0]at e,
  fun t b c z o hl=>by obtain⟨n,hn⟩:=hl;simp[S0]at hn,fun t t' b c z c' z' hl=>by obtain⟨n,hn⟩:=hl;simp[S0]at hn⟩
def Pu (w:World):Prop:=∀ g cs,ZT g=some cs→∃ T fr,w.heap[g]? = some (.cells cs T fr)
theorem aha (G:Nat→Nat→Option Value) {w:World} (h:Pu w):Laid ⟨G,fun _=>(0, .any),fun _=>none⟩ S0 w:=
 fun g cs hg=>⟨h g cs hg,fun o ho=>by simp[S0]at ho,fun t c z hl=>by obtain⟨n,hn⟩:=hl;simp[S0]at hn⟩
theorem Sv {P:Program} {f:FuncId} {args:List D} {fC:Array Value} {w:World} {G:Nat→Nat→Option Value} (h:bG P f args S0 fun d _=>d = .bool true)
 (hG : ∀ b o v,G b o=some v→w.cell? ⟨b,o,none⟩=some v∧v.oneCell'=true) (hl:fC.size=args.length)
 (ha : ∀ (i:Nat) (d:D) (v:Value),args[i]? = some d→fC[i]? = some v→RD ⟨G,fun _=>(0, .any),fun _=>none⟩ S0 d v) (ko:Pu w) :
 Calls P f fC w fun e w'=>e = .returned (.bool true)∧Kept w w':=by
 refine(h _ w fC (ane G w hG) (aha G ko) hl ha).mono fun e w' hw=>?_
 obtain⟨M',d,v,s',rfl,rfl,he,_,hv⟩:=hw
 rw[hv.nK]
 exact⟨rfl,he.adI⟩
section
variable {P:Program} {H:Type} {enc:TypeId×Value→H}
theorem Kf {f:Func} {s:ChangeSpec} {apart fresh handsOn again:Bool} {W W':World} {args:Array Value} {v:Value} {ds gs:List (DataW H)} {before pa pv:List MemPlace}
 (hW:DataW.Whole enc P f.params.toList s.vars apart W args.toList ds gs before)
 (adJ : ∀ (b:Nat) (sp:Nat→Bool) (hd:Bool),DataW.TrodAll enc P W' b sp hd f.resultTypes.toList (v.resultList f.resultTypes.size) (s.fn H (ds++gs)).results [])
 (yK : ∀ sp:Nat→Bool,(∀ p∈before,sp p.block=true)→DataW.TrodAll enc P W' 0 sp true f.params.toList args.toList (s.fn H (ds++gs)).args pa)
 (zD : ∀ sp:Nat→Bool,(∀ p∈before,sp p.block=true)→DataW.TrodVars enc P W' sp s.vars (s.fn H (ds++gs)).vars pv)
 (rn:before=pa++pv) (hk:Kept W W')
 (pC : ∀ (j:Nat) (t:TypeId) (r:Value),f.resultTypes[j]? = some t→(v.resultList f.resultTypes.size)[j]? = some r→Value.okWide P W' .any 0 t r) :
 s.post enc P f apart fresh handsOn again W args v W':=by
 have hD : ∀ p∈before,p.block<W.heap.size:=fun p hp=>hW.lt p hp
 have hold : ∀ p∈before,(fun b=>decide (b<W.heap.size)) p.block=true:=fun p hp=>by simpa using hD p hp
 refine⟨ds,gs,before,[],pa,pv,hW,adJ _ _ _,yK _ hold,zD _ hold,World.keptBut_mono (fun p hp=>⟨hp, ?_⟩) (hk.frame (· ∈before)),fun _=>?_⟩
 ·rw [rn,List.mem_append]at hp
  exact Or.inr hp
 ·obtain⟨_,_,_,_,_,hz,hn⟩:=hW
  refine⟨pC,_,_,([]++pa)++pv,⟨[]++pa,pv,ChangeShapes.trodAll_append (yK _ (fun _ _=>rfl)) (adJ _ _ _),zD _ (fun _ _=>rfl),rfl, ?_, ?_⟩, ?_⟩
  ·intro b off hp
   have mK:MemPlace.cell b off∈before:=by rw[rn];simpa using hp
   rw[hk.2 _ (hD _ mK)]
   exact hz b off mK
  ·intro ha
   have:=hn ha
   rw[rn]at this
   simpa using this
  ·intro p hp _
   rw[rn]
   simpa using hp
end
end Go.Abs
namespace Go.Abs
open Go.RowKit Go.ChangeShapes Go.WideShapes
def BH (w:World) (b o:Nat):Option Value:=
 match w.cell? ⟨b,o,none⟩with
 |some v=>if v.oneCell'=true then some v else none
 |none=>none
theorem L8 {w:World} (b o:Nat) (v:Value) (h:BH w b o=some v):w.cell? ⟨b,o,none⟩=some v∧v.oneCell'=true:=by
 unfold BH at h
 split at h
 ·split at h
  ·cases h;exact⟨‹_›, ‹_›⟩
  ·cases h
 ·cases h
def sk (w:World):Map:=⟨BH w,fun _=>(0, .any),fun _=>none⟩
theorem Kept.sameAt {w w':World} (h:Kept w w') {p:MemPlace} (hp:p.block<w.heap.size):w.sameAt w' p:=by
 have hk:=h.1.2.2 p.block hp
 cases p with
 | cell b off=>
  simp only[MemPlace.block]at hk hp
  simp only[World.sameAt,World.cell?]
  split at hk
  ·rename_i c t fr c' t' LY e e'
   rw[e,e']
   simp only[hk.2.2.2 off (fun f=>f)]
  ·rename_i es clock AN adK e e'
   rw[e,e']
  ·rw[hk]
 | map b=>
  simp only[MemPlace.block]at hk hp
  simp only[World.sameAt]
  split at hk
  ·rename_i c t fr c' t' LY e e'
   rw[e,e']
   obtain⟨rfl,rfl,hs,hc⟩:=hk
   have:c'=c:=by
    apply Array.ext_getElem?
    intro i
    exact hc i (fun f=>f)
   rw[this]
  ·rename_i es clock AN adK e e'
   rcases hk with f|⟨rfl,rfl⟩
   ·exact f.elim
   ·rw[e,e']
  ·exact hk
section
variable {P:Program} {H:Type} {enc:TypeId×Value→H} {T:TypeId→Prop}
theorem EW (K:Kids P T) (hz : ∀ {t e:TypeId},T t→P.underlying t=some (.slice e)→0<P.cellsOf e) {W W':World} (hk:Kept W W') {sp:Nat→Bool} :
 ∀ {ts:List TypeId} {vs:List Value} {ds:List (DataW H)} {ps:List MemPlace},(∀ t∈ts,T t)→(∀ p∈ps,p.block<W.heap.size)→(∀ p∈ps,sp p.block=true)→
  DataW.TrodAll enc P W 0 (fun _=>true) true ts vs ds ps→DataW.TrodAll enc P W' 0 sp true ts vs ds ps
 | [],[],[],_,_,_,_,h=>h
 |t::ts,v::vs,d::ds,ps,hT,hD,hs,⟨p,q,⟨n,h1⟩,h2,e⟩=>by
  subst e
  refine⟨p,q,⟨n,DataW.trod_stays K hz (fun f=>by cases f) (hT t (List.mem_cons_self ..)) h1 (fun x hx=>hk.sameAt (hD x (List.mem_append_left _ hx))) (fun x hx=>hs x (List.mem_append_left _ hx))⟩, ?_,rfl⟩
  exact EW K hz hk (fun t ht=>hT t (List.mem_cons_of_mem _ ht)) (fun x hx=>hD x (List.mem_append_right _ hx)) (fun x hx=>hs x (List.mem_append_right _ hx)) h2
 | [],[],_::_,_,_,_,_,h=>h.elim
 | [],_::_,_,_,_,_,_,h=>h.elim
 |_::_,[],_,_,_,_,_,h=>h.elim
 |_::_,_::_,[],_,_,_,_,h=>h.elim
theorem Vw (K:Kids P T) (hz : ∀ {t e:TypeId},T t→P.underlying t=some (.slice e)→0<P.cellsOf e) {f:Func} {s:ChangeSpec} {apart fresh handsOn again:Bool} {tb:TypeId} {W W':World} {args:Array Value} {ds gs:List (DataW H)} {before:List MemPlace}
 (hT : ∀ t∈f.params.toList,T t) (hb:P.underlying tb=some .bool) (hr:f.resultTypes = #[tb]) (zD:s.vars = []) (hW:DataW.Whole enc P f.params.toList s.vars apart W args.toList ds gs before)
 (z7:s.fn H (ds++gs) = {results:= [.lit (.bool true)],args:=ds}) (hk:Kept W W'):s.post enc P f apart fresh handsOn again W args (.bool true) W':=by
 have hW':=hW
 have hD : ∀ p∈before,p.block<W.heap.size:=fun p hp=>hW.lt p hp
 obtain⟨p,q,hA,hV,rfl,hfz,R5⟩:=hW
 rw[zD]at hV
 obtain⟨rfl,rfl⟩:=trodVars_none hV
 simp only[List.append_nil]at hD z7
 refine Kf (pa:=p) (pv:= []) hW' (fun b sp hd=>?_) (fun sp CA=>?_) (fun sp CA=>?_) rfl hk (ok_one hr rfl (okWide_bool_mk hb _))
 ·rw [List.append_nil,z7,hr]
  exact trodAll_cons_mk (shut_bool hb _) trodAll_mk0
 ·rw [List.append_nil,z7]
  simp only[List.append_nil]at CA
  exact EW K hz hk hT hD CA hA
 ·rw [List.append_nil,z7,zD]
  rfl
theorem Zz {f:FuncId} {args:List D} {fC:Array Value} {w:World} (h:bG P f args S0 fun d _=>d = .bool true) (hl:fC.size=args.length)
 (ha : ∀ (i:Nat) (d:D) (v:Value),args[i]? = some d→fC[i]? = some v→RD (sk w) S0 d v) (ko:Pu w):Calls P f fC w fun e w'=>e = .returned (.bool true)∧Kept w w':=
 Sv (G:=BH w) h L8 hl ha ko
end
end Go.Abs
namespace Go.Abs
open Go.Proofs
def pf (n:Int):List D:= [.int .i64 n]
theorem ahb (n:Int):D.bL 0 0 (pf n)=true:=rfl
theorem adM (n m:Nat) (l:List Int):D.kn n m (l.map pf)=l.map pf:=lO ahb n m l
attribute [go_sem] pf adM
def ahc (op:Int):aE:=
 if op=5 then [42]else if op=6 then [47]else if op=7 then [37]else if op=8 then [43]else if op=9 then [45]else if op=10 then [60]else if op=11 then [60,61]
 else if op=12 then [62]else if op=13 then [62,61]else if op=14 then [61,61]else if op=15 then [33,61]else if op=16 then [38,38]else [124,124]
def auG (op:Int):Int:=(ace (ahc op)).1
def Sw:Nat→List aE
 | 0=> []
 |n+1=>Sw n++ [[UInt8.ofNat (97+n)]]
end Go.Abs
namespace Go.Abs
open Go.RowKit Go.ChangeShapes Go.WideShapes
theorem ZA {W:World} {a:Addr} {len cap:Nat} {zs:List Int} (hl:len≤cap) (hz:len≤zs.length) (hc : ∀ i,i<zs.length→W.cell? (a.add i)=some (.int .i64 (zs.getD i 0))) :
 RD (sk W) S0 (.slice .shared 1 ((zs.take len).map pf)) (.slice (some a) len cap):=by
 by_cases h0:len=0
 ·subst h0
  exact .lh _ _ _
 ·obtain⟨b,off,rfl,iy⟩:=Go.ints_at hc (by omega)
  have hlen:((zs.take len).map pf).length=len:=by simp;omega
  have e:((zs.take len).map pf).length=len:=hlen
  have key : ∀ (i:Nat) (row:List D) (j:Nat) (d:D),((zs.take len).map pf)[i]? = some row→row[j]? = some d→(sk W).G b (off+(i*1+j))=some (.int .i64 (zs.getD i 0))∧d = .int .i64 (zs.getD i 0):=by
   intro i row j d h1 h2
   rw[List.getElem?_map,Option.map_eq_some_iff]at h1
   obtain⟨n,h1,rfl⟩:=h1
   rw[List.getElem?_take]at h1
   split at h1
   ·rename_i hi
    have hd:zs.getD i 0=n:=by rw[List.getD_eq_getElem?_getD,h1];rfl
    have nD:i<zs.length:=(List.getElem?_eq_some_iff.1 h1).1
    cases j with
    |zero=>
     simp[pf]at h2
     subst h2
     refine⟨?_,by rw[hd]⟩
     have:=iy i nD
     show BH W b (off+(i*1+0))=_
     unfold BH
     rw[show off+(i*1+0)=off+i by omega,this]
     rfl
    |succ j=>simp[pf]at h2
   ·cases h1
  have:=RD.slice (M:=sk W) (s:=S0) .shared 1 ((zs.take len).map pf) b off cap (by omega) (fun row hr=>by obtain⟨n,_,rfl⟩:=List.mem_map.1 hr;rfl)
   (fun i row j d h1 h2=>⟨_,(key i row j d h1 h2).1⟩) (fun i row j d u h1 h2 hu=>by
    obtain⟨k1,k2⟩:=key i row j d h1 h2
    rw[k1]at hu
    cases hu
    rw[k2]
    exact .int _ _) trivial
  rw[hlen]at this
  exact this
end Go.Abs
namespace Go.Abs
open Go.RowKit Go.ChangeShapes Go.WideShapes
def ff (W:World) (ds:List D) (cs:List Value):Prop:=ds.length=cs.length∧(∀ (i:Nat) (d:D) (v:Value),ds[i]? = some d→cs[i]? = some v→RD (sk W) S0 d v)∧∀ v∈cs,v.oneCell'=true
theorem ff.one {W:World} {d:D} {v:Value} (h:RD (sk W) S0 d v) (hv:v.oneCell'=true):ff W [d] [v]:=by
 refine⟨rfl,fun i d' v' h1 h2=>?_,fun u hu=>by simp at hu;subst hu;exact hv⟩
 cases i with
 |zero=>simp at h1 h2;subst h1 h2;exact h
 |succ i=>simp at h1
theorem ff.app {W:World} {ds nA:List D} {cs jB:List Value} (h:ff W ds cs) (h':ff W nA jB):ff W (ds++nA) (cs++jB):=by
 obtain⟨a1,a2,a3⟩:=h
 obtain⟨b1,b2,b3⟩:=h'
 refine⟨by simp[a1,b1],fun i d v h1 h2=>?_,fun v hv=>?_⟩
 ·by_cases hi:i<ds.length
  ·rw [List.getElem?_append_left hi]at h1
   rw[List.getElem?_append_left (by omega)]at h2
   exact a2 i d v h1 h2
  ·rw [List.getElem?_append_right (by omega)]at h1
   rw[List.getElem?_append_right (by omega), ← a1]at h2
   exact b2 _ d v h1 h2
 ·rcases List.mem_append.1 hv with hv | hv
  ·exact a3 v hv
  ·exact b3 v hv
theorem ff.at {W:World} {ds nA:List D} {cs:List Value} {o n:Nat} (h:ff W ds ((cs.drop o).take n)) (h':ff W nA (cs.drop (o+n))):ff W (ds++nA) (cs.drop o):=by
 have e:cs.drop o=(cs.drop o).take n++cs.drop (o+n):=by rw[← List.drop_drop,List.take_append_drop]
 rw[e]
 exact h.app h'
theorem ff.end {W:World} {cs:List Value} {o:Nat} (h:cs.length=o):ff W [] (cs.drop o):=by
 rw[← h,List.drop_length]
 exact⟨rfl,fun i d v h=>by simp at h,fun v hv=>by cases hv⟩
section
variable {H:Type} {enc:TypeId×Value→H} {P:Program} {W:World} {sp:Nat→Bool}
def structOf (P:Program) (t:TypeId):List (TypeId×Nat):=
 match P.underlying t with
 |some (.struct fs)=>fs.toList.map fun f=>(f.type,f.offset)
 |_=> []
theorem lR {t:TypeId} {l:List (TypeId×Nat)} {fuel:Nat} {cs:List Value} {x:DataW H×List MemPlace} (h:structOf P t=l) (eA:l≠ []) (ht:DataW.trod enc P W 0 sp true fuel t cs=some x) :
 ∃ n,fuel=n+1∧cs.length=P.cellsOf t∧∀ (i:Nat) (f:TypeId×Nat),l[i]? = some f→∃ y,DataW.trod enc P W 0 sp true n f.1 ((cs.drop f.2).take (P.cellsOf f.1))=some y:=by
 unfold structOf at h
 split at h
 ·rename_i fs hu
  obtain⟨xs,n,e,_,hl,hlen,hf⟩:=DataW.trod_struct hu ht
  refine⟨n,e,hl,fun i f hi=>?_⟩
  subst h
  rw[List.getElem?_map,Option.map_eq_some_iff]at hi
  obtain⟨g,hg,rfl⟩:=hi
  have Cv:fs[i]? = some g:=by simpa using hg
  have hi:i<xs.length:=by rw[hlen];exact(Array.getElem?_eq_some_iff.1 Cv).1
  exact⟨xs[i],by rw[hf i g Cv,List.getElem?_eq_getElem hi]⟩
 ·exact absurd h.symm eA
theorem Hx {t:TypeId} {l:List (TypeId×Nat)} (h:structOf P t=l) (eA:l≠ []) : ∃ fs,P.underlying t=some (.struct fs):=by
 unfold structOf at h
 split at h
 ·exact⟨_, ‹_›⟩
 ·exact absurd h.symm eA
theorem CP {α:Type} {Q:Nat→α→Prop} : ∀ n,(∀ i,i<n→∃ y,Q i y)→∃ ys:List α,ys.length=n∧∀ i y,ys[i]? = some y→Q i y
 | 0,_=>⟨[],rfl,fun i y h=>by simp at h⟩
 | n+1,h=>by
  obtain⟨ys,h1,h2⟩:=CP n fun i hi=>h i (by omega)
  obtain⟨y,hy⟩:=h n (by omega)
  refine⟨ys++ [y],by simp[h1],fun i z hz=>?_⟩
  by_cases hi:i<ys.length
  ·rw[List.getElem?_append_left hi]at hz;exact h2 i z hz
  ·rw [List.getElem?_append_right (by omega)]at hz
   have:i - ys.length=0:=by
    rcases Nat.eq_zero_or_pos (i - ys.length)with h|h
    ·exact h
    ·rw[List.getElem?_eq_none (by simp only[List.length_cons,List.length_nil];omega)]at hz;cases hz
   rw[this]at hz
   simp at hz
   subst hz
   have:i=n:=by omega
   subst this
   exact hy
theorem pg {α:Type} (en:α→List D) (good:α→Prop) {z:Nat} {t e:TypeId} {fuel:Nat} {cs:List Value} {x:DataW H×List MemPlace} (ht:P.underlying t=some (.slice e)) (hz:P.cellsOf e=z) (Xu:0<z) (hen : ∀ y,(en y).length=z)
 (hel : ∀ n<fuel,∀ cs x,DataW.trod enc P W 0 sp true n e cs=some x→∃ y,ff W (en y) cs∧good y) (h:DataW.trod enc P W 0 sp true fuel t cs=some x) :
 ∃ ys:List α,ff W [.slice .shared z (ys.map en)] cs∧∀ y∈ys,good y:=by
 rcases DataW.trod_slice ht h with ⟨rfl,_⟩|⟨a,len,cap,elems,rest,n,hn,rfl,_,hb,hl,hm,hlen,iy,_,_⟩
 ·exact⟨[],ff.one (.iG _ _ _ rfl trivial) rfl,fun y hy=>by cases hy⟩
 ·by_cases h0:len=0
  ·subst h0
   exact⟨[],ff.one (.lh _ _ _) rfl,fun y hy=>by cases hy⟩
  ·obtain⟨ys,hys,yM⟩:=CP (Q:=fun i y=>good y∧∃ jB,W.cells? 0 (a.add (i*z)) z=some jB∧ff W (en y) jB) len fun i hi=>by
    have hc:=iy i hi
    rw[List.getElem?_eq_getElem (by omega),hz,Option.bind_eq_some_iff]at hc
    obtain⟨jB,h1,h2⟩:=hc
    obtain⟨y,h3,h4⟩:=hel n (by omega) _ _ h2
    exact⟨y,h4,jB,h1,h3⟩
   have cell : ∀ i y,ys[i]? = some y→∀ (j:Nat) d,(en y)[j]? = some d→∃ v,W.cell? ((a.add (i*z)).add j)=some v∧RD (sk W) S0 d v∧v.oneCell'=true:=by
    intro i y hy j d hd
    obtain⟨_,jB,h1,h2,h3,h4⟩:=yM i y hy
    obtain⟨_,k1,k2⟩:=World.cells?_some h1
    have hj:j<z:=by rw[← hen y];exact(List.getElem?_eq_some_iff.1 hd).1
    have hv:jB[j]? = some jB[j]:=List.getElem?_eq_getElem (by omega)
    exact⟨jB[j],by rw[k2 j hj,hv],h3 j d _ hd hv,h4 _ (List.getElem_mem _)⟩
   obtain⟨b,off,spot⟩:=a
   have ahd:spot=none:=by
    have hy:ys[0]? = some (ys[0]'(by omega)):=List.getElem?_eq_getElem (by omega)
    obtain⟨d,hd⟩ : ∃ d,(en (ys[0]'(by omega)))[0]? = some d:=⟨_,List.getElem?_eq_getElem (show 0<(en (ys[0]'(by omega))).length by rw[hen];exact Xu)⟩
    obtain⟨v,hv,_⟩:=cell 0 _ hy 0 _ hd
    have:=World.cell?_spot hv
    simpa[Addr.add]using this
   subst ahd
   have e:(ys.map en).length=len:=by simp[hys]
   have:=RD.slice (M:=sk W) (s:=S0) .shared z (ys.map en) b off cap (by omega) (fun row hr=>by obtain⟨y,_,rfl⟩:=List.mem_map.1 hr;exact hen y)
    (fun i row j d h1 h2=>by
     rw[List.getElem?_map,Option.map_eq_some_iff]at h1
     obtain⟨y,h1,rfl⟩:=h1
     obtain⟨v,hv,_,h4⟩:=cell i y h1 j d h2
     rw[add_plain,add_plain]at hv
     refine⟨v, ?_⟩
     show BH W b (off+(i*z+j))=_
     unfold BH
     rw[show off+(i*z+j)=off+i*z+j by omega,hv]
     simp[h4])
    (fun i row j d u h1 h2 hu=>by
     rw[List.getElem?_map,Option.map_eq_some_iff]at h1
     obtain⟨y,h1,rfl⟩:=h1
     obtain⟨v,hv,h3,h4⟩:=cell i y h1 j d h2
     rw[add_plain,add_plain]at hv
     obtain⟨hu,_⟩:=L8 _ _ _ hu
     rw[show off+(i*z+j)=off+i*z+j by omega,hv]at hu
     cases hu
     exact h3) trivial
   rw[e]at this
   refine⟨ys,ff.one this rfl,fun y hy=>?_⟩
   obtain⟨i,hi⟩:=List.getElem?_of_mem hy
   exact(yM i y hi).1
theorem EX {t:TypeId} {fuel:Nat} {cs:List Value} {x:DataW H×List MemPlace} (ht:P.underlying t=some (.int .i64)) (h:DataW.trod enc P W 0 sp true fuel t cs=some x) : ∃ n:Int,ff W [.int .i64 n] cs∧n≤9223372036854775807∧ -9223372036854775808≤n:=by
 obtain⟨n,rfl,_,hw⟩:=DataW.trod_int ht h
 simp[Lit.wf,IntKind.min,IntKind.max,IntKind.signed,IntKind.bits]at hw
 exact⟨n,ff.one (.int _ _) rfl,by omega,by omega⟩
theorem FT {t:TypeId} {fuel:Nat} {cs:List Value} {x:DataW H×List MemPlace} (ht:P.underlying t=some .bool) (h:DataW.trod enc P W 0 sp true fuel t cs=some x) : ∃ b:Bool,ff W [.bool b] cs:=by
 obtain⟨n,rfl,_⟩:=DataW.trod_bool ht h
 exact⟨n,ff.one (.bool _) rfl⟩
theorem vM {t:TypeId} {fuel:Nat} {cs:List Value} {x:DataW H×List MemPlace} (ht:P.underlying t=some .string) (h:DataW.trod enc P W 0 sp true fuel t cs=some x) : ∃ s:aE,ff W (encStr s) cs∧s.length≤maxLen:=by
 obtain⟨s,rfl,_,hm⟩:=DataW.trod_string ht h
 obtain⟨⟨l⟩⟩:=s
 exact⟨l,ff.one (.str l) rfl,hm⟩
theorem ahe {tE tI tN tS tK:TypeId} (hE:structOf P tE = [(tI,0),(tN,1),(tS,2),(tK,3)]) (hEc:P.cellsOf tE=4) (hI:P.underlying tI=some (.int .i64)) (hN:P.underlying tN=some (.int .i64)) (hS:P.underlying tS=some .string) (hK:P.underlying tK=some (.slice tE))
 (cI:P.cellsOf tI=1) (cN:P.cellsOf tN=1) (cS:P.cellsOf tS=1) (cK:P.cellsOf tK=1) :
 ∀ (fuel:Nat) (cs:List Value) (x:DataW H×List MemPlace),DataW.trod enc P W 0 sp true fuel tE cs=some x→∃ y:Ex,ff W (bY y) cs∧y.rp:=by
 intro fuel
 induction fuel using Nat.strongRecOn with
 | _ fuel ih=>
  intro cs x h
  obtain⟨n,rfl,hl,hf⟩:=lR hE (by simp) h
  obtain⟨y0,h0⟩:=hf 0 _ rfl
  obtain⟨y1,h1⟩:=hf 1 _ rfl
  obtain⟨y2,h2⟩:=hf 2 _ rfl
  obtain⟨y3,h3⟩:=hf 3 _ rfl
  dsimp only at h0 h1 h2 h3
  rw[cI]at h0
  rw[cN]at h1
  rw[cS]at h2
  rw[cK]at h3
  obtain⟨op,r0,_⟩:=EX hI h0
  obtain⟨m,r1,hm,_⟩:=EX hN h1
  obtain⟨s,r2,_⟩:=vM hS h2
  obtain⟨ks,r3,hg⟩:=pg (W:=W) bY Ex.rp hK hEc (by decide) V3 (fun k hk cs x hx=>ih k (by omega) cs x hx) h3
  refine⟨⟨op,m,s,ks⟩, ?_,hm, ?_⟩
  ·have:=r0.at (r1.at (r2.at (r3.at (ff.end (by rw [hl,hEc])))))
   rw[iT]
   simpa[encStr]using this
  ·clear r3
   induction ks with
   |nil=>exact trivial
   |cons k ks ihk=>exact⟨hg k (by simp),ihk fun y hy=>hg y (by simp[hy])⟩
theorem ff.agg {ds:List D} {v:Value} (h:ff W ds v.cells.toList) (hv : ∃ vs,v = .agg vs):RD (sk W) S0 (.agg ds) v:=by
 obtain⟨vs,rfl⟩:=hv
 obtain⟨h1,h2,h3⟩:=h
 have e:(Value.agg vs).cells=vs:=rfl
 rw[e]at h1 h2 h3
 refine .agg ds vs (by simpa using h1) (fun v hv=>h3 v (by simpa using hv)) fun i d v hd hv=>h2 i d v hd (by simpa using hv)
end
end Go.Abs
namespace Go.Abs
open Go.Proofs Go.RowKit Go.ChangeShapes Go.WideShapes
section
variable {H:Type} {enc:TypeId×Value→H} {W:World} {sp:Nat→Bool}
theorem Sx (fuel:Nat) (cs:List Value) (x:DataW H×List MemPlace) (h:DataW.trod enc Tryz.prog W 0 sp true fuel 50 cs=some x) : ∃ y:Ex,ff W (bY y) cs∧y.rp:=
 ahe (tE:=50) (tI:=3) (tN:=2) (tS:=9) (tK:=48) (by kernel_rfl) (by kernel_rfl) (by kernel_rfl) (by kernel_rfl) (by kernel_rfl) (by kernel_rfl) (by kernel_rfl) (by kernel_rfl) (by kernel_rfl) (by kernel_rfl) _ _ _ h
theorem ZB:Tryz.prog.underlying 22=some (.slice 9):=by kernel_rfl
theorem yr:Tryz.prog.underlying 9=some .string:=by kernel_rfl
theorem Sy:Tryz.prog.underlying 3=some (.int .i64):=by kernel_rfl
theorem FU:Tryz.prog.underlying 4=some .bool:=by kernel_rfl
theorem BI:Tryz.prog.cellsOf 9=1:=by kernel_rfl
theorem adQ:Tryz.prog.cellsOf 3=1:=by kernel_rfl
theorem FV:Tryz.prog.cellsOf 4=1:=by kernel_rfl
theorem FW:Tryz.prog.cellsOf 22=1:=by kernel_rfl
theorem XA:Tryz.prog.cellsOf 50=4:=by kernel_rfl
theorem zL {fuel:Nat} {cs:List Value} {x:DataW H×List MemPlace} (h:DataW.trod enc Tryz.prog W 0 sp true fuel 22 cs=some x) : ∃ l:List aE,ff W [.slice .shared 1 (l.map encStr)] cs:=by
 obtain⟨l,h,_⟩:=pg (W:=W) encStr (fun _=>True) ZB BI (by decide) (fun _=>rfl) (fun k hk cs x hx=>by
  obtain⟨s,hs,_⟩:=vM yr hx
  exact⟨s,hs,trivial⟩) h
 exact⟨l,h⟩
theorem adR {fuel:Nat} {cs:List Value} {x:DataW H×List MemPlace} (h:DataW.trod enc Tryz.prog W 0 sp true fuel 73 cs=some x) : ∃ y:Pm,ff W (iB y) cs:=by
 obtain⟨n,rfl,hl,hf⟩:=lR (l:= [(9,0),(4,1)]) (by kernel_rfl) (by simp) h
 have hc:Tryz.prog.cellsOf 73=2:=by kernel_rfl
 obtain⟨y0,h0⟩:=hf 0 _ rfl
 obtain⟨y1,h1⟩:=hf 1 _ rfl
 dsimp only at h0 h1
 rw[BI]at h0
 rw[FV]at h1
 obtain⟨s,r0,_⟩:=vM yr h0
 obtain⟨b,r1⟩:=FT FU h1
 refine⟨⟨s,b⟩, ?_⟩
 have:=r0.at (r1.at (ff.end (by rw[hl,hc])))
 simpa[encStr,iB]using this
theorem adS {fuel:Nat} {cs:List Value} {x:DataW H×List MemPlace} (h:DataW.trod enc Tryz.prog W 0 sp true fuel 123 cs=some x) : ∃ y:Ar,ff W (ek y) cs∧y.x.rp:=by
 obtain⟨n,rfl,hl,hf⟩:=lR (l:= [(4,0),(9,1),(50,2)]) (by kernel_rfl) (by simp) h
 have hc:Tryz.prog.cellsOf 123=6:=by kernel_rfl
 obtain⟨y0,h0⟩:=hf 0 _ rfl
 obtain⟨y1,h1⟩:=hf 1 _ rfl
 obtain⟨y2,h2⟩:=hf 2 _ rfl
 dsimp only at h0 h1 h2
 rw[FV]at h0
 rw[BI]at h1
 rw[XA]at h2
 obtain⟨b,r0⟩:=FT FU h0
 obtain⟨s,r1,_⟩:=vM yr h1
 obtain⟨e,r2,hr⟩:=Sx _ _ _ h2
 refine⟨⟨b,s,e⟩, ?_,hr⟩
 have:=r0.at (r1.at (r2.at (ff.end (by rw[hl,hc]))))
 rw[iT]at this
 simpa[encStr,ek]using this
theorem zM : ∀ {l:List Sm},(∀ s∈l,s.rp)→Sm.xh l
 | [],_=>trivial
 |s::l,h=>⟨h s (List.mem_cons_self ..),zM fun t m=>h t (List.mem_cons_of_mem _ m)⟩
theorem adT : ∀ (fuel:Nat) (cs:List Value) (x:DataW H×List MemPlace),DataW.trod enc Tryz.prog W 0 sp true fuel 54 cs=some x→∃ y:Sm,ff W (bm y) cs∧y.rp:=by
 intro fuel
 induction fuel using Nat.strongRecOn with
 |_ fuel ih=>
  intro cs x h
  obtain⟨n,rfl,hl,hf⟩:=lR (l:= [(3,0),(3,1),(22,2),(9,3),(9,4),(50,5),(4,9),(51,10),(52,11),(52,12)]) (by kernel_rfl) (by simp) h
  have hc:Tryz.prog.cellsOf 54=13:=by kernel_rfl
  have ca:Tryz.prog.cellsOf 51=1:=by kernel_rfl
  have jB:Tryz.prog.cellsOf 52=1:=by kernel_rfl
  have ua:Tryz.prog.underlying 51=some (.slice 123):=by kernel_rfl
  have us:Tryz.prog.underlying 52=some (.slice 54):=by kernel_rfl
  have ca6:Tryz.prog.cellsOf 123=6:=by kernel_rfl
  obtain⟨y0,h0⟩:=hf 0 _ rfl
  obtain⟨y1,h1⟩:=hf 1 _ rfl
  obtain⟨y2,h2⟩:=hf 2 _ rfl
  obtain⟨y3,h3⟩:=hf 3 _ rfl
  obtain⟨y4,h4⟩:=hf 4 _ rfl
  obtain⟨y5,h5⟩:=hf 5 _ rfl
  obtain⟨y6,h6⟩:=hf 6 _ rfl
  obtain⟨y7,h7⟩:=hf 7 _ rfl
  obtain⟨y8,h8⟩:=hf 8 _ rfl
  obtain⟨y9,h9⟩:=hf 9 _ rfl
  dsimp only at h0 h1 h2 h3 h4 h5 h6 h7 h8 h9
  rw[adQ]at h0 h1
  rw[FW]at h2
  rw[BI]at h3 h4
  rw[XA]at h5
  rw[FV]at h6
  rw[ca]at h7
  rw[jB]at h8 h9
  obtain⟨id,r0,_⟩:=EX Sy h0
  obtain⟨kind,r1,_⟩:=EX Sy h1
  obtain⟨labels,r2⟩:=zL h2
  obtain⟨name,r3,_⟩:=vM yr h3
  obtain⟨proc,r4,_⟩:=vM yr h4
  obtain⟨e,r5,hr⟩:=Sx _ _ _ h5
  obtain⟨b,r6⟩:=FT FU h6
  obtain⟨args,r7,ha⟩:=pg (W:=W) ek (fun a=>a.x.rp) ua ca6 (by decide) (fun _=>rfl) (fun k hk cs x hx=>adS hx) h7
  obtain⟨a7,r8,ht⟩:=pg (W:=W) bm Sm.rp us hc (by decide) HD (fun k hk cs x hx=>ih k (by omega) cs x hx) h8
  obtain⟨aX,r9,he⟩:=pg (W:=W) bm Sm.rp us hc (by decide) HD (fun k hk cs x hx=>ih k (by omega) cs x hx) h9
  refine⟨⟨id,kind,labels,name,proc,e,b,args,a7,aX⟩, ?_,hr,ha,zM ht,zM he⟩
  have:=r0.at (r1.at (r2.at (r3.at (r4.at (r5.at (r6.at (r7.at (r8.at (r9.at (ff.end (by rw[hl,hc])))))))))))
  rw[iT]at this
  rw[eR]
  simpa[encStr]using this
theorem adU {fuel:Nat} {cs:List Value} {x:DataW H×List MemPlace} (h:DataW.trod enc Tryz.prog W 0 sp true fuel 70 cs=some x) : ∃ y:Pc,ff W (cf y) cs∧Sm.xh y.body:=by
 obtain⟨n,rfl,hl,hf⟩:=lR (l:= [(9,0),(68,1),(22,2),(52,3),(22,4)]) (by kernel_rfl) (by simp) h
 have hc:Tryz.prog.cellsOf 70=5:=by kernel_rfl
 have cp:Tryz.prog.cellsOf 68=1:=by kernel_rfl
 have jB:Tryz.prog.cellsOf 52=1:=by kernel_rfl
 have up:Tryz.prog.underlying 68=some (.slice 73):=by kernel_rfl
 have us:Tryz.prog.underlying 52=some (.slice 54):=by kernel_rfl
 have cp2:Tryz.prog.cellsOf 73=2:=by kernel_rfl
 have ang:Tryz.prog.cellsOf 54=13:=by kernel_rfl
 obtain⟨y0,h0⟩:=hf 0 _ rfl
 obtain⟨y1,h1⟩:=hf 1 _ rfl
 obtain⟨y2,h2⟩:=hf 2 _ rfl
 obtain⟨y3,h3⟩:=hf 3 _ rfl
 obtain⟨y4,h4⟩:=hf 4 _ rfl
 dsimp only at h0 h1 h2 h3 h4
 rw[BI]at h0
 rw[cp]at h1
 rw[FW]at h2 h4
 rw[jB]at h3
 obtain⟨name,r0,_⟩:=vM yr h0
 obtain⟨ps,r1,_⟩:=pg (W:=W) iB (fun _=>True) up cp2 (by decide) (fun _=>rfl) (fun k hk cs x hx=>by
  obtain⟨y,hy⟩:=adR hx
  exact⟨y,hy,trivial⟩) h1
 obtain⟨vars,r2⟩:=zL h2
 obtain⟨body,r3,hb⟩:=pg (W:=W) bm Sm.rp us ang (by decide) HD (fun k hk cs x hx=>adT k cs x hx) h3
 obtain⟨fin,r4⟩:=zL h4
 refine⟨⟨name,ps,vars,body,fin⟩, ?_,zM hb⟩
 have:=r0.at (r1.at (r2.at (r3.at (r4.at (ff.end (by rw[hl,hc]))))))
 simpa[encStr,cf]using this
theorem adV {fuel:Nat} {cs:List Value} {x:DataW H×List MemPlace} (h:DataW.trod enc Tryz.prog W 0 sp true fuel 25 cs=some x) : ∃ y:Pg,ff W (cB y) cs∧y.rp:=by
 obtain⟨n,rfl,hl,hf⟩:=lR (l:= [(22,0),(23,1)]) (by kernel_rfl) (by simp) h
 have hc:Tryz.prog.cellsOf 25=2:=by kernel_rfl
 have cp:Tryz.prog.cellsOf 23=1:=by kernel_rfl
 have up:Tryz.prog.underlying 23=some (.slice 70):=by kernel_rfl
 have cp5:Tryz.prog.cellsOf 70=5:=by kernel_rfl
 obtain⟨y0,h0⟩:=hf 0 _ rfl
 obtain⟨y1,h1⟩:=hf 1 _ rfl
 dsimp only at h0 h1
 rw[FW]at h0
 rw[cp]at h1
 obtain⟨globals,r0⟩:=zL h0
 obtain⟨procs,r1,hp⟩:=pg (W:=W) cf (fun f=>Sm.xh f.body) up cp5 (by decide) (fun _=>rfl) (fun k hk cs x hx=>adU hx) h1
 refine⟨⟨globals,procs⟩, ?_,hp⟩
 have:=r0.at (r1.at (ff.end (by rw[hl,hc])))
 simpa[cB]using this
end
end Go.Abs
namespace Go.Abs
open Go.Proofs Go.ChangeShapes Go.WideShapes Go.ChangeAt Go.RowKit
theorem BJ {H:Type} {enc:TypeId×Value→H} {P:Program} {W:World} {sp:Nat→Bool} {t:TypeId} {ts:List TypeId} {ps:List MemPlace} : ∀ {l:List Value} {ds:List (DataW H)},DataW.TrodAll enc P W 0 sp true (t::ts) l ds ps→
 ∃ v l' d nA p q,l=v::l'∧ds=d::nA∧DataW.Trod enc P W 0 sp true t v d p∧DataW.TrodAll enc P W 0 sp true ts l' nA q
 |v::l,d::ds,⟨p,q,h1,h2,e⟩=>⟨v,l,d,ds,p,q,rfl,rfl,h1,h2⟩
 | [],[],h=>h.elim
 | [],_::_,h=>h.elim
 |_::_,[],h=>h.elim
theorem Vx {H:Type} {enc:TypeId×Value→H} {P:Program} {W:World} {sp:Nat→Bool} {ps:List MemPlace} : ∀ {l:List Value} {ds:List (DataW H)},DataW.TrodAll enc P W 0 sp true [] l ds ps→l = []∧ds = []
 | [],[],_=>⟨rfl,rfl⟩
 | [],_::_,h=>h.elim
 |_::_,ds,h=>by cases ds<;>exact h.elim
end Go.Abs
