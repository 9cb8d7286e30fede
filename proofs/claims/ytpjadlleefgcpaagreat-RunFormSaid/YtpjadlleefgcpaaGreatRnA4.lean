/-
  What is proved here: the statement RunFormSaid: whatever the arguments, the law, called, gives true, and of what was there nothing turns.
  No conditions.
-/
import Derived.Test.YtpjadlleefgcpaaGreatRnA3
import Derived.RowKit3
import Derived.WalkKit
import Derived.ProofKit
import Derived.OpenShut
import Derived.ShutString
import Derived.ChangeMaps5
import Derived.ChangeStays
import Derived.KernelRfl
import Derived.Test.YtpjadlleefgcpaaGreatRows

set_option linter.unusedSimpArgs false
set_option linter.unusedVariables false
namespace Go.Abs
set_option maxRecDepth 8000
open Go.Proofs
section
variable {p:Pg} {T W:List Int} {y:Lay} {m:Mc} {loc:List (Nat×List D)} {s:St}
theorem gk.setAt : ∀ {l:List (List D)} {i:Nat} {r r':List D},l[i]? = some r→iZ r r'→gk l (l.set i r')
 |a::l,0,r,r',h,w=>by simp at h;subst h;exact .cons w (gk.refl l)
 |a::l,i+1,r,r',h,w=> .cons (iZ.refl a) (gk.setAt (l:=l) (by simpa using h) w)
def Lay.push (y:Lay) (n K:Nat) (sd:D):Lay:= {y with κ:=y.κ++(List.range K).map (n+2 + ·),φ:=(n+1)::y.φ,sd:=sd}
theorem T4 {κ:List Nat} {n K j:Nat} (hj:j<K):(κ++(List.range K).map (n+2 + ·)).getD (κ.length+j) 0=n+2+j:=by
 rw[List.getD_eq_getElem?_getD,List.getElem?_append_right (by omega),show κ.length+j - κ.length=j by omega]
 simp[hj]
theorem C3 {κ e:List Nat} {c:Nat} (hc:c<κ.length):(κ++e).getD c 0=κ.getD c 0:=by
 rw[List.getD_eq_getElem?_getD,List.getD_eq_getElem?_getD,List.getElem?_append_left hc]
theorem NW {κ:List Nat} {n:Nat} (h:n≤κ.length):(List.range n).map (fun c=>κ.getD c 0)=κ.take n:=by
 apply List.ext_getElem?
 intro i
 simp only[List.getElem?_map]
 by_cases hi:i<n
 ·rw [List.getElem?_range hi,List.getElem?_take_of_lt hi,List.getElem?_eq_getElem (show i<κ.length by omega)]
  simp[List.getD_eq_getElem?_getD,List.getElem?_eq_getElem (show i<κ.length by omega)]
 ·rw[List.getElem?_eq_none (by simp;omega),List.getElem?_eq_none (by simp;omega)];rfl
theorem Inv.push (h:Inv p T W y m loc s) {K:Nat} {sd:D} {fr:Fr} {s':St} (hg:p.globals.length≤m.mem.length) (hfv : ∀ c∈fr.vars,c<m.mem.length+K)
 (k : ∀ (o:Nat) (r:List D),s.ah[o]? = some r→o≠0→o∉y.sd.arr→s'.ah[o]? = some r)
 (k0:s'.ah[0]? = some (ff p T W (y.push s.ah.length K sd) m)) (kc : ∀ j,j<K→s'.ah[s.ah.length+2+j]? = some [.int .i64 0])
 (kf:s'.ah[s.ah.length+1]? = some (oP (y.push s.ah.length K sd).κ fr)) (ks:jl s' sd ((y.push s.ah.length K sd).φ.reverse.map wO)) (rl:sd.arr=y.sd.arr∨sd.arr = [s.ah.length+2+K])
 (t0:s'.av[0]? = s.av[0]?) (t1:s'.av[1]? = s.av[1]?) :
 Inv p T W (y.push s.ah.length K sd) {m with st:=fr::m.st,mem:=m.mem++List.replicate K 0} loc s':=by
 have zj:=h.own
 rw[Lay.own,List.nodup_cons,List.nodup_append,List.nodup_append]at zj
 obtain⟨n0,nκ,⟨ns,nv,Wd⟩,Jc⟩:=zj
 have lt:=h.sU
 have ltκ : ∀ c∈y.κ,c<s.ah.length:=fun c mc=>lt c (by simp[Lay.own,mc])
 have lts : ∀ c∈y.sd.arr,c<s.ah.length:=fun c mc=>lt c (by simp[Lay.own,mc])
 have ltv : ∀ c∈y.vd.arr,c<s.ah.length:=fun c mc=>lt c (by simp[Lay.own,mc])
 have tR:=h.tR
 have Jd : ∀ o,o∈(y.push s.ah.length K sd).own→o∈y.own∨(s.ah.length+2≤o∧o≤s.ah.length+2+K):=fun o mo=>by
  simp only[Lay.own,Lay.push,List.mem_cons,List.mem_append,List.mem_map,List.mem_range]at mo ⊢
  rcases mo with rfl|(mo|⟨j,hj,rfl⟩)|mo|mo
  ·exact .inl (.inl rfl)
  ·exact .inl (.inr (.inl mo))
  ·exact .inr ⟨by omega,by omega⟩
  ·rcases rl with e | e
   ·rw[e]at mo;exact .inl (.inr (.inr (.inl mo)))
   ·rw[e]at mo;have:=List.mem_singleton.1 mo;exact .inr ⟨by omega,by omega⟩
  ·exact .inl (.inr (.inr (.inr mo)))
 have g : ∀ {o:Nat} {r:List D},s.ah[o]? = some r→o∉y.own→s'.ah[o]? = some r∧o∉(y.push s.ah.length K sd).own:=fun {o r} e hn=>by
  refine⟨k o r e (fun e0=>hn (by rw[e0];simp[Lay.own])) (fun ms=>hn (by simp[Lay.own,ms])),fun mo=>?_⟩
  rcases Jd o mo with mo|mo
  ·exact hn mo
  ·have:=fN e;omega
 have hlen:=h.len
 refine⟨k0,by rw[t0];exact h.t0,by rw[t1];exact h.t1,by simp[Lay.push,hlen],fun i c v e1 e2=>?_,by simp[Lay.push,h.rP],fun i o KZ e1 e2=>?_,ks, ?_, ?_,fun q mq=>g (h.loc q mq).1 (h.loc q mq).2⟩
 ·simp only [Lay.push]at e1
  dsimp only at e2
  rcases Nat.lt_or_ge i y.κ.length with hi|hi
  ·rw [List.getElem?_append_left hi]at e1
   rw[List.getElem?_append_left (by omega)]at e2
   have hc:=List.mem_of_getElem? e1
   exact k c _ (h.cell i c v e1 e2) (h.vb (by simp[hc])) (fun ms=>Jc c hc c (List.mem_append_left _ ms) rfl)
  ·rw [List.getElem?_append_right hi]at e1
   rw[List.getElem?_append_right (by omega)]at e2
   have hD:=(List.getElem?_eq_some_iff.1 e1).1
   simp only[List.length_map,List.length_range]at hD
   rw[List.getElem?_map,List.getElem?_range hD]at e1
   rw[List.getElem?_replicate_of_lt (by omega)]at e2
   simp only[Option.map_some,Option.some.injEq]at e1 e2
   subst e1 e2
   exact kc _ hD
 ·cases i with
  |zero=>
   simp only[Lay.push,List.getElem?_cons_zero,Option.some.injEq]at e1 e2
   subst e1 e2
   refine⟨kf,fun mo=>?_,fun c mc=>by simp only[List.length_append,List.length_replicate];exact hfv c mc⟩
   rcases Jd _ mo with mo|mo
   ·have:=lt _ mo;omega
   ·omega
  |succ i=>
   simp only[Lay.push,List.getElem?_cons_succ]at e1 e2
   obtain⟨f1,f2,f3⟩:=h.frame i o KZ e1 e2
   obtain⟨f4,f5⟩:=g f1 f2
   exact⟨by simp only[Lay.push];rw[F8 (by rw[hlen];exact f3)];exact f4,f5,fun c mc=>by have:=f3 c mc;simp only[List.length_append];omega⟩
 ·obtain⟨l,hl⟩:=h.cB
  refine⟨l,hl.keep fun o mo=>?_⟩
  rw[List.getElem?_eq_getElem (ltv o mo)]
  exact k o _ (List.getElem?_eq_getElem _) (h.vb (by simp[mo])) (fun ms=>Wd o ms o mo rfl)
 ·have QU:((List.range K).map (s.ah.length+2 + ·)).Nodup:=by
   rw[List.nodup_iff_pairwise_ne,List.pairwise_map]
   exact List.Pairwise.imp (fun h=>by omega) (List.nodup_iff_pairwise_ne.1 List.nodup_range)
  have Ev : ∀ o∈(List.range K).map (s.ah.length+2 + ·),s.ah.length+2≤o∧o<s.ah.length+2+K:=fun o mo=>by
   obtain⟨j,hj,rfl⟩:=List.mem_map.1 mo
   have:=List.mem_range.1 hj;exact⟨by omega,by omega⟩
  have NY : ∀ o∈sd.arr,(o∈y.sd.arr)∨o=s.ah.length+2+K:=fun o mo=>by
   rcases rl with e|e
   ·rw[e]at mo;exact .inl mo
   ·rw[e]at mo;exact .inr (List.mem_singleton.1 mo)
  simp only[Lay.own,Lay.push]
  rw[List.nodup_cons,List.nodup_append,List.nodup_append,List.nodup_append]
  refine⟨fun mo=>?_,⟨nκ,QU,fun a ma b mb e=>?_⟩,⟨?_,nv,fun a ma b mb e=>?_⟩,fun a ma b mb e=>?_⟩
  ·simp only [List.mem_append]at mo
   rcases mo with (mo|mo)|mo|mo
   ·exact n0 (by simp[mo])
   ·have:=Ev _ mo;omega
   ·rcases NY _ mo with mo | mo
    ·exact n0 (by simp[mo])
    ·omega
   ·exact n0 (by simp[mo])
  ·have:=ltκ a ma;have:=Ev b mb;omega
  ·rcases rl with e | e <;> rw [e]
   ·exact ns
   ·simp
  ·rcases NY a ma with ma | ma
   ·exact Wd a ma b mb e
   ·have:=ltv b mb;omega
  ·rcases List.mem_append.1 ma with ma | ma
   ·rcases List.mem_append.1 mb with mb | mb
    ·rcases NY b mb with mb | mb
     ·exact Jc a ma b (List.mem_append_left _ mb) e
     ·have:=ltκ a ma;omega
    ·exact Jc a ma b (List.mem_append_right _ mb) e
   ·have:=Ev a ma
    rcases List.mem_append.1 mb with mb|mb
    ·rcases NY b mb with mb | mb
     ·have:=lts b mb;omega
     ·omega
    ·have:=ltv b mb;omega
theorem Yh {gl ps:List (List D)} {bytes:Nat} (hb:(gl.length+ps.length)*(bytes+1)≤bH) (ts:List (Option Nat)) : ∃ (g1 g2:Tag) (z1 z2:Nat) (t1 t2:List (Option Nat)),(∀ os,gZ 1 bytes (.slice .full 0 []) (.slice .shared 1 gl) ⟨os,ts⟩=some (.slice g1 z1 gl,⟨os,t1⟩))∧
 (∀ os,gZ 1 bytes (.slice g1 z1 gl) (.slice .shared 1 ps) ⟨os,t1⟩=some (.slice g2 z2 (gl++ps),⟨os,t2⟩))∧
 ((g2 = .full∧t2=ts∧gl++ps = [])∨(g2 = .tok ts.length∧z2=1∧t2=ts++ [some (gl++ps).length])):=by
 have h1:gl.length*(bytes+1)≤bH:=Nat.le_trans (Nat.mul_le_mul_right _ (Nat.le_add_right _ _)) hb
 have h2:ps.length*(bytes+1)≤bH:=Nat.le_trans (Nat.mul_le_mul_right _ (Nat.le_add_left _ _)) hb
 cases gl with
 |nil=>
  cases ps with
  |nil=>exact⟨.full, .full,0,0,ts,ts,fun os=>yO os ts,fun os=>yO os ts, .inl ⟨rfl,rfl,rfl⟩⟩
  |cons a ps=>exact⟨.full, .tok ts.length,0,1,ts,_,fun os=>yO os ts,fun os=>yN (by simp) h2 os ts, .inr ⟨rfl,rfl,rfl⟩⟩
 |cons a gl=>
  refine⟨.tok ts.length, .tok ts.length,1,1,ts++ [some (a::gl).length],ts++ [some (a::gl++ps).length],fun os=>yN (by simp) h1 os ts,fun os=>?_, .inr ⟨rfl,rfl,rfl⟩⟩
  rw[oz (size:=1) hb (by simp)]
  simp;omega
theorem K0 (h:Inv p T W y m loc s) (hp:p.iU) (hb:p.may=true) {i:Nat} {f:Pc} (hf:p.procs[i]? = some f) (afP:p.find f.name=some f) (jr:m.st.length<1000000) {l:List Nat} (hl : ∀ c∈l,c<m.mem.length) (FP:l.length<1000000)
 (hg:p.globals.length≤m.mem.length) (call:Int) :
 ∃ y' s',aG Tryz.prog iT [.ptr 0 0, .int .i64 (i:Int), .slice .shared 1 (l.map fun c=>e9 (y.κ.getD c 0)), .int .i64 call] s (.int .i64 (m.open p (i:Int) l call).1) s'∧Inv p T W y' (m.open p (i:Int) l call).2 loc s':=by
 have hm:=h.jm
 rw[ff]at hm
 have qd:=h.tR
 obtain⟨rj,qX,qW⟩:=hp.procs
 have u5:=hp.small (List.mem_of_getElem? hf)
 have cV:=fun s=>ab5 hp hb afP s
 have cF:=fun s=>Yf hb hf s
 have hi:i<p.procs.length:=(List.getElem?_eq_some_iff.1 hf).1
 obtain⟨g1,g2,z1,z2,t1,t2,a1,a2,a3⟩:=Yh (gl:=(y.κ.take p.globals.length).map e9) (ps:=l.map fun c=>e9 (y.κ.getD c 0)) (bytes:=8) (by simp only[List.length_map,List.length_take];unfold bH;omega) s.av
 have hA : ∀ e:List (List D),(s.ah++e)[0]? = s.ah[0]? :=fun e=>List.getElem?_append_left qd
 have n0 : ∀ e1 e2:List (List D),(s.ah++e1++e2)[0]? = s.ah[0]? :=fun e1 e2=>by rw[List.append_assoc];exact hA _
 have n1 : ∀ a b:List D,(s.ah++ [a]++ [b])[s.ah.length+1]? = some b:=fun a b=>by simp
 have n2 : ∀ a b:List D,(s.ah++ [a]++ [b])[s.ah.length]? = some a:=fun a b=>by simp
 have n3 : ∀ a b c:List D,(s.ah++ [a]++ [b]).set (s.ah.length+1) c=s.ah++ [a]++ [c]:=fun a b c=>by simp[List.append_assoc,List.set_append_right]
 have n4 : ∀ a:List D,(s.ah++ [a])[s.ah.length]? = some a:=fun a=>by simp
 have n5 : ∀ a b:List D,(s.ah++ [a]).set s.ah.length b=s.ah++ [b]:=fun a b=>by simp
 have hpc:cj f = [.str f.name, .slice .shared 2 (f.params.map iu), .slice .shared 1 (f.vars.map encStr), .slice .shared 13 (f.body.map bk), .slice .shared 1 (f.fin.map encStr)]:=rfl
 generalize hn:s.ah.length=n at *
 have Kj:(m.open p (i:Int) l call).1=fX f.body (-1)∧(m.open p (i:Int) l call).2 = {m with st:=⟨(i:Int),p.globals++f.own,List.range p.globals.length++l++(List.range f.vars.length).map (m.mem.length + ·),call⟩::m.st,mem:=m.mem++List.replicate f.vars.length 0}:=by
  unfold Mc.open
  rw[Int.toNat_natCast,hf]
  exact⟨rfl,rfl⟩
 rw[Kj.1,Kj.2]
 generalize jT:(y.κ.take p.globals.length).map e9++l.map (fun c=>e9 (y.κ.getD c 0))=jV at *
 have hgr:jV.length<2000000:=by rw[← jT];simp only[List.length_append,List.length_map,List.length_take];omega
 have hvl:=u5.vars
 -- the states of the rounds
 let fr:Nat→List D:=fun k=> [.int .i64 (i:Int), .slice .shared 1 ((p.globals++f.own).map encStr), .slice (.tok s.av.length) 1 (jV++(List.range k).map (fun j=>e9 (n+2+j))), .int .i64 call]
 obtain⟨O,hO⟩ : ∃ O:Nat→List (List D),∀ k,O k=s.ah++ [cj f]++ [fr k]++List.replicate k [.int .i64 0]:=⟨_,fun _=>rfl⟩
 have oL : ∀ k,(O k).length=n+2+k:=fun k=>by rw[hO];simp[hn];omega
 have T6 : ∀ k o,o<n→(O k)[o]? = s.ah[o]? :=fun k o ho=>by rw[hO,List.append_assoc,List.append_assoc,List.getElem?_append_left (by omega)]
 have oF : ∀ k,(O k)[n+1]? = some (fr k):=fun k=>by rw[hO,List.getElem?_append_left (by simp[hn])];simp[hn]
 have oC : ∀ k j,j<k→(O k)[n+2+j]? = some [.int .i64 0]:=fun k j hj=>by
  rw[hO,List.getElem?_append_right (by simp only[List.length_append,List.length_singleton,hn];omega)]
  simp only[List.length_append,List.length_singleton,hn]
  rw[show n+2+j - (n+1+1)=j by omega,List.getElem?_replicate_of_lt hj]
 have oF' : ∀ k e,(O k++e)[n+1]? = some (fr k):=fun k e=>by rw[List.getElem?_append_left (by rw[oL];omega)];exact oF k
 have o0 : ∀ k,(O k)[0]? = s.ah[0]? :=fun k=>T6 k 0 qd
 have o0' : ∀ k e,(O k++e)[0]? = s.ah[0]? :=fun k e=>by rw[List.getElem?_append_left (by rw[oL];omega)];exact o0 k
 have oS : ∀ k,(O k++ [[D.int .i64 0]]).set (n+1) (fr (k+1))=O (k+1):=fun k=>by
  rw[hO,hO,List.replicate_succ']
  simp only[List.append_assoc]
  rw[List.set_append_right _ _ (by omega),hn,show n+1 - n=1 by omega]
  rfl
 have yQ:(List.range p.globals.length++l++(List.range f.vars.length).map (m.mem.length + ·)).map (fun c=>e9 ((y.push n f.vars.length .dN).κ.getD c 0))=jV++(List.range f.vars.length).map (fun j=>e9 (n+2+j)):=by
  simp only[List.map_append,List.map_map,Lay.push, ← jT]
  congr 1
  ·congr 1
   ·rw [← NW (by rw [h.len];exact hg),List.map_map]
    exact List.map_congr_left fun c mc=>by simp only[Function.comp];rw[C3 (by rw[h.len];have:=List.mem_range.1 mc;omega)]
   ·exact List.map_congr_left fun c mc=>by rw[C3 (by rw[h.len];exact hl c mc)]
  ·exact List.map_congr_left fun j mj=>by simp only[Function.comp];rw[← h.len,T4 (List.mem_range.1 mj)]
 have alU:iZ (fr f.vars.length) (oP (y.push n f.vars.length .dN).κ ⟨(i:Int),p.globals++f.own,List.range p.globals.length++l++(List.range f.vars.length).map (m.mem.length + ·),call⟩):=by
  unfold oP
  dsimp only
  rw[yQ]
  exact .cons (Wk.refl _) (.cons (Wk.refl _) (.cons (Wk.shared _ _ _) (.cons (Wk.refl _) .nil)))
 -- the stack
 generalize hK:f.vars.length=K at *
 obtain⟨sd,O',e1,e3,e4,e5,e6⟩ : ∃ (sd:D) (O':List (List D)),(∀ tm:Tm,tm.get 70=y.sd→tm.get 72 = .slice .full 1 [[.ptr (n+1) 0]]→aI (.app 1 8 (.s 70) (.s 72)) tm ⟨O K,s.av++ [some (jV.length+K)]⟩=some (sd,⟨O',s.av++ [some (jV.length+K)]⟩))∧
  (∀ (o:Nat) (r:List D),(O K)[o]? = some r→o∉y.sd.arr→O'[o]? = some r)∧jl ⟨O',s.av⟩ sd (((n+1)::y.φ).reverse.map wO)∧(sd.arr=y.sd.arr∨sd.arr = [n+2+K])∧sd.row=some [sd]:=by
  rcases h.stack with ⟨e,e2⟩|⟨so,g,more,e,e2⟩
  ·have hφ:y.φ = []:=by simpa using e2
   refine⟨.dW 1 (n+2+K) 0 1,O K++ [[.int .i64 ((0:Nat):Int), .ptr (n+1) 0]],fun tm h1 h2=>?_,fun o r e _=>by rw[List.getElem?_append_left (fN (s:=⟨O K,[]⟩) e)];exact e, .inr ⟨n+2+K,0,[],by simp[hφ], ?_⟩, .inr rfl,rfl⟩
   ·simp only [aI,X.ev,h1,h2,e]
    rw[H5 _ _ _ (by unfold bH;omega)]
    simp only[oL]
   ·rw [hφ]
    show(O K++ [_])[n+2+K]? = _
    rw[← oL K]
    simp[wO]
  ·have alV:so<n:=by have:=fN e2;omega
   have hlen:(y.φ.reverse.map wO).length=m.st.length:=by simp[h.rP]
   have e2':(O K)[so]? = some (.int .i64 ((g:Nat):Int)::(y.φ.reverse.map wO++more)):=by rw[T6 K so alV];exact e2
   rw[hlen]at e
   refine⟨.dW 1 so (g+1) (m.st.length+1),(O K).set so (.int .i64 ((g+1:Nat):Int)::(y.φ.reverse.map wO++ [.ptr (n+1) 0])),fun tm h1 h2=>?_,fun o r e hn=>?_, .inr ⟨so,g+1,[],by simp[h.rP], ?_⟩, .inl (by rw[e];rfl),rfl⟩
   ·simp only [aI,X.ev,h1,h2,e]
    rw[Je (s:=⟨O K,_⟩) e2' (by rw[hlen,Nat.mul_one]) (by unfold bH;omega)]
   ·rw[List.getElem?_set_ne (fun e'=>hn (by rw[‹y.sd=_›, ← e'];simp[D.arr]))];exact e
   ·simp[oL,show so<n+2+K by omega,wO]
 have o'0:O'[0]? = s.ah[0]? :=by
  rw[hm]
  exact e3 0 _ (by rw[o0];exact hm) (fun mo=>(h.vb (by simp[mo])) rfl)
 have Wi:0<O'.length:=fN (s:=⟨O',[]⟩) (o'0.trans hm)
 have o'f:O'[n+1]? = some (fr K):=e3 _ _ (oF K) (fun mo=>by have:=h.sU (n+1) (by simp[Lay.own,mo]);omega)
 let row:=ff p T W (y.push n K sd) {m with st:=⟨(i:Int),p.globals++f.own,List.range p.globals.length++l++(List.range K).map (m.mem.length + ·),call⟩::m.st,mem:=m.mem++List.replicate K 0}
 refine⟨y.push n K sd,⟨(O'.set 0 row).set (n+1) (oP (y.push n K sd).κ ⟨(i:Int),p.globals++f.own,List.range p.globals.length++l++(List.range K).map (m.mem.length + ·),call⟩),s.av++ [some (jV.length+K)]⟩, ?_, ?_⟩
 case refine_2=>
  subst hn
  have gO : ∀ (o:Nat) (r:List D),O'[o]? = some r→o≠0→o≠s.ah.length+1→((O'.set 0 row).set (s.ah.length+1) (oP (y.push s.ah.length K sd).κ ⟨(i:Int),p.globals++f.own,List.range p.globals.length++l++(List.range K).map (m.mem.length + ·),call⟩))[o]? = some r:=fun o r e h1 h2=>by
   rw[List.getElem?_set_ne (Ne.symm h2),List.getElem?_set_ne (Ne.symm h1)];exact e
  refine h.push (K:=K) (sd:=sd) hg (fun c mc=>?_) (fun o r e h1 h2=>?_) ?_ (fun j hj=>?_) ?_ (e4.keep fun o mo=>?_) e5 ?_ ?_
  ·simp only [List.mem_append,List.mem_range,List.mem_map]at mc
   rcases mc with (mc|mc)|⟨x,mc,rfl⟩
   ·omega
   ·have:=hl c mc;omega
   ·omega
  ·have:=fN e
   exact gO o r (e3 o r (by rw[T6 K o this];exact e) h2) h1 (by omega)
  ·rw [List.getElem?_set_ne (by omega)]
   simp[Wi,row]
  ·refine gO _ _ (e3 _ _ (oC K j hj) fun mo=> ?_) (by omega) (by omega)
   have:=h.sU _ (show s.ah.length+2+j∈y.own by simp[Lay.own,mo]);omega
  ·have:=fN (s:=⟨O',[]⟩) o'f
   rw[List.getElem?_set_self (by rw[List.length_set];exact this)]
  ·have:o≠0∧o≠s.ah.length+1:=by
    rcases e5 with e|e
    ·rw [e]at mo
     have h1:=h.sU o (by simp[Lay.own,mo])
     exact⟨h.vb (by simp[mo]),by omega⟩
    ·rw [e]at mo
     have:=List.mem_singleton.1 mo
     exact⟨by omega,by omega⟩
   show(List.set _ _ _)[o]? = _
   rw[List.getElem?_set_ne (Ne.symm this.2),List.getElem?_set_ne (Ne.symm this.1)]
  ·exact List.getElem?_append_left (List.getElem?_eq_some_iff.1 h.t0).1
  ·exact List.getElem?_append_left (List.getElem?_eq_some_iff.1 h.t1).1
 refine bG.up ?_
 refine bG.tL yn rfl fun B Q hB hQ=>?_
 have⟨hD,hY,hZ,gA⟩:=bS
 have loop : ∀ d k:Nat,k+d=K→bq Tryz.prog B 82 QAP (km 0 (nw (jQ Tryz.prog B 82 QAW Q) Q))
  [(0, .ptr 0 0),(1, .int .i64 (i:Int)),(10, .ptr (n+1) 0),(52, .int .i64 (K:Int)),(53, .int .i64 (k:Int))] ⟨O k,s.av++ [some (jV.length+k)]⟩:=by
  intro d
  induction d with
  |zero=>
   intro k hk
   have tB:k=K:=by omega
   subst tB
   have hD:decide ((k:Int)<(k:Int))=false:=by simp
   have jj:=o'0.trans hm
   have F9:=o'f
   have uA : ∀ r,(O'.set 0 r)[0]? = some r:=fun r=>List.getElem?_set_self Wi
   refine bq.kC ?_
   repeat' (first
 |simp only[go_sem,hD,hY,hZ,gA,hm,o0,e1,e6,jj,Wi,uA]
 |(with_reducible refine CU (cF _) ?_)
 |(with_reducible first|refine bm fun hc=>?_|refine bn fun hc=>?_|refine bo (fun hc=>?_) fun hc=>?_)<;>(try simp only[hc,bs,↓reduceIte]at h)<;>try simp only[hc]
 |(with_reducible refine aE hQ ?_;(try cases h);simp only[aR,aS,bC,bD,go_sem,hD,hY,hZ,gA,hm,o0,e1,e6,jj,Wi,uA];try exact cb)
 | (cases h;done))
   (refine gy hQ ?_;simp only[aR,aS,bC,bD,go_sem])
   have dS:row = [.dt (fl p) 0, .slice .shared 1 ((y.κ.take p.globals.length).map e9), .slice .shared 1 (T.map cr), .slice .shared 1 (W.map cr),sd,y.vd,
    .int .i64 m.fin, .int .i64 m.steps, .int .i64 m.reads, .slice (.tok 0) 1 (m.out.map cr), .slice (.tok 1) 2 (m.trace.map gi)]:=by
    simp only[row,ff,Lay.push]
    rw[List.take_append_of_le_length (by rw[h.len];exact hg)]
   refine⟨_,⟨(O'.set 0 row).set (n+1) _,_⟩,Wk.refl _, ?_,rfl,rfl,rfl⟩
   rw[dS]
   exact gk.setAt (by rw[List.getElem?_set_ne (by omega)];exact F9) alU
  | succ d ih=>
   intro k hk
   have hD:decide ((k:Int)<(K:Int))=true:=by simp;omega
   have cf:k<4611686018427387904:=by omega
   have hfk:=oF k
   have T7:=oF' k [[.int .i64 0]]
   have eA:gZ 1 8 (.slice (.tok s.av.length) 1 (jV++(List.range k).map (fun j=>e9 (n+2+j)))) (.slice .full 1 [[.ptr (n+2+k) 0]]) ⟨O k++ [[.int .i64 0]],s.av++ [some (jV.length+k)]⟩ =
    some (.slice (.tok s.av.length) 1 (jV++(List.range (k+1)).map (fun j=>e9 (n+2+j))),⟨O k++ [[.int .i64 0]],s.av++ [some (jV.length+(k+1))]⟩):=by
    rw[oz (size:=1) (by simp only[List.length_append,List.length_map,List.length_range,List.length_singleton];unfold bH;omega) (by simp)]
    simp[List.range_succ,e9,Nat.add_assoc]
   have oSk:=oS k
   simp only[fr,List.map_append,List.range_succ,List.map_cons,List.map_nil]at hfk T7 oSk
   refine bq.kC ?_
   repeat' (first
 |simp only[go_sem,hD,hY,hZ,gA,hfk,T7,oL,eA,oSk]
 |(with_reducible first|refine bm fun hc=>?_|refine bn fun hc=>?_|refine bo (fun hc=>?_) fun hc=>?_)<;>(try simp only[hc,bs,↓reduceIte]at h)<;>try simp only[hc]
 |(with_reducible refine aE hQ ?_;(try cases h);simp only[aR,aS,bC,bD,go_sem,hD,hY,hZ,gA,hfk,T7,oL,eA,oSk];try exact cb)
 | (cases h;done))
   refine bq.o7 ?_ (ih (k+1) (by omega))
   simp only[go_sem,aJ cf]
   repeat' (first|exact Ok.out|with_reducible refine iJ ?_ ?_)
 have l0:=loop K 0 (by omega)
 have hO0:O 0=s.ah++ [cj f]++ [fr 0]:=by rw[hO];simp
 rw[hO0]at l0
 repeat' (first
 |simp only[go_sem,hD,hY,hZ,gA,hm,hA,n0,n1,n2,n3,n4,n5,hf,a1,a2,nD, ← DL,hn]
 |(with_reducible refine CU (cV _) ?_)
 |(with_reducible first|refine bm fun hc=>?_|refine bn fun hc=>?_|refine bo (fun hc=>?_) fun hc=>?_)<;>(try simp only[hc,bs,↓reduceIte]at h)<;>try simp only[hc]
 |(with_reducible refine aE hQ ?_;(try cases h);simp only[aR,aS,bC,bD,go_sem,hD,hY,hZ,gA,hm,hA,n0,n1,n2,n3,n4,n5,hf,a1,a2,nD, ← DL,hn];try exact cb)
 |(cases h;done))
 simp only[fr,List.range_zero,List.map_nil,List.append_nil,List.map_append]at l0
 rcases a3 with ⟨rfl,rfl,rfl⟩|⟨rfl,rfl,rfl⟩
 ·refine bq.Cw (n+1) 2 1 (n1 _ _) rfl ?_
  simp only[n3,List.set_cons_succ,List.set_cons_zero]
  refine bq.o7 ?_ l0
  simp only[go_sem,hK]
  repeat' (first|exact Ok.out|with_reducible refine iJ ?_ ?_)
 ·refine bq.o7 ?_ l0
  simp only[go_sem,hK]
  repeat' (first|exact Ok.out|with_reducible refine iJ ?_ ?_)
end
end Go.Abs
namespace Go.Abs
set_option maxRecDepth 8000
open Go.Proofs
section
variable {p:Pg} {T W:List Int} {y:Lay} {m:Mc} {loc:List (Nat×List D)} {s:St}
def vh (fr:Fr) (name:aF) (c:Nat):Prop:=∃ j:Nat,iN name 0 fr.names=(j:Int)∧fr.vars[j]? = some c
theorem vh.cell {fr:Fr} {name:aF} {c:Nat} (h:vh fr name c) (ht:m.top=fr):m.cell name=c:=by
 obtain⟨j,h1,h2⟩:=h
 unfold Mc.cell
 rw[ht,h1,Int.toNat_natCast,List.getD_eq_getElem?_getD,h2];rfl
theorem Inv.pop (h:Inv p T W y m loc s) {fr:Fr} {r:List Fr} (jr:m.st=fr::r) {so g:Nat} (rl:y.sd = .dW 1 so g (r.length+1)) :
 Inv p T W {y with φ:=y.φ.tail,sd:= .dW 1 so g r.length} {m with st:=r} loc ⟨s.ah.set 0 (ff p T W {y with φ:=y.φ.tail,sd:= .dW 1 so g r.length} {m with st:=r}),s.av⟩:=by
 have gJ:(D.dW 1 so g r.length).arr=y.sd.arr:=by rw[rl];rfl
 have NZ:Lay.own {y with φ:=y.φ.tail,sd:= .dW 1 so g r.length} = y.own:=by simp only[Lay.own,gJ]
 have iR:=h.rP
 rw[jr]at iR
 have ne : ∀ {q:Nat} {r':List D},s.ah[q]? = some r'→q≠0→(s.ah.set 0 (ff p T W {y with φ:=y.φ.tail,sd:= .dW 1 so g r.length} {m with st:=r}))[q]? = some r':=fun e hn=>by
  rw[List.getElem?_set_ne (Ne.symm hn)];exact e
 have nf : ∀ {q:Nat},q∉y.own→q≠0:=fun hq e=>hq (by rw[e];simp[Lay.own])
 obtain⟨l,hl⟩:=h.cB
 refine⟨by simp[h.tR],h.t0,h.t1,h.len,fun i c v e1 e2=>ne (h.cell i c v e1 e2) (h.vb (by simp[List.mem_of_getElem? e1])),by simp[iR],fun i o KZ e1 e2=>?_, ?_,⟨l,hl.keep fun o mo=>?_⟩,by rw[NZ];exact h.own,fun q mq=>?_⟩
 ·obtain⟨f1,f2,f3⟩:=h.frame (i+1) o KZ (by simpa [List.getElem?_tail]using e1) (by rw [jr];simpa using e2)
  exact⟨ne f1 (nf f2),by rw[NZ];exact f2,f3⟩
 ·cases hφ:y.φ with
  |nil=>rw[hφ]at iR;simp at iR
  | cons o φ=>
   rw[hφ]at iR
   rcases h.stack with ⟨e,_⟩|⟨so',g',more,e,e2⟩
   ·rw[e]at rl;cases rl
   ·have e':=e
    rw[rl,D.dW.injEq]at e'
    obtain⟨_,rfl,rfl,_⟩:=e'
    refine .inr ⟨so,g,[.ptr o 0]++more,by simp at iR ⊢;omega,ne ?_ (h.vb (by rw[rl];simp[D.arr]))⟩
    rw[e2,hφ]
    simp[wO]
 ·show(s.ah.set 0 _)[o]? = _
  rw[List.getElem?_set_ne (Ne.symm (h.vb (by simp[mo])))]
 ·obtain⟨f1,f2⟩:=h.loc q mq
  exact⟨ne f1 (nf f2),by rw[NZ];exact f2⟩
theorem Jf {L:List Im} {c:Nat} {it:Im} (h:L[c]? = some it) {a:Int} (ha:a=(c:Int)+1):fR L a=it:=by
 unfold fR
 rw[ha,show((c:Int)+1 - 1).toNat=c by omega,List.getD_eq_getElem?_getD,h];rfl
theorem Yi (h:Inv p T W y m loc s) {fr:Fr} {r:List Fr} (ht:mr m fr r) (hL:p.aX.L.length<1000000)
 (hc:fr.call=0∨∃ (c:Nat) (it:Im) (tQ:Fr) (r2:List Fr),fr.call=(c:Int)+1∧p.aX.L[c]? = some it∧mr {m with st:=r} tQ r2∧(it.s.name≠ []→∃ k,vh tQ it.s.name k)) (wN:Int) :
 bG Tryz.prog nZ [.ptr 0 0, .int .i64 wN] s (Rl p T W (.int .i64 (m.close p.aX.L wN).1) (m.close p.aX.L wN).2 (fun y'=>∃ sd,y' = {y with φ:=y.φ.tail,sd:=sd}) loc):=by
 obtain⟨so,g,cells,o,h1,h2,h3,h4,h5⟩:=h.T2 ht.st
 obtain⟨o',_,zp,c1⟩:=NV h ht.st ht.len
 have ho:o'=o:=by rw[h5]at *;cases ‹some o=some o'›;rfl
 subst ho
 have hm:=h.jm
 rw[ff,h1]at hm
 have hl:=h.tR
 have hp:=h.pop ht.st h1
 have hpf:=hp.jm
 have hlen:=ht.len
 have hw:IntKind.wrap .i64 (((r.length+1:Nat):Int) - 1)=((r.length:Nat):Int):=by rw[show((r.length+1:Nat):Int) - 1=(r.length:Int) by omega];exact ek (by omega) (by omega)
 have tA:wg (.dW 1 so g (r.length+1)) none (some (.int .i64 (r.length:Int)))=some (.dW 1 so g r.length):=by simp[wg,sq,sr];omega
 have uA : ∀ r,(s.ah.set 0 r)[0]? = some r:=fun r=>List.getElem?_set_self hl
 rw[oP]at zp
 have oc:m.close p.aX.L wN=if fr.call==0 then(-1,{{m with st:=r}with fin:=1})else((fR p.aX.L fr.call).next,if(fR p.aX.L fr.call).s.name == []then {m with st:=r}else({m with st:=r} : Mc).set (fR p.aX.L fr.call).s.name wN):=by
  unfold Mc.close
  rw[ht.top,ht.st];rfl
 rw[oc]
 rcases hc with hc|⟨c,it,tQ,r2,hc,o9,sN,hn⟩
 ·rw [hc]at zp
  have e0:((0:Int)==0)=true:=rfl
  have h5:=hp.s9 (m':= {{m with st:=r}with fin:=1}) rfl rfl hp.t0 hp.t1
  rw[ff]at h5
  simp only[List.set_set]at h5
  rw[hc,if_pos e0]
  refine bG.tL qh rfl fun B Q hB hQ=>?_
  have⟨hD,hY,hZ,gA⟩:=bS
  repeat' (first
 |simp only[go_sem,hD,hY,hZ,gA,hm,hl,hw,tA,uA,zp,e0,List.set_set]
 |(with_reducible refine CU (c1) ?_)
 |(with_reducible first|refine bm fun hc=>?_|refine bn fun hc=>?_|refine bo (fun hc=>?_) fun hc=>?_)<;>(try simp only[hc,bs,↓reduceIte]at h)<;>try simp only[hc]
 |(with_reducible refine aE hQ ?_;(try cases h);simp only[aR,aS,bC,bD,go_sem,hD,hY,hZ,gA,hm,hl,hw,tA,uA,zp,e0,List.set_set];try exact cb)
 |(cases h;done))
  (refine gy hQ ?_;simp only[aR,aS,bC,bD,go_sem])
  exact⟨rfl,_,⟨_,rfl⟩,h5⟩
 ·rw [hc]at zp
  have A1:IntKind.wrap .i64 ((c:Int)+1 - 1)=(c:Int):=by
   have:=(List.getElem?_eq_some_iff.1 o9).1
   rw[show(c:Int)+1 - 1=(c:Int) by omega];exact ek (by omega) (by omega)
  have e0:((c:Int)+1==0)=false:=by simp;omega
  have alW:=Jf o9 hc
  have hz : ∀ (z:List D) (e:List D),(s.ah.set 0 e++ [z]).set s.ah.length (dq it)=s.ah.set 0 e++ [dq it]:=fun z e=>by simp
  have hg : ∀ z e:List D,(s.ah.set 0 e++ [z])[s.ah.length]? = some z:=fun z e=>by simp
  have cS:(fl p)[2]? = some (.slice .shared 17 (p.aX.L.map dq)):=rfl
  have FP : ∀ e:List D,(s.ah.set 0 e).length=s.ah.length:=fun e=>List.length_set
  have da:=hp.new (dq it)
  rw[ff]at da
  simp only[FP]at da
  have DW:dq it = [.int .i64 it.s.id, .int .i64 it.s.kind, .slice .shared 1 (it.s.labels.map encStr), .str it.s.name, .str it.s.proc, .int .i64 it.s.x.op, .int .i64 it.s.x.n, .str it.s.x.name, .slice .shared 4 (it.s.x.kids.map bW), .bool it.s.has, .slice .shared 6 (it.s.args.map eg), .slice .shared 13 (it.s.aY.map bk), .slice .shared 13 (it.s.aW.map bk), .int .i64 it.proc, .int .i64 it.up, .int .i64 it.next, .int .i64 it.loop]:=rfl
  have c3:(dq it)[3]? = some (.str it.s.name):=rfl
  rw[hc,if_neg (by rw[e0];simp),show fR p.aX.L ((c:Int)+1)=it from hc ▸ alW]
  refine bG.tL qh rfl fun B Q hB hQ=>?_
  have⟨hD,hY,hZ,gA⟩:=bS
  rcases Bool.eq_false_or_eq_true (it.s.name == [])with b|b
  ·repeat' (first
 |simp only[go_sem,hD,hY,hZ,gA,hm,hl,hw,tA,uA,zp,e0,A1,o9,hz,hg,FP,c3,b,cS]
 |(with_reducible refine CU (c1) ?_)
 |(with_reducible first|refine bm fun hc=>?_|refine bn fun hc=>?_|refine bo (fun hc=>?_) fun hc=>?_)<;>(try simp only[hc,bs,↓reduceIte]at h)<;>try simp only[hc]
 |(with_reducible refine aE hQ ?_;(try cases h);simp only[aR,aS,bC,bD,go_sem,hD,hY,hZ,gA,hm,hl,hw,tA,uA,zp,e0,A1,o9,hz,hg,FP,c3,b,cS];try exact cb)
 | (cases h;done))
   (refine gy hQ ?_;simp only[aR,aS,bC,bD,go_sem])
   refine⟨rfl,{y with φ:=y.φ.tail,sd:= .dW 1 so g r.length},⟨_,rfl⟩, ?_⟩
   simp only[b,if_true]
   exact da.sub fun q mq=>List.mem_cons_of_mem _ mq
  ·obtain⟨k,hk⟩:=hn (by intro e;rw [e]at b;cases b)
   have Jg:=hk.cell sN.top
   obtain⟨j,hj,A2⟩:=hk
   have c2:=Bz da sN.st sN.len sN.names hj A2
   have hkm:k<m.mem.length:=by
    have hlp:=hp.rP
    rw[sN.st]at hlp
    cases hφ:y.φ.tail with
    |nil=>simp[hφ]at hlp
    |cons o2 φ2=>exact(hp.frame 0 o2 tQ (by simp[hφ]) (by rw[sN.st];rfl)).2.2 k (List.mem_of_getElem? A2)
   have hκ:y.κ[k]? = some (y.κ.getD k 0):=by
    rw[List.getD_eq_getElem?_getD,List.getElem?_eq_getElem (by have:=h.len;omega)];rfl
   have ik:=da.cell k _ _ hκ (List.getElem?_eq_getElem hkm)
   have u9:=da.TW hκ wN
   have iW:=(u9.loc (s.ah.length,dq it) (List.mem_cons_self ..)).1
   simp only at ik u9 iW c2
   have hb:(it.s.name != [])=true:=by simp[bne,b]
   repeat' (first
 |simp only[go_sem,hD,hY,hZ,gA,hm,hl,hw,tA,uA,zp,e0,A1,o9,hz,hg,FP,c3,b,cS,ik,iW]
 |(with_reducible refine CU (c1) ?_)
 |(with_reducible refine CU (c2) ?_)
 |(with_reducible first|refine bm fun hc=>?_|refine bn fun hc=>?_|refine bo (fun hc=>?_) fun hc=>?_)<;>(try simp only[hc,bs,↓reduceIte]at h)<;>try simp only[hc]
 |(with_reducible refine aE hQ ?_;(try cases h);simp only[aR,aS,bC,bD,go_sem,hD,hY,hZ,gA,hm,hl,hw,tA,uA,zp,e0,A1,o9,hz,hg,FP,c3,b,cS,ik,iW];try exact cb)
 | (cases h;done))
   (refine gy hQ ?_;simp only[aR,aS,bC,bD,go_sem])
   refine⟨rfl,{y with φ:=y.φ.tail,sd:= .dW 1 so g r.length},⟨_,rfl⟩, ?_⟩
   simp only[b,Bool.false_eq_true,if_false,Mc.set,Jg]
   exact u9.sub fun q mq=>List.mem_cons_of_mem _ mq
end
end Go.Abs
namespace Go.Abs
set_option maxRecDepth 8000
open Go.Proofs
section
variable {p:Pg} {T W:List Int} {y:Lay} {m:Mc} {loc:List (Nat×List D)} {s:St}
structure aca (p:Pg) (fr:Fr) (it:Im):Prop where
 said:it.s.mQ
 brk:it.s.kind=7→∃ (c:Nat) (it2:Im),it.loop=(c:Int)+1∧p.aX.L[c]? = some it2
 NN:it.s.kind=10→∃ (i:Nat) (f:Pc),it.proc=(i:Int)∧p.procs[i]? = some f
 name:it.s.kind=1∨it.s.kind=2→∃ k,vh fr it.s.name k
 aY:it.s.aY.length<1000000
 aW:it.s.aW.length<1000000
structure G2 (p:Pg) (T W:List Int) (m:Mc):Prop where
 W:W.length<1000000
 T:T.length<1000000
 trace:m.trace.length<2000000
 out:m.out.length<2000000
 L:p.aX.L.length<1000000
 P:Pc.a8 p.procs<1000000000
 reads:0≤m.reads∧m.reads<2000000
theorem cell_of (h:Inv p T W y m loc s) {fr:Fr} {r:List Fr} (jr:m.st=fr::r) {c j:Nat} (hc:fr.vars[j]? = some c):y.κ[c]? = some (y.κ.getD c 0)∧∃ v,m.mem[c]? = some v∧s.ah[y.κ.getD c 0]? = some [.int .i64 v]:=by
 have iR:=h.rP
 rw[jr]at iR
 cases hφ:y.φ with
 |nil=>simp[hφ]at iR
 | cons o φ=>
  have QT:=(h.frame 0 o fr (by simp[hφ]) (by rw[jr];rfl)).2.2 c (List.mem_of_getElem? hc)
  have hκ:y.κ[c]? = some (y.κ.getD c 0):=by
   rw[List.getD_eq_getElem?_getD,List.getElem?_eq_getElem (by have:=h.len;omega)];rfl
  exact⟨hκ,_,List.getElem?_eq_getElem QT,h.cell c _ _ hκ (List.getElem?_eq_getElem QT)⟩
theorem alX (hp:p.iU) (T8:p.may=true) (h:Inv p T W y m loc s) {fr:Fr} {r:List Fr} (ht:mr m fr r) (hz:G2 p T W m) {it:Im} (hd:aca p fr it) :
 bG Tryz.prog p6 [.ptr 0 0, .agg (dq it)] s (Rl p T W (.int .i64 (m.do p p.aX.L T W it).1) (m.do p p.aX.L T W it).2 (fun y'=>∃ vd,y' = {y with vd:=vd}) loc):=by
 have h1:=(h.new (dq it)).new (bk it.s)
 simp only[List.length_append,List.length_singleton]at h1
 have z0 : ∀ z:List D,(s.ah++ [z])[s.ah.length]? = some z:=fun z=>by simp
 have z1 : ∀ z:List D,(s.ah++ [dq it]++ [z]).set (s.ah.length+1) (bk it.s)=s.ah++ [dq it]++ [bk it.s]:=fun z=>by simp[List.append_assoc,List.set_append_right]
 have z2 : ∀ a z:List D,(s.ah++ [a]++ [z])[s.ah.length+1]? = some z:=fun a z=>by simp
 have z3 : ∀ a z:List D,(s.ah++ [a]++ [z])[s.ah.length]? = some a:=fun a z=>by simp
 have z4:=h1.jm
 rw[ff]at z4
 have uW:=h1.tR
 simp only at z4 uW
 have cS:(fl p)[2]? = some (.slice .shared 17 (p.aX.L.map dq)):=rfl
 have mX : ∀ q∈loc,q∈(s.ah.length+1,bk it.s)::(s.ah.length,dq it)::loc:=fun q mq=>List.mem_cons_of_mem _ (List.mem_cons_of_mem _ mq)
 generalize hn:s.ah.length=n at *
 have iW : ∀ {y2:Lay} {m2:Mc} {s2:St},Inv p T W y2 m2 ((n+1,bk it.s)::(n,dq it)::loc) s2→s2.ah[n]? = some (dq it)∧s2.ah[n+1]? = some (bk it.s)∧0<s2.ah.length:=fun h2=>
  ⟨(h2.loc (n,dq it) (by simp)).1,(h2.loc (n+1,bk it.s) (by simp)).1,h2.tR⟩
 rcases Bool.eq_false_or_eq_true (it.s.kind==7)with b7|b7
 ·have c1:=vf h1 hz.W hz.trace it.s.id
  obtain⟨c,it2,e1,e2⟩:=hd.brk (by simpa using b7)
  have hw:IntKind.wrap .i64 ((c:Int)+1 - 1)=(c:Int):=by
   have:=(List.getElem?_eq_some_iff.1 e2).1
   have:=hz.L
   rw[show(c:Int)+1 - 1=(c:Int) by omega];exact ek (by omega) (by omega)
  have xN:m.do p p.aX.L T W it=(it2.next,m.event W it.s.id []):=by
   unfold Mc.do
   dsimp only
   rw[if_pos b7,Jf e2 e1]
  rw[xN]
  refine bG.tL gN rfl fun B Q hB hQ=>?_
  have⟨hD,hY,hZ,gA⟩:=bS
  repeat' (first
 |simp only[go_sem,hD,hY,hZ,gA,z0,z1,z2,z3,hn,b7]
 |(with_reducible first|refine bm fun hc=>?_|refine bn fun hc=>?_|refine bo (fun hc=>?_) fun hc=>?_)<;>(try simp only[hc,bs,↓reduceIte]at h)<;>try simp only[hc]
 |(with_reducible refine aE hQ ?_;(try cases h);simp only[aR,aS,bC,bD,go_sem,hD,hY,hZ,gA,z0,z1,z2,z3,hn,b7];try exact cb)
 |(cases h;done))
  refine CR c1 fun d s2 h2=>?_
  obtain⟨rfl,y2,rfl,h2⟩:=h2
  obtain⟨x1,x2,x3⟩:=iW h2
  have jj:=h2.jm
  rw[ff]at jj
  repeat' (first
 |simp only[go_sem,hD,hY,hZ,gA,x1,x2,jj,cS,e1,hw,e2]
 |(with_reducible first|refine bm fun hc=>?_|refine bn fun hc=>?_|refine bo (fun hc=>?_) fun hc=>?_)<;>(try simp only[hc,bs,↓reduceIte]at h)<;>try simp only[hc]
 |(with_reducible refine aE hQ ?_;(try cases h);simp only[aR,aS,bC,bD,go_sem,hD,hY,hZ,gA,x1,x2,jj,cS,e1,hw,e2];try exact cb)
 |(cases h;done))
  (refine gy hQ ?_;simp only[aR,aS,bC,bD,go_sem])
  exact⟨rfl,_,⟨_,rfl⟩,h2.sub mX⟩
 rcases Bool.eq_false_or_eq_true (it.s.kind==8)with b8|b8
 ·have c1:=vf h1 hz.W hz.trace it.s.id
  have xN:m.do p p.aX.L T W it=(it.loop,m.event W it.s.id []):=by
   unfold Mc.do
   dsimp only
   rw[if_neg (by simp[b7]),if_pos b8]
  rw[xN]
  refine bG.tL gN rfl fun B Q hB hQ=>?_
  have⟨hD,hY,hZ,gA⟩:=bS
  repeat' (first
 |simp only[go_sem,hD,hY,hZ,gA,z0,z1,z2,z3,hn,b7,b8]
 |(with_reducible first|refine bm fun hc=>?_|refine bn fun hc=>?_|refine bo (fun hc=>?_) fun hc=>?_)<;>(try simp only[hc,bs,↓reduceIte]at h)<;>try simp only[hc]
 |(with_reducible refine aE hQ ?_;(try cases h);simp only[aR,aS,bC,bD,go_sem,hD,hY,hZ,gA,z0,z1,z2,z3,hn,b7,b8];try exact cb)
 |(cases h;done))
  refine CR c1 fun d s2 h2=>?_
  obtain⟨rfl,y2,rfl,h2⟩:=h2
  obtain⟨x1,x2,x3⟩:=iW h2
  repeat' (first
 |simp only[go_sem,hD,hY,hZ,gA,x1,x2]
 |(with_reducible first|refine bm fun hc=>?_|refine bn fun hc=>?_|refine bo (fun hc=>?_) fun hc=>?_)<;>(try simp only[hc,bs,↓reduceIte]at h)<;>try simp only[hc]
 |(with_reducible refine aE hQ ?_;(try cases h);simp only[aR,aS,bC,bD,go_sem,hD,hY,hZ,gA,x1,x2];try exact cb)
 |(cases h;done))
  (refine gy hQ ?_;simp only[aR,aS,bC,bD,go_sem])
  exact⟨rfl,_,⟨_,rfl⟩,h2.sub mX⟩
 rcases Bool.eq_false_or_eq_true (it.s.kind==10)with sW|sW
 ·have c1:=vf h1 hz.W hz.trace it.s.id
  obtain⟨i,f,e1,e2⟩:=hd.NN (by simpa using sW)
  have cA:=fun s=>abH hp T8 e2 it.s.name s
  have xN:m.do p p.aX.L T W it=((kI f.fin it.s.name (Sm.cT f.body)).1,m.event W it.s.id []):=by
   unfold Mc.do
   dsimp only
   rw[if_neg (by simp[b7]),if_neg (by simp[b8]),if_pos sW,e1,Int.toNat_natCast,e2]
  rw[xN]
  refine bG.tL gN rfl fun B Q hB hQ=>?_
  have⟨hD,hY,hZ,gA⟩:=bS
  repeat' (first
 |simp only[go_sem,hD,hY,hZ,gA,z0,z1,z2,z3,hn,b7,b8,sW]
 |(with_reducible first|refine bm fun hc=>?_|refine bn fun hc=>?_|refine bo (fun hc=>?_) fun hc=>?_)<;>(try simp only[hc,bs,↓reduceIte]at h)<;>try simp only[hc]
 |(with_reducible refine aE hQ ?_;(try cases h);simp only[aR,aS,bC,bD,go_sem,hD,hY,hZ,gA,z0,z1,z2,z3,hn,b7,b8,sW];try exact cb)
 |(cases h;done))
  refine CR c1 fun d s2 h2=>?_
  obtain⟨rfl,y2,rfl,h2⟩:=h2
  obtain⟨x1,x2,x3⟩:=iW h2
  have jj:=h2.jm
  rw[ff]at jj
  repeat' (first
 |simp only[go_sem,hD,hY,hZ,gA,x1,x2,jj,e1]
 |(with_reducible refine CU (cA _) ?_)
 |(with_reducible first|refine bm fun hc=>?_|refine bn fun hc=>?_|refine bo (fun hc=>?_) fun hc=>?_)<;>(try simp only[hc,bs,↓reduceIte]at h)<;>try simp only[hc]
 |(with_reducible refine aE hQ ?_;(try cases h);simp only[aR,aS,bC,bD,go_sem,hD,hY,hZ,gA,x1,x2,jj,e1];try exact cb)
 |(cases h;done))
  (refine gy hQ ?_;simp only[aR,aS,bC,bD,go_sem])
  exact⟨rfl,_,⟨_,rfl⟩,h2.sub mX⟩
 rcases Bool.eq_false_or_eq_true (it.s.kind==2)with b2|b2
 ·obtain⟨k,hk⟩:=hd.name (.inr (by simpa using b2))
  have jd:=hz.reads
  have hTl:=hz.T
  have Fm:=jd.1
  have auc : ∀ r,((s.ah++ [dq it]++ [bk it.s]).set 0 r)[0]? = some r:=fun r=>List.getElem?_set_self uW
  cases e:T[m.reads.toNat]? with
  | none=>
   have tD:decide (m.reads≥(T.length:Int))=true:=by have:=List.getElem?_eq_none_iff.1 e;simp;omega
   have xN:m.do p p.aX.L T W it=(-1,{m with fin:=3}):=by
    unfold Mc.do
    dsimp only
    rw[if_neg (by simp[b7]),if_neg (by simp[b8]),if_neg (by simp[sW]),if_pos b2,e]
   rw[xN]
   have h2:=h1.s9 (m':= {m with fin:=3}) rfl rfl h1.t0 h1.t1
   rw[ff]at h2
   simp only at h2
   refine bG.tL gN rfl fun B Q hB hQ=>?_
   have⟨hD,hY,hZ,gA⟩:=bS
   repeat' (first
 |simp only[go_sem,hD,hY,hZ,gA,z0,z1,z2,z3,z4,hn,b7,b8,sW,b2,tD,uW]
 |(with_reducible first|refine bm fun hc=>?_|refine bn fun hc=>?_|refine bo (fun hc=>?_) fun hc=>?_)<;>(try simp only[hc,bs,↓reduceIte]at h)<;>try simp only[hc]
 |(with_reducible refine aE hQ ?_;(try cases h);simp only[aR,aS,bC,bD,go_sem,hD,hY,hZ,gA,z0,z1,z2,z3,z4,hn,b7,b8,sW,b2,tD,uW];try exact cb)
 | (cases h;done))
   (refine gy hQ ?_;simp only[aR,aS,bC,bD,go_sem])
   exact⟨rfl,_,⟨_,rfl⟩,h2.sub mX⟩
  | some v=>
   have tD:decide (m.reads≥(T.length:Int))=false:=by have:=(List.getElem?_eq_some_iff.1 e).1;simp;omega
   have Eb:IntKind.wrap .i64 (m.reads+1)=m.reads+1:=ek (by omega) (by omega)
   have Jg:=hk.cell ht.top
   obtain⟨j,hj,A2⟩:=hk
   have xN:m.do p p.aX.L T W it=(it.next,(({m with reads:=m.reads+1,mem:=m.mem.set k v} : Mc).event W it.s.id [v])):=by
    unfold Mc.do
    dsimp only
    rw[if_neg (by simp[b7]),if_neg (by simp[b8]),if_neg (by simp[sW]),if_pos b2,e]
    have:({m with reads:=m.reads+1} : Mc).cell it.s.name=k:=Jg
    simp only[Mc.set,this]
   rw[xN]
   have h2:=h1.s9 (m':= {m with reads:=m.reads+1}) rfl rfl h1.t0 h1.t1
   have sN:mr ({m with reads:=m.reads+1} : Mc) fr r:=⟨ht.st,ht.len,ht.names,ht.vars⟩
   have c2:=Bz h2 sN.st sN.len sN.names hj A2
   obtain⟨hκ,v0,g1,g2⟩:=cell_of h2 sN.st A2
   have h3:=h2.TW hκ v
   have c3:=C2 h3 hz.W hz.trace it.s.id v
   obtain⟨x1,x2,x3⟩:=iW h3
   obtain⟨x4,x5,x6⟩:=iW h2
   rw[ff]at c2 g2 c3 x1 x2 x4 x5
   simp only at c2 g2 c3 x1 x2 x4 x5
   refine bG.tL gN rfl fun B Q hB hQ=>?_
   have⟨hD,hY,hZ,gA⟩:=bS
   repeat' (first
 |simp only[go_sem,hD,hY,hZ,gA,z0,z1,z2,z3,z4,hn,b7,b8,sW,b2,tD,uW,e,Eb,Fm,x1,x2,x4,x5,g2]
 |(with_reducible refine CU (c2) ?_)
 |(with_reducible first|refine bm fun hc=>?_|refine bn fun hc=>?_|refine bo (fun hc=>?_) fun hc=>?_)<;>(try simp only[hc,bs,↓reduceIte]at h)<;>try simp only[hc]
 |(with_reducible refine aE hQ ?_;(try cases h);simp only[aR,aS,bC,bD,go_sem,hD,hY,hZ,gA,z0,z1,z2,z3,z4,hn,b7,b8,sW,b2,tD,uW,e,Eb,Fm,x1,x2,x4,x5,g2];try exact cb)
 | (cases h;done))
   refine CR c3 fun d s2 h4=>?_
   obtain⟨rfl,y2,rfl,h4⟩:=h4
   obtain⟨x1,x2,x3⟩:=iW h4
   repeat' (first
 |simp only[go_sem,hD,hY,hZ,gA,x1,x2]
 |(with_reducible first|refine bm fun hc=>?_|refine bn fun hc=>?_|refine bo (fun hc=>?_) fun hc=>?_)<;>(try simp only[hc,bs,↓reduceIte]at h)<;>try simp only[hc]
 |(with_reducible refine aE hQ ?_;(try cases h);simp only[aR,aS,bC,bD,go_sem,hD,hY,hZ,gA,x1,x2];try exact cb)
 | (cases h;done))
   (refine gy hQ ?_;simp only[aR,aS,bC,bD,go_sem])
   exact⟨rfl,_,⟨_,rfl⟩,h4.sub mX⟩
 -- an expression is reckoned
 have hx:it.s.x.size<1000000:=by have:=hd.said.2.2;omega
 have c1:=C1 h1 ht hx hd.said.1
 rcases Bool.eq_false_or_eq_true (m.bJ it.s.x).1.2 with bw|bw
 case inr=>
  have xN:m.do p p.aX.L T W it=(-1,(m.bJ it.s.x).2):=by
   unfold Mc.do
   dsimp only
   rw[if_neg (by simp[b7]),if_neg (by simp[b8]),if_neg (by simp[sW]),if_neg (by simp[b2]),if_neg (by simp[bw])]
  rw[xN]
  refine bG.tL gN rfl fun B Q hB hQ=>?_
  have⟨hD,hY,hZ,gA⟩:=bS
  repeat' (first
 |simp only[go_sem,hD,hY,hZ,gA,z0,z1,z2,z3,hn,b7,b8,sW,b2]
 |(with_reducible first|refine bm fun hc=>?_|refine bn fun hc=>?_|refine bo (fun hc=>?_) fun hc=>?_)<;>(try simp only[hc,bs,↓reduceIte]at h)<;>try simp only[hc]
 |(with_reducible refine aE hQ ?_;(try cases h);simp only[aR,aS,bC,bD,go_sem,hD,hY,hZ,gA,z0,z1,z2,z3,hn,b7,b8,sW,b2];try exact cb)
 |(cases h;done))
  refine CR c1 fun d s2 h2=>?_
  obtain⟨⟨rfl,y2,vg,h2⟩,_⟩:=h2
  repeat' (first
 |simp only[go_sem,hD,hY,hZ,gA,bw]
 |(with_reducible first|refine bm fun hc=>?_|refine bn fun hc=>?_|refine bo (fun hc=>?_) fun hc=>?_)<;>(try simp only[hc,bs,↓reduceIte]at h)<;>try simp only[hc]
 |(with_reducible refine aE hQ ?_;(try cases h);simp only[aR,aS,bC,bD,go_sem,hD,hY,hZ,gA,bw];try exact cb)
 |(cases h;done))
  (refine gy hQ ?_;simp only[aR,aS,bC,bD,go_sem])
  exact⟨rfl,y2,⟨_,vg⟩,h2.sub mX⟩
 have QW:(m.bJ it.s.x).2=m:=by
  unfold Mc.bJ
  dsimp only
  rw[if_pos (show(it.s.x.bJ m.top.names m.cB).2=true from bw)]
 have xN:m.do p p.aX.L T W it=(let m1:=m.event W it.s.id [(m.bJ it.s.x).1.1];let n:=(m.bJ it.s.x).1.1
  if it.s.kind==1 then(it.next,m1.set it.s.name n)else if it.s.kind==3 then(it.next,{m1 with out:=m1.out++ [n]})
  else if it.s.kind==5 then(if n==0 then firstM it.s.aW it.next else firstM it.s.aY it.next,m1)else if it.s.kind==6 then(if n==0 then it.next else firstM it.s.aY it.s.id,m1)else(it.next,m1)):=by
  unfold Mc.do
  dsimp only
  rw[if_neg (by simp[b7]),if_neg (by simp[b8]),if_neg (by simp[sW]),if_neg (by simp[b2]),if_pos bw,QW]
 rw[xN]
 rw[QW]at c1
 generalize hR:(m.bJ it.s.x).1=R at *
 obtain⟨v,ok⟩:=R
 subst bw
 dsimp only
 have he:=fw W m it.s.id [v]
 have QX:mr (m.event W it.s.id [v]) fr r:=⟨by rw[he.1];exact ht.st,ht.len,ht.names,ht.vars⟩
 have nb:(v != 0) = !(v==0):=rfl
 have fT:=fun o s=>KY it.s.aY (by have:=hd.aY;omega) o s
 have fE:=fun o s=>KY it.s.aW (by have:=hd.aW;omega) o s
 refine bG.tL gN rfl fun B Q hB hQ=>?_
 have⟨hD,hY,hZ,gA⟩:=bS
 repeat' (first
 |simp only[go_sem,hD,hY,hZ,gA,z0,z1,z2,z3,hn,b7,b8,sW,b2]
 |(with_reducible first|refine bm fun hc=>?_|refine bn fun hc=>?_|refine bo (fun hc=>?_) fun hc=>?_)<;>(try simp only[hc,bs,↓reduceIte]at h)<;>try simp only[hc]
 |(with_reducible refine aE hQ ?_;(try cases h);simp only[aR,aS,bC,bD,go_sem,hD,hY,hZ,gA,z0,z1,z2,z3,hn,b7,b8,sW,b2];try exact cb)
 |(cases h;done))
 refine CR c1 fun d s2 h2=>?_
 obtain⟨⟨rfl,y2,vg,h2⟩,_⟩:=h2
 obtain⟨x1,x2,x3⟩:=iW h2
 have c2:=C2 h2 hz.W hz.trace it.s.id v
 repeat' (first
 |simp only[go_sem,hD,hY,hZ,gA,x1,x2]
 |(with_reducible first|refine bm fun hc=>?_|refine bn fun hc=>?_|refine bo (fun hc=>?_) fun hc=>?_)<;>(try simp only[hc,bs,↓reduceIte]at h)<;>try simp only[hc]
 |(with_reducible refine aE hQ ?_;(try cases h);simp only[aR,aS,bC,bD,go_sem,hD,hY,hZ,gA,x1,x2];try exact cb)
 |(cases h;done))
 refine CR c2 fun d s3 h3=>?_
 obtain⟨rfl,y3,rfl,h3⟩:=h3
 obtain⟨x1,x2,x3⟩:=iW h3
 have nP:=h3.jm
 rw[ff]at nP
 rcases Bool.eq_false_or_eq_true (it.s.kind==1)with b1|b1
 ·obtain⟨k,hk⟩:=hd.name (.inl (by simpa using b1))
  have Jg:=hk.cell QX.top
  obtain⟨j,hj,A2⟩:=hk
  have c3:=Bz h3 QX.st QX.len QX.names hj A2
  obtain⟨hκ,v0,g1,g2⟩:=cell_of h3 QX.st A2
  have h4:=h3.TW hκ v
  obtain⟨x4,x5,x6⟩:=iW h4
  simp only at x4 x5
  repeat' (first
 |simp only[go_sem,hD,hY,hZ,gA,x1,x2,b1,g2,x4,x5]
 |(with_reducible refine CU (c3) ?_)
 |(with_reducible first|refine bm fun hc=>?_|refine bn fun hc=>?_|refine bo (fun hc=>?_) fun hc=>?_)<;>(try simp only[hc,bs,↓reduceIte]at h)<;>try simp only[hc]
 |(with_reducible refine aE hQ ?_;(try cases h);simp only[aR,aS,bC,bD,go_sem,hD,hY,hZ,gA,x1,x2,b1,g2,x4,x5];try exact cb)
 |(cases h;done))
  (refine gy hQ ?_;simp only[aR,aS,bC,bD,go_sem])
  rw[if_pos b1]
  refine⟨rfl,y3,⟨_,vg⟩, ?_⟩
  simp only[Mc.set,Jg]
  exact h4.sub mX
 rw[if_neg (by simp[b1])]at hQ
 rcases Bool.eq_false_or_eq_true (it.s.kind==3)with b3|b3
 ·rw [if_pos b3]at hQ
  have eA:gZ 1 8 (.slice (.tok 0) 1 ((m.event W it.s.id [v]).out.map cr)) (.slice .full 1 [[.int .i64 v]]) s3=some (.slice (.tok 0) 1 (((m.event W it.s.id [v]).out++ [v]).map cr),⟨s3.ah,s3.av.set 0 (some ((m.event W it.s.id [v]).out.length+1))⟩):=by
   rw[oz (size:=1) (by simp only[List.length_map,List.length_singleton,he.2.2.2.2.2];have:=hz.out;unfold bH;omega) (by simpa using h3.t0)]
   simp[cr]
  have h4:=h3.s9 (m':= {m.event W it.s.id [v]with out:=(m.event W it.s.id [v]).out++ [v]}) (ts:=s3.av.set 0 (some ((m.event W it.s.id [v]).out.length+1))) rfl rfl (by simp[(List.getElem?_eq_some_iff.1 h3.t0).1]) (by rw[List.getElem?_set_ne (by omega)];exact h3.t1)
  obtain⟨x4,x5,x6⟩:=iW h4
  rw[ff]at h4 x4 x5
  simp only[List.map_append,List.map_cons,List.map_nil,cr]at h4 x4 x5 eA
  repeat' (first
 |simp only[go_sem,hD,hY,hZ,gA,x1,x2,b1,b3,nP,eA,x3,x4,x5]
 |(with_reducible first|refine bm fun hc=>?_|refine bn fun hc=>?_|refine bo (fun hc=>?_) fun hc=>?_)<;>(try simp only[hc,bs,↓reduceIte]at h)<;>try simp only[hc]
 |(with_reducible refine aE hQ ?_;(try cases h);simp only[aR,aS,bC,bD,go_sem,hD,hY,hZ,gA,x1,x2,b1,b3,nP,eA,x3,x4,x5];try exact cb)
 |(cases h;done))
  (refine gy hQ ?_;simp only[aR,aS,bC,bD,go_sem])
  exact⟨rfl,y3,⟨_,vg⟩,h4.sub mX⟩
 rw[if_neg (by simp[b3])]at hQ
 rcases Bool.eq_false_or_eq_true (it.s.kind==5)with b5|b5
 ·rw [if_pos b5]at hQ
  rcases Bool.eq_false_or_eq_true (v==0)with bv|bv
  ·rw [if_pos bv]at hQ
   repeat' (first
 |simp only[go_sem,hD,hY,hZ,gA,x1,x2,b1,b3,b5,nb,bv]
 |(with_reducible refine CU (fT _ _) ?_)
 |(with_reducible refine CU (fE _ _) ?_)
 |(with_reducible first|refine bm fun hc=>?_|refine bn fun hc=>?_|refine bo (fun hc=>?_) fun hc=>?_)<;>(try simp only[hc,bs,↓reduceIte]at h)<;>try simp only[hc]
 |(with_reducible refine aE hQ ?_;(try cases h);simp only[aR,aS,bC,bD,go_sem,hD,hY,hZ,gA,x1,x2,b1,b3,b5,nb,bv];try exact cb)
 | (cases h;done))
   (refine gy hQ ?_;simp only[aR,aS,bC,bD,go_sem])
   exact⟨rfl,y3,⟨_,vg⟩,h3.sub mX⟩
  ·rw [if_neg (by simp [bv])]at hQ
   repeat' (first
 |simp only[go_sem,hD,hY,hZ,gA,x1,x2,b1,b3,b5,nb,bv]
 |(with_reducible refine CU (fT _ _) ?_)
 |(with_reducible refine CU (fE _ _) ?_)
 |(with_reducible first|refine bm fun hc=>?_|refine bn fun hc=>?_|refine bo (fun hc=>?_) fun hc=>?_)<;>(try simp only[hc,bs,↓reduceIte]at h)<;>try simp only[hc]
 |(with_reducible refine aE hQ ?_;(try cases h);simp only[aR,aS,bC,bD,go_sem,hD,hY,hZ,gA,x1,x2,b1,b3,b5,nb,bv];try exact cb)
 | (cases h;done))
   (refine gy hQ ?_;simp only[aR,aS,bC,bD,go_sem])
   exact⟨rfl,y3,⟨_,vg⟩,h3.sub mX⟩
 rw[if_neg (by simp[b5])]at hQ
 rcases Bool.eq_false_or_eq_true (it.s.kind==6)with b6|b6
 ·rw [if_pos b6]at hQ
  rcases Bool.eq_false_or_eq_true (v==0)with bv|bv
  ·rw [if_pos bv]at hQ
   repeat' (first
 |simp only[go_sem,hD,hY,hZ,gA,x1,x2,b1,b3,b5,b6,nb,bv]
 |(with_reducible refine CU (fT _ _) ?_)
 |(with_reducible refine CU (fE _ _) ?_)
 |(with_reducible first|refine bm fun hc=>?_|refine bn fun hc=>?_|refine bo (fun hc=>?_) fun hc=>?_)<;>(try simp only[hc,bs,↓reduceIte]at h)<;>try simp only[hc]
 |(with_reducible refine aE hQ ?_;(try cases h);simp only[aR,aS,bC,bD,go_sem,hD,hY,hZ,gA,x1,x2,b1,b3,b5,b6,nb,bv];try exact cb)
 | (cases h;done))
   (refine gy hQ ?_;simp only[aR,aS,bC,bD,go_sem])
   exact⟨rfl,y3,⟨_,vg⟩,h3.sub mX⟩
  ·rw [if_neg (by simp [bv])]at hQ
   repeat' (first
 |simp only[go_sem,hD,hY,hZ,gA,x1,x2,b1,b3,b5,b6,nb,bv]
 |(with_reducible refine CU (fT _ _) ?_)
 |(with_reducible refine CU (fE _ _) ?_)
 |(with_reducible first|refine bm fun hc=>?_|refine bn fun hc=>?_|refine bo (fun hc=>?_) fun hc=>?_)<;>(try simp only[hc,bs,↓reduceIte]at h)<;>try simp only[hc]
 |(with_reducible refine aE hQ ?_;(try cases h);simp only[aR,aS,bC,bD,go_sem,hD,hY,hZ,gA,x1,x2,b1,b3,b5,b6,nb,bv];try exact cb)
 | (cases h;done))
   (refine gy hQ ?_;simp only[aR,aS,bC,bD,go_sem])
   exact⟨rfl,y3,⟨_,vg⟩,h3.sub mX⟩
 rw[if_neg (by simp[b6])]at hQ
 repeat' (first
 |simp only[go_sem,hD,hY,hZ,gA,x1,x2,b1,b3,b5,b6]
 |(with_reducible first|refine bm fun hc=>?_|refine bn fun hc=>?_|refine bo (fun hc=>?_) fun hc=>?_)<;>(try simp only[hc,bs,↓reduceIte]at h)<;>try simp only[hc]
 |(with_reducible refine aE hQ ?_;(try cases h);simp only[aR,aS,bC,bD,go_sem,hD,hY,hZ,gA,x1,x2,b1,b3,b5,b6];try exact cb)
 |(cases h;done))
 (refine gy hQ ?_;simp only[aR,aS,bC,bD,go_sem])
 exact⟨rfl,y3,⟨_,vg⟩,h3.sub mX⟩
end
end Go.Abs
namespace Go.Abs
set_option maxRecDepth 8000
open Go.Proofs
section
variable {p:Pg} {T W:List Int} {y:Lay} {m:Mc} {loc:List (Nat×List D)} {s:St}
theorem C4 : ∀ (l:List Ar) (m:Mc) (out:List Nat),(Mc.args l m out).2.out=m.out∧(Mc.args l m out).2.trace=m.trace
 | [],m,out=>⟨rfl,rfl⟩
 | a::l,m,out=>by
  have hw:=jk m a.x
  simp only[Mc.args]
  by_cases c:a.ref=true
  ·rw[if_pos c];exact C4 l m _
  ·rw [if_neg c]
   by_cases c2:(m.bJ a.x).1.2=true
   ·rw [if_pos c2]
    obtain⟨h1,h2⟩:=C4 l {(m.bJ a.x).2 with mem:=(m.bJ a.x).2.mem++ [(m.bJ a.x).1.1]} (out++ [(m.bJ a.x).2.mem.length])
    exact⟨h1.trans hw.2.2.2.2.1,h2.trans hw.2.2.2.2.2⟩
   ·rw[if_neg c2];exact⟨hw.2.2.2.2.1,hw.2.2.2.2.2⟩
structure QY (p:Pg) (fr:Fr) (v:Sm):Prop where
 said:v.mQ
 args : ∀ a∈v.args,a.x.texts∧a.x.size<1000000∧(a.ref=true→∃ k,vh fr a.name k)
 proc : ∃ (j:Nat) (q:Pc),p.at v.proc=(j:Int)∧p.procs[j]? = some q∧p.find q.name=some q
theorem QZ (hp:p.iU) (T8:p.may=true) (h:Inv p T W y m loc s) {fr:Fr} {r:List Fr} (ht:mr m fr r) (hz:G2 p T W m) (hg:p.globals.length≤m.mem.length) {v:Sm} (hd:QY p fr v) :
 bG Tryz.prog oA [.ptr 0 0, .agg (bk v)] s (Rl p T W (.int .i64 (m.call p W v).1) (m.call p W v).2 (fun _=>True) loc):=by
 have h1:=h.new (bk v)
 have Hp:2≤s.av.length:=by have:=(List.getElem?_eq_some_iff.1 h.t1).1;omega
 generalize hn:s.ah.length=n at h1
 generalize Kn:s.av.length=tk at Hp
 have Aj:v.args.length<1000000:=by have:=hd.said.2.2;have:=Ar.eR v.args;omega
 have aud:=ht.st
 refine bG.tL yo rfl fun B Q hB hQ=>?_
 have⟨hD,hY,hZ,gA⟩:=bS
 have loop : ∀ (rest:List Ar) (k:Nat) (m1:Mc) (out:List Nat) (y1:Lay) (s1:St),v.args.drop k=rest→Mc.args v.args m [] = Mc.args rest m1 out→m1.st=m.st→m1.trace=m.trace∧m1.out=m.out→m.mem.length≤m1.mem.length→out.length=k∧k≤v.args.length→(∀ c∈out,c<m1.mem.length)→
  Inv p T W y1 m1 ((n,bk v)::loc) s1→s1.av[tk]? = some (some out.length)→
  bq Tryz.prog B 67 QBY (km 0 (nw (jQ Tryz.prog B 67 QCD Q) Q))
   [(0, .ptr 0 0),(3, .ptr n 0),(5, .slice (.tok tk) 1 (out.map fun c=>e9 (y1.κ.getD c 0))),(12, .slice .shared 6 (v.args.map eg)),(13, .int .i64 (v.args.length:Int)),(14, .int .i64 (k:Int))] s1:=by
  intro rest
  induction rest with
  | nil=>
   intro k m1 out y1 s1 FQ mR yX z6 uW vv o5 h2 T9
   have hD:=drop_nil FQ
   have AG:mr m1 fr r:=⟨by rw[yX];exact ht.st,ht.len,ht.names,ht.vars⟩
   obtain⟨so,g,cells,o,e1,e2,e3,e4,e5⟩:=h2.T2 AG.st
   have jj:=h2.jm
   rw[ff,e1]at jj
   have sV:=(h2.loc (n,bk v) (by simp)).1
   have kL:=h2.tR
   have Fq:m.call p W v=if m1.st.length > 100 then(-1,{m1 with fin:=5})else(m1.event W v.id []).open p (p.at v.proc) out v.id:=by
    unfold Mc.call
    rw[mR]
    rfl
   have hlen:m1.st.length=r.length+1:=by rw[AG.st];rfl
   rw[Fq,hlen]at hQ
   simp only at sV
   refine bq.kC ?_
   by_cases To:r.length+1 > 100
   ·have Ec:decide (((r.length+1:Nat):Int) > 100)=true:=by simp;omega
    rw[if_pos To]at hQ
    have h3:=h2.s9 (m':= {m1 with fin:=5}) rfl rfl h2.t0 h2.t1
    rw[ff,e1]at h3
    simp only at h3
    repeat' (first
 |simp only[go_sem,hD,hY,hZ,gA,jj,sV,Ec,kL]
 |(with_reducible first|refine bm fun hc=>?_|refine bn fun hc=>?_|refine bo (fun hc=>?_) fun hc=>?_)<;>(try simp only[hc,bs,↓reduceIte]at h)<;>try simp only[hc]
 |(with_reducible refine aE hQ ?_;(try cases h);simp only[aR,aS,bC,bD,go_sem,hD,hY,hZ,gA,jj,sV,Ec,kL];try exact cb)
 | (cases h;done))
    (refine gy hQ ?_;simp only[aR,aS,bC,bD,go_sem])
    exact⟨rfl,y1,trivial,h3.sub fun q mq=>List.mem_cons_of_mem _ mq⟩
   ·have Ec:decide (((r.length+1:Nat):Int) > 100)=false:=by simp;omega
    rw[if_neg To]at hQ
    have c1:=vf h2 hz.W (by rw[z6.1];exact hz.trace) v.id
    repeat' (first
 |simp only[go_sem,hD,hY,hZ,gA,jj,sV,Ec,kL]
 |(with_reducible first|refine bm fun hc=>?_|refine bn fun hc=>?_|refine bo (fun hc=>?_) fun hc=>?_)<;>(try simp only[hc,bs,↓reduceIte]at h)<;>try simp only[hc]
 |(with_reducible refine aE hQ ?_;(try cases h);simp only[aR,aS,bC,bD,go_sem,hD,hY,hZ,gA,jj,sV,Ec,kL];try exact cb)
 | (cases h;done))
    refine CR c1 fun d s3 h3=>?_
    obtain⟨rfl,y3,rfl,h3⟩:=h3
    have he:=fw W m1 v.id []
    obtain⟨j,q,j1,j2,j3⟩:=hd.proc
    obtain⟨y4,s4,hF,h4⟩:=K0 h3 hp T8 j2 j3 (by rw[he.1,hlen];have:=ht.len;omega) (l:=out) (by rw[he.2.1];exact o5) (by omega) (by rw[he.2.1];omega) v.id
    have hF':=fun g:Tag=>bG.pg (.cons (Wk.refl _) (.cons (Wk.refl _) (.cons (Wk.shared g 1 _) (iZ.refl _)))) hF
    have hF2:aG Tryz.prog iT [.ptr 0 0, .int .i64 (j:Int), .slice (.tok tk) 1 (out.map fun c=>e9 (y3.κ.getD c 0)), .int .i64 v.id] s3 _ s4:=hF' _
    have cP:=fun s=>DM (p:=p) (by have:=hp.procs.1;omega) v.proc s
    have nP:=h3.jm
    rw[ff]at nP
    have hx3:=(h3.loc (n,bk v) (by simp)).1
    simp only at hx3
    rw[j1]at hQ cP
    repeat' (first
 |simp only[go_sem,hD,hY,hZ,gA,nP,hx3]
 |(with_reducible refine CU (cP _) ?_)
 |(with_reducible refine CU (hF2) ?_)
 |(with_reducible first|refine bm fun hc=>?_|refine bn fun hc=>?_|refine bo (fun hc=>?_) fun hc=>?_)<;>(try simp only[hc,bs,↓reduceIte]at h)<;>try simp only[hc]
 |(with_reducible refine aE hQ ?_;(try cases h);simp only[aR,aS,bC,bD,go_sem,hD,hY,hZ,gA,nP,hx3];try exact cb)
 | (cases h;done))
    (refine gy hQ ?_;simp only[aR,aS,bC,bD,go_sem])
    exact⟨rfl,y4,trivial,h4.sub fun q mq=>List.mem_cons_of_mem _ mq⟩
  | cons a rest ih=>
   intro k m1 out y1 s1 FQ mR yX z6 uW vv o5 h2 T9
   obtain⟨hY,g2,hD,g4⟩:=drop_cons FQ
   have cf:k<4611686018427387904:=by omega
   obtain⟨a1,a2,a3⟩:=hd.args a (List.mem_of_getElem? hY)
   have AG:mr m1 fr r:=⟨by rw[yX];exact ht.st,ht.len,ht.names,ht.vars⟩
   have h3:=h2.new (eg a)
   have zq : ∀ z:List D,(s1.ah++ [z]).set s1.ah.length (eg a)=s1.ah++ [eg a]:=fun z=>by simp
   have zg : ∀ z:List D,(s1.ah++ [z])[s1.ah.length]? = some z:=fun z=>by simp
   have eA : ∀ (x:Nat) (os:List (List D)),gZ 1 8 (.slice (.tok tk) 1 (out.map fun c=>e9 (y1.κ.getD c 0))) (.slice .full 1 [[.ptr x 0]]) ⟨os,s1.av⟩=some (.slice (.tok tk) 1 ((out.map fun c=>e9 (y1.κ.getD c 0))++ [e9 x]),⟨os,s1.av.set tk (some (out.length+1))⟩):=fun x os=>by
    rw[oz (size:=1) (by simp only[List.length_map,List.length_singleton];unfold bH;omega) (by simpa using T9)]
    simp[e9]
   have C5 : ∀ k':Nat,(s1.av.set tk (some k'))[0]? = s1.av[0]? ∧(s1.av.set tk (some k'))[1]? = s1.av[1]? ∧(s1.av.set tk (some k'))[tk]? = some (some k'):=fun k'=>
    ⟨List.getElem?_set_ne (by omega),List.getElem?_set_ne (by omega),by simp[(List.getElem?_eq_some_iff.1 T9).1]⟩
   refine bq.kC ?_
   rcases Bool.eq_false_or_eq_true a.ref with b|b
   ·obtain⟨c,hc⟩:=a3 b
    have Jg:=hc.cell AG.top
    obtain⟨j,hj,A2⟩:=hc
    have c1:=Bz h3 AG.st AG.len AG.names hj A2
    obtain⟨hκ,v0,gm,_⟩:=cell_of h2 AG.st A2
    have zb:=(List.getElem?_eq_some_iff.1 gm).1
    repeat' (first
 |simp only[go_sem,hD,hY,hZ,gA,hY,zq,zg,b,eA]
 |(with_reducible refine CU (c1) ?_)
 |(with_reducible first|refine bm fun hc=>?_|refine bn fun hc=>?_|refine bo (fun hc=>?_) fun hc=>?_)<;>(try simp only[hc,bs,↓reduceIte]at h)<;>try simp only[hc]
 |(with_reducible refine aE hQ ?_;(try cases h);simp only[aR,aS,bC,bD,go_sem,hD,hY,hZ,gA,hY,zq,zg,b,eA];try exact cb)
 | (cases h;done))
    have:=ih (k+1) m1 (out++ [c]) y1 ⟨s1.ah++ [eg a],s1.av.set tk (some (out.length+1))⟩ g2 (by rw[mR];simp only[Mc.args,b,if_true,Jg]) yX z6 uW ⟨by simp[vv.1],g4⟩ (fun x mx=>by
     rcases List.mem_append.1 mx with mx|mx
     ·exact o5 x mx
     ·rw[List.mem_singleton.1 mx];exact zb) ((h3.sub fun q mq=>List.mem_cons_of_mem _ mq).keep (fun _ _ e=>e) (C5 _).1 (C5 _).2.1) (by simpa using (C5 _).2.2)
    refine bq.o7 ?_ this
    simp only[go_sem,aJ cf,List.map_append,List.map_cons,List.map_nil]
    repeat' (first|exact Ok.out|with_reducible refine iJ ?_ ?_)
   ·have c1:=C1 h3 AG a2 a1
    repeat' (first
 |simp only[go_sem,hD,hY,hZ,gA,hY,zq,zg,b]
 |(with_reducible first|refine bm fun hc=>?_|refine bn fun hc=>?_|refine bo (fun hc=>?_) fun hc=>?_)<;>(try simp only[hc,bs,↓reduceIte]at h)<;>try simp only[hc]
 |(with_reducible refine aE hQ ?_;(try cases h);simp only[aR,aS,bC,bD,go_sem,hD,hY,hZ,gA,hY,zq,zg,b];try exact cb)
 | (cases h;done))
    refine CR c1 fun d s2 h4=>?_
    obtain⟨⟨rfl,y2,vg,h4⟩,uH⟩:=h4
    have hw:=jk m1 a.x
    simp only at uH
    rcases Bool.eq_false_or_eq_true (m1.bJ a.x).1.2 with bw|bw
    ·have QW:(m1.bJ a.x).2=m1:=by
      unfold Mc.bJ
      dsimp only
      rw[if_pos (show(a.x.bJ m1.top.names m1.cB).2=true from bw)]
     rw[QW]at h4
     have yq : ∀ z:List D,(s2.ah++ [z]).set s2.ah.length [.int .i64 (m1.bJ a.x).1.1] = s2.ah++ [[.int .i64 (m1.bJ a.x).1.1]]:=fun z=>by simp
     have yg : ∀ z:List D,(s2.ah++ [z])[s2.ah.length]? = some z:=fun z=>by simp
     rw[← uH]at eA C5
     have h5:=h4.alR (m1.bJ a.x).1.1 (by omega)
     have hyκ:y2.κ=y1.κ:=by rw[vg]
     have afT:y1.κ.length=m1.mem.length:=h2.len
     repeat' (first
 |simp only[go_sem,hD,hY,hZ,gA,bw,yq,yg,eA]
 |(with_reducible first|refine bm fun hc=>?_|refine bn fun hc=>?_|refine bo (fun hc=>?_) fun hc=>?_)<;>(try simp only[hc,bs,↓reduceIte]at h)<;>try simp only[hc]
 |(with_reducible refine aE hQ ?_;(try cases h);simp only[aR,aS,bC,bD,go_sem,hD,hY,hZ,gA,bw,yq,yg,eA];try exact cb)
 | (cases h;done))
     have:=ih (k+1) {m1 with mem:=m1.mem++ [(m1.bJ a.x).1.1]} (out++ [m1.mem.length]) {y2 with κ:=y2.κ++ [s2.ah.length]} ⟨s2.ah++ [[.int .i64 (m1.bJ a.x).1.1]],s2.av.set tk (some (out.length+1))⟩ g2
      (by rw [mR];simp only [Mc.args,b,Bool.false_eq_true,if_false,bw,if_true,QW]) yX z6 (by simp;omega) ⟨by simp [vv.1],g4⟩ (fun x mx=>by
       simp only[List.length_append,List.length_singleton]
       rcases List.mem_append.1 mx with mx|mx
       ·have:=o5 x mx;omega
       ·rw[List.mem_singleton.1 mx];omega) ((h5.sub fun q mq=>List.mem_cons_of_mem _ mq).keep (fun _ _ e=>e) (C5 _).1 (C5 _).2.1) (by simpa using (C5 _).2.2)
     refine bq.o7 ?_ this
     have al0:(out.map fun c=>e9 ((y2.κ++ [s2.ah.length]).getD c 0))=out.map fun c=>e9 (y1.κ.getD c 0):=List.map_congr_left fun c mc=>by rw[hyκ,C3 (by have:=o5 c mc;omega)]
     have da:(y2.κ++ [s2.ah.length]).getD m1.mem.length 0=s2.ah.length:=by rw[hyκ, ← afT];simp[List.getD_eq_getElem?_getD]
     simp only[go_sem,aJ cf,List.map_append,List.map_cons,List.map_nil,al0,da]
     repeat' (first|exact Ok.out|with_reducible refine iJ ?_ ?_)
    ·repeat' (first
 |simp only[go_sem,hD,hY,hZ,gA,bw]
 |(with_reducible first|refine bm fun hc=>?_|refine bn fun hc=>?_|refine bo (fun hc=>?_) fun hc=>?_)<;>(try simp only[hc,bs,↓reduceIte]at h)<;>try simp only[hc]
 |(with_reducible refine aE hQ ?_;(try cases h);simp only[aR,aS,bC,bD,go_sem,hD,hY,hZ,gA,bw];try exact cb)
 |(cases h;done))
     (refine gy hQ ?_;simp only[aR,aS,bC,bD,go_sem])
     have Fq:m.call p W v=(-1,(m1.bJ a.x).2):=by
      unfold Mc.call
      rw[mR]
      simp only[Mc.args,b,Bool.false_eq_true,if_false,bw]
     rw[Fq]
     exact⟨rfl,y2,trivial,h4.sub fun q mq=>List.mem_cons_of_mem _ (List.mem_cons_of_mem _ mq)⟩
 have Wj:(s.ah++ [bk v])[n]? = some (bk v):=by simp[← hn]
 have l0:=loop v.args 0 m [] y ⟨s.ah++ [bk v],s.av++ [some 0]⟩ rfl rfl rfl ⟨rfl,rfl⟩ (Nat.le_refl _) ⟨rfl,Nat.zero_le _⟩ (by simp) (h1.av _) (by simp[← Kn])
 repeat' (first
 |simp only[go_sem,hD,hY,hZ,gA,Wj,hn]
 |(with_reducible first|refine bm fun hc=>?_|refine bn fun hc=>?_|refine bo (fun hc=>?_) fun hc=>?_)<;>(try simp only[hc,bs,↓reduceIte]at h)<;>try simp only[hc]
 |(with_reducible refine aE hQ ?_;(try cases h);simp only[aR,aS,bC,bD,go_sem,hD,hY,hZ,gA,Wj,hn];try exact cb)
 |(cases h;done))
 refine bq.wx 5 1 rfl ?_
 simp only[go_sem,hD,hY,hZ,gA]
 refine bq.o7 ?_ l0
 simp only[go_sem,Kn,List.map_nil]
 repeat' (first|exact Ok.out|with_reducible refine iJ ?_ ?_)
end
end Go.Abs
namespace Go.Abs
theorem Ua {v:Sm} (h:v.one=true) (hk:v.kind=1∨v.kind=2):v.name≠ []:=by
 intro e
 have hn:v.hasName=true:=by unfold Sm.hasName;rcases hk with hk|hk<;>simp[hk]
 unfold Sm.one at h
 split at h
 ·cases h
 ·rw [e,hn]at h
  simp[isName]at h
theorem Gb {v:Sm} (hk:v.kind≠10) (hn:v.name≠ []):v.name∈v.said:=by
 unfold Sm.said Sm.sh
 refine um (.inl ?_)
 rw[if_pos (by simp[hk,hn])]
 simp
theorem yS {name:aF} {f:Pc} : ∀ {l:List Pc},iF name l=some f→f.name=name
 |g::l,h=>by
  simp only[iF]at h
  split at h
  ·rename_i e;cases h;simpa using e
  ·exact yS h
mutual
theorem ach : ∀ s:Sm,∀ v∈s.pre,v.size≤s.size
 | ⟨id,kind,labels,name,proc,x,has,args,aY,aW⟩,v,m=>by
  rw[Sm.pH]at m
  rcases List.mem_cons.1 m with rfl|m
  ·exact Nat.le_refl _
  ·simp only [Sm.size]
   rcases List.mem_append.1 m with m|m
   ·have:=BA aY v m;omega
   ·have:=BA aW v m;omega
theorem BA : ∀ l:List Sm,∀ v∈Sm.cT l,v.size≤Sm.a8 l
 | [],v,m=>by simp[Sm.cT]at m
 |s::l,v,m=>by
  simp only[Sm.cT,List.mem_append]at m
  simp only[Sm.a8]
  rcases m with m|m
  ·have:=ach s v m;omega
  ·have:=BA l v m;omega
end
theorem E3 : ∀ l:List Sm,l.length≤Sm.a8 l
 | []=>Nat.le_refl _
 |s::l=>by
  have:=E3 l
  have h1:1≤s.size:=by cases s;simp only[Sm.size];omega
  simp only[Sm.a8,List.length_cons];omega
section
variable {p:Pg} {m:Mc} {a:Int}
theorem Jh (hO:p.iU) (h:oO p p.aX.L a m) (hl:m.st.length≤1000) : ∃ fr r f,mr m fr r∧p.procs[fr.proc.toNat]? = some f∧fr.names=p.globals++f.own∧fr.vars.length=fr.names.length∧m.top=fr:=by
 obtain⟨fr,r,e⟩:=h.st.ne
 have ht:m.top=fr:=by simp[Mc.top,e]
 obtain⟨f,h1,h2,h3,h4,h5⟩:=h.fr fr (by rw[e];exact List.mem_cons_self ..)
 have hf:=List.mem_of_getElem? h1
 have s1:=Pc.dr hf
 have s2:=hO.sz
 simp only[Pg.size]at s2
 have hn:fr.names.length<1000000:=by
  rw[h3]
  have s3:=hO.small hf
  simp only[Pc.size]at s1
  simp only[List.length_append,Pc.own,Pc.sP,List.length_map]
  have:=s3.par;have:=s3.vars
  omega
 rw[e]at hl
 exact⟨fr,r,f,⟨e,by simp at hl;omega,hn,by omega⟩,h1,h3,h4,ht⟩
theorem E4 {fr:Fr} (hv:fr.vars.length=fr.names.length) {n:aF} (hn:n∈fr.names) : ∃ k,vh fr n k:=by
 obtain⟨j,h1,h2⟩:=I9 (k:=0) hn
 exact⟨_,j,by simpa using h1,List.getElem?_eq_getElem (by omega)⟩
theorem Yj {fr:Fr} (h:oO p p.aX.L a m) (ht:m.top=fr) (hR:p.Right) (ha:a≠ -1) {f:Pc} (hf:p.procs[fr.proc.toNat]? = some f):AZ p p.aX.L (fR p.aX.L a) f∧(fR p.aX.L a).proc=fr.proc∧fR p.aX.L a∈p.aX.L∧
 ∃ c:Nat,a=(c:Int)+1∧p.aX.L[c]? = some (fR p.aX.L a):=by
 have hm:=h.at_.resolve_left ha
 have gU:=yG (L:=p.aX.L) (.inr ⟨hm.1,hm.2.1⟩) ha
 obtain⟨f',o⟩:=(qj hR).im _ gU
 have hp:(fR p.aX.L a).proc=fr.proc:=by rw[← ht];exact hm.2.2
 have:f'=f:=by have:=o.proc.1;rw[hp,hf]at this;exact(Option.some.inj this).symm
 subst this
 have h1:=hm.1
 have h2:=hm.2.1
 refine⟨o,hp,gU,(a - 1).toNat,by omega, ?_⟩
 unfold fR
 rw[List.getD_eq_getElem?_getD,List.getElem?_eq_getElem (show(a - 1).toNat<p.aX.L.length by omega)];rfl
theorem K1 (hO:p.iU) (hR:p.Right) {x:Im} {f:Pc} {fr:Fr} (hx:AZ p p.aX.L x f) (hn:fr.names=p.globals++f.own) (hv:fr.vars.length=fr.names.length):aca p fr x:=by
 have hf:=List.mem_of_getElem? hx.proc.1
 have pw:x.s∈p.pre:=by
  simp only[Pg.pre,List.mem_flatten,List.mem_map];exact⟨_,⟨f,hf,rfl⟩,hx.mem⟩
 have dK:=BA f.body x.s hx.mem
 have s1:=Pc.dr hf
 have s2:=hO.sz
 simp only[Pg.size]at s2
 simp only[Pc.size]at s1
 have hs:Sm.a8 x.s.aY+Sm.a8 x.s.aW≤x.s.size:=by
  cases x with
  |mk s _ _ _ _=>cases s;simp only[Sm.size];omega
 refine⟨hO.said hf _ hx.mem,fun hk=>?_,fun hk=>?_,fun hk=>?_, ?_, ?_⟩
 ·have hl:=hx.loop (.inl hk)
  have h1:=hl.1
  have h2:=hl.2.1
  exact⟨(x.loop - 1).toNat,_,by omega,List.getElem?_eq_getElem (by omega)⟩
 ·obtain⟨i,hi⟩:=Int.eq_ofNat_of_zero_le hx.proc.2
  exact⟨i,f,hi,by have:=hx.proc.1;rwa [hi,Int.toNat_natCast]at this⟩
 ·refine E4 hv ?_
  rw[hn]
  exact yK hR hx (Gb (by rcases hk with hk|hk<;>omega) (Ua (X7 hR.may _ pw) hk))
 ·have:=E3 x.s.aY;omega
 ·have:=E3 x.s.aW;omega
theorem Q1 (hO:p.iU) (hR:p.Right) {x:Im} {f:Pc} {fr:Fr} (hx:AZ p p.aX.L x f) (hk:x.s.kind=4) (hn:fr.names=p.globals++f.own) (hv:fr.vars.length=fr.names.length):QY p fr x.s:=by
 have hf:=List.mem_of_getElem? hx.proc.1
 have rl:=hO.said hf _ hx.mem
 have pw:x.s∈p.pre:=by
  simp only[Pg.pre,List.mem_flatten,List.mem_map];exact⟨_,⟨f,hf,rfl⟩,hx.mem⟩
 refine⟨rl,fun b mb=>⟨rl.2.1 b mb, ?_,fun hr=>?_⟩, ?_⟩
 ·have:=rl.2.2
  have key : ∀ l:List Ar,b∈l→b.x.size≤Ar.a8 l:=fun l=>by
   induction l with
   |nil=>intro m;cases m
   |cons c l ih=>
    intro m
    simp only[Ar.a8]
    rcases List.mem_cons.1 m with rfl|m
    ·omega
    ·have:=ih m;omega
  have:=key _ mb
  omega
 ·refine E4 hv ?_
  rw[hn]
  exact yK hR hx (um (.inr ⟨b,mb,hr,rfl⟩))
 ·have iX:=hR.fits _ pw (by simp [hk])
  obtain⟨q,hq⟩:=F5 iX
  obtain⟨j,h1,h2⟩:=G1 (k:=0) hq
  exact⟨j,q,by simpa[Pg.at]using h1,h2,by rw[yS hq];exact hq⟩
theorem N1 (hO:p.iU) (hR:p.Right) (h:oO p p.aX.L a m) (hl:m.st.length≤1000) {fr:Fr} {r:List Fr} (ht:mr m fr r) :
 fr.call=0∨∃ (c:Nat) (it:Im) (tQ:Fr) (r2:List Fr),fr.call=(c:Int)+1∧p.aX.L[c]? = some it∧mr {m with st:=r} tQ r2∧(it.s.name≠ []→∃ k,vh tQ it.s.name k):=by
 have hs:=h.st
 have jr:=ht.st
 rw[jr]at hs
 cases r with
 |nil=>exact .inl hs
 | cons tQ r2=>
  obtain⟨⟨h1,F2⟩,h2⟩:=hs
  have e1:=h1.1
  have e2:=h1.2.1
  refine .inr ⟨(fr.call - 1).toNat,fR p.aX.L fr.call,tQ,r2,by omega, ?_, ?_,fun hn=>?_⟩
  ·unfold fR
   rw[List.getD_eq_getElem?_getD,List.getElem?_eq_getElem (show(fr.call - 1).toNat<p.aX.L.length by omega)];rfl
  ·have h3:oO p p.aX.L (-1) {m with st:=tQ::r2}:=⟨h2,fun q hq=>h.fr q (by rw [jr];exact List.mem_cons_of_mem _ hq), .inl rfl,h.tw⟩
   obtain⟨KZ,r',f',t,_⟩:=Jh hO h3 (by rw[jr]at hl;simp at hl ⊢;omega)
   have:=t.st
   cases this
   exact t
  ·obtain⟨f,g1,g2,g3,g4,g5⟩:=h.fr tQ (by rw [jr];simp)
   have gU:fR p.aX.L fr.call∈p.aX.L:=yG (.inr ⟨e1,e2⟩) (by omega)
   obtain⟨f',o⟩:=(qj hR).im _ gU
   have:f'=f:=by have:=o.proc.1;rw[h1.2.2,g1]at this;exact(Option.some.inj this).symm
   subst this
   refine E4 g4 ?_
   rw[g3]
   exact yK hR o (Gb (by omega) hn)
end
end Go.Abs
namespace Go.Abs
structure wR (m:Mc):Prop where
 steps:0≤m.steps
 trace:(m.trace.length:Int)≤m.steps
 out:(m.out.length:Int)≤m.steps
 reads:0≤m.reads∧m.reads≤m.steps
 st:m.st.length≤101
structure A3 (m m':Mc):Prop where
 trace:m'.trace.length≤m.trace.length+1
 out:m'.out.length≤m.out.length+1
 reads:m'.reads=m.reads∨m'.reads=m.reads+1
 steps:m'.steps=m.steps
theorem Q2 (W:List Int) (m:Mc) (id:Int) (cB:List Int):(m.event W id cB).trace.length≤m.trace.length+1:=by
 unfold Mc.event
 split<;>simp
theorem lO (W:List Int) (m:Mc) (id:Int) (cB:List Int):A3 m (m.event W id cB):=by
 have h:=fw W m id cB
 exact⟨Q2 W m id cB,by rw[h.2.2.2.2.2];omega, .inl h.2.2.2.2.1,h.2.2.2.1⟩
theorem Ed (m:Mc) (x:Ex):A3 m (m.bJ x).2:=by
 have h:=jk m x
 exact⟨by rw[h.2.2.2.2.2];omega,by rw[h.2.2.2.2.1];omega, .inl h.2.2.2.1,h.2.2.1⟩
theorem Gc (p:Pg) (m:Mc) (i:Int) (l:List Nat) (c:Int):(m.open p i l c).2.trace=m.trace∧(m.open p i l c).2.out=m.out∧(m.open p i l c).2.reads=m.reads∧(m.open p i l c).2.steps=m.steps:=by
 unfold Mc.open
 split<;>exact⟨rfl,rfl,rfl,rfl⟩
theorem A4 : ∀ (l:List Ar) (m:Mc) (out:List Nat),(Mc.args l m out).2.reads=m.reads∧(Mc.args l m out).2.steps=m.steps
 | [],m,out=>⟨rfl,rfl⟩
 | a::l,m,out=>by
  have hw:=jk m a.x
  simp only[Mc.args]
  by_cases c:a.ref=true
  ·rw[if_pos c];exact A4 l m _
  ·rw [if_neg c]
   by_cases c2:(m.bJ a.x).1.2=true
   ·rw [if_pos c2]
    obtain⟨h1,h2⟩:=A4 l {(m.bJ a.x).2 with mem:=(m.bJ a.x).2.mem++ [(m.bJ a.x).1.1]} (out++ [(m.bJ a.x).2.mem.length])
    exact⟨h1.trans hw.2.2.2.1,h2.trans hw.2.2.1⟩
   ·rw[if_neg c2];exact⟨hw.2.2.2.1,hw.2.2.1⟩
theorem Q3 (p:Pg) (W:List Int) (m:Mc) (v:Sm):A3 m (m.call p W v).2∧((m.call p W v).2.st.length≤m.st.length∨(m.call p W v).2.st.length≤101):=by
 have h1:=C4 v.args m []
 have h2:=A4 v.args m []
 have h3:=(xK v.args m []).1
 unfold Mc.call
 generalize Mc.args v.args m [] = r at *
 obtain⟨o,m1⟩:=r
 dsimp only at h1 h2 h3
 cases o with
 |none=>exact⟨⟨by simp[h1.2],by simp[h1.1], .inl h2.1,h2.2⟩, .inl (by simp[h3])⟩
 | some l=>
  dsimp only
  by_cases c:m1.st.length > 100
  ·rw[if_pos c];exact⟨⟨by simp[h1.2],by simp[h1.1], .inl h2.1,h2.2⟩, .inl (by simp[h3])⟩
  ·rw [if_neg c]
   have e1:=lO W m1 v.id []
   have e2:=Gc p (m1.event W v.id []) (p.at v.proc) l v.id
   have e3:=(Bu p (m1.event W v.id []) (p.at v.proc) l v.id).1
   have e4:=(fw W m1 v.id []).1
   refine⟨⟨by rw[e2.1, ← h1.2];exact e1.trace,by rw[e2.2.1, ← h1.1];exact e1.out, ?_,by rw[e2.2.2.2,e1.steps,h2.2]⟩, .inr (by rw[e4]at e3;omega)⟩
   rw[e2.2.2.1, ← h2.1];exact e1.reads
theorem N2 (W:List Int) (m:Mc) (v:Sm):A3 m (m.iV W v).2:=by
 have hw:=jk m v.x
 unfold Mc.iV
 split
 ·dsimp only
  split
  ·have e:=lO W (m.bJ v.x).2 v.id [(m.bJ v.x).1.1]
   exact⟨by rw[← hw.2.2.2.2.2];exact e.trace,by rw[← hw.2.2.2.2.1];exact e.out,by rw[← hw.2.2.2.1];exact e.reads,e.steps.trans hw.2.2.1⟩
  ·exact Ed m v.x
 ·exact lO W m v.id []
theorem Yk (p:Pg) (L:List Im) (T W:List Int) (m:Mc) (it:Im):A3 m (m.do p L T W it).2:=by
 have hw:=jk m it.s.x
 unfold Mc.do
 dsimp only
 split
 ·exact lO W m _ _
 split
 ·exact lO W m _ _
 split
 ·exact lO W m _ _
 split
 ·split
  ·exact⟨by simp,by simp, .inl rfl,rfl⟩
  ·rename_i n _
   have e:=lO W (({m with reads:=m.reads+1} : Mc).set it.s.name n) it.s.id [n]
   have e2:=(fw W (({m with reads:=m.reads+1} : Mc).set it.s.name n) it.s.id [n])
   exact⟨e.trace,e.out, .inr e2.2.2.2.2.1,e2.2.2.2.1⟩
 split
 ·have e:=lO W (m.bJ it.s.x).2 it.s.id [(m.bJ it.s.x).1.1]
  have e2:=fw W (m.bJ it.s.x).2 it.s.id [(m.bJ it.s.x).1.1]
  have k:A3 m ((m.bJ it.s.x).2.event W it.s.id [(m.bJ it.s.x).1.1]):=⟨by rw[← hw.2.2.2.2.2];exact e.trace,by rw[← hw.2.2.2.2.1];exact e.out,by rw[← hw.2.2.2.1];exact e.reads,e.steps.trans hw.2.2.1⟩
  split
  ·exact⟨k.trace,k.out,k.reads,k.steps⟩
  split
  ·exact⟨k.trace,by simp[e2.2.2.2.2.2,hw.2.2.2.2.1],k.reads,k.steps⟩
  split
  ·exact k
  split
  ·exact k
  ·exact k
 ·exact Ed m it.s.x
theorem Ee (L:List Im) (m:Mc) (g:Int):(m.close L g).2.trace=m.trace∧(m.close L g).2.out=m.out∧(m.close L g).2.reads=m.reads∧(m.close L g).2.steps=m.steps∧(m.close L g).2.st=m.st.tail:=by
 unfold Mc.close
 dsimp only
 split
 ·exact⟨rfl,rfl,rfl,rfl,rfl⟩
 ·split<;>exact⟨rfl,rfl,rfl,rfl,rfl⟩
theorem wR.less {m m1:Mc} (h:wR m) (k:A3 {m with steps:=m.steps+1} m1) (hs:m1.st.length≤101):wR m1:=by
 have h1:=h.steps;have h2:=h.trace;have h3:=h.out;have h4:=h.reads
 have k1:=k.trace;have k2:=k.out;have k3:=k.reads;have k4:=k.steps
 dsimp only at k1 k2 k3 k4
 exact⟨by omega,by omega,by omega,by omega,hs⟩
theorem wR.close {L:List Im} {m:Mc} (h:wR m) (g:Int):wR (m.close L g).2:=by
 obtain⟨h1,h2,h3,h4,h5⟩:=Ee L m g
 exact⟨by rw[h4];exact h.steps,by rw[h1,h4];exact h.trace,by rw[h2,h4];exact h.out,by rw[h3,h4];exact h.reads,by rw[h5];have:=h.st;simp;omega⟩
theorem wR.run {p:Pg} {T W:List Int} {m:Mc} (h:wR m) (hs:m.steps≤1000000) (hO:p.iU) (hW:W.length<1000000) (hT:T.length<1000000):G2 p T W m:=by
 obtain⟨rj,qX,qW⟩:=hO.procs
 have:=oJ p
 have h2:=h.trace;have h3:=h.out;have h4:=h.reads
 exact⟨hW,hT,by omega,by omega,by omega,by omega,by omega⟩
set_option maxRecDepth 8000
open Go.Proofs
theorem Yl {p:Pg} (h:p.iU) (nn:(p.scope.1==0)=true) (s:St):aG Tryz.prog qL [.agg (cG p)] s (.dt (fl p) 0) s:=by
 refine aG.pure ?_ (by simp[D.bI,D.ok,kp]) (by simp[D.ok,tv]) s
 obtain⟨rj,qX,qW⟩:=h.procs
 have o5:=fun s=>uZ h s
 have da:=fun s=>Bm (p:=p) (by omega) s
 have b0:(p.scope.1 != 0) = !(p.scope.1==0):=rfl
 rw[nn]at b0
 unfold S0
 refine aG.go xw rfl fun B Q hB hQ=>?_
 have⟨hD,hY,hZ,gA⟩:=bS
 repeat' (first
 |simp only[go_sem,hD,hY,hZ,gA,b0,Bool.not_true]
 |(with_reducible refine CU (o5 _) ?_)
 |(with_reducible refine CU (da _) ?_)
 |(with_reducible refine aE hQ ?_;exact bg))
theorem Ym {p:Pg} (h:p.iU) (nn:(p.scope.1==0)=false) (s:St):aG Tryz.prog qL [.agg (cG p)] s .dN s:=by
 refine aG.pure ?_ (by simp[D.bI,D.ok,kp]) rfl s
 have o5:=fun s=>uZ h s
 have b0:(p.scope.1 != 0) = !(p.scope.1==0):=rfl
 rw[nn]at b0
 unfold S0
 refine aG.go xw rfl fun B Q hB hQ=>?_
 have⟨hD,hY,hZ,gA⟩:=bS
 repeat' (first
 |simp only[go_sem,hD,hY,hZ,gA,b0,Bool.not_false]
 |(with_reducible refine CU (o5 _) ?_)
 |(with_reducible refine aE hQ ?_;exact bg))
mutual
theorem Ub {pr up next loop:Int} : ∀ (s:Sm) (m:Im),m∈s.u6 pr up next loop→m.proc=pr
 | ⟨id,kind,labels,name,pc,x,has,args,aY,aW⟩,m,h=>by
  simp only[Sm.u6]at h
  rcases List.mem_cons.1 h with rfl|h
  ·rfl
  ·rcases List.mem_append.1 h with h | h
   ·exact wb aY m h
   ·exact wb aW m h
theorem wb {pr up next loop:Int} : ∀ (l:List Sm) (m:Im),m∈Sm.jz pr up next loop l→m.proc=pr
 |s::l,m,h=>by
  simp only[Sm.jz]at h
  rcases List.mem_append.1 h with h|h
  ·exact Ub s m h
  ·exact wb l m h
end
theorem wS : ∀ a b:List Sm,gW (a++b)=gW a++gW b
 | [],b=>rfl
 |v::a,b=>by simp only[List.cons_append,gW,wS a b,List.append_assoc]
mutual
theorem Kc : ∀ s:Sm,(gW s.pre).length≤s.size
 |⟨id,kind,labels,name,pc,x,has,args,aY,aW⟩=>by
  have:=q9 aY;have:=q9 aW
  simp only[Sm.pre,gW,wS,List.length_append,Sm.size];omega
theorem q9 : ∀ l:List Sm,(gW (Sm.cT l)).length≤Sm.a8 l
 | []=>Nat.le_refl _
 |s::l=>by
  have:=Kc s;have:=q9 l
  simp only[Sm.cT,wS,List.length_append,Sm.a8];omega
end
theorem Q4 (seen l:List aF):(iG seen l).1.length≤seen.length+l.length:=(F3 l seen).2
theorem Uc {p:Pg} (h:p.iU) (s:St):aG Tryz.prog uM [.agg (cG p)] s (.agg [.int .i64 p.jump.1, .int .i64 p.jump.2]) s:=by
 refine aG.pure ?_ (by simp[D.bI,D.ok,kp]) rfl s
 obtain⟨rj,qX,qW⟩:=h.procs
 obtain⟨R,hR⟩ : ∃ R,p.jump=R:=⟨_,rfl⟩
 rw[hR]
 unfold Pg.jump at hR
 unfold S0
 rcases Bool.eq_false_or_eq_true (p.scope.1==0)with nn|nn
 case inr=>
  have hs:=fun s=>Ym h nn s
  simp only[nn,Bool.false_eq_true,if_false]at hR
  subst hR
  refine aG.go xq rfl fun B Q hB hQ=>?_
  have⟨hD,hY,hZ,gA⟩:=bS
  repeat' (first
 |simp only[go_sem,hD,hY,hZ,gA]
 |(with_reducible refine CU (hs _) ?_)
 |(with_reducible refine aE hQ ?_;exact bg))
 have hs:=fun s=>Yl h nn s
 have hb:=AP nn
 simp only[nn,if_true]at hR
 refine aG.go xq rfl fun B Q hB hQ=>?_
 have⟨hD,hY,hZ,gA⟩:=bS
 repeat' (first
 |simp only[go_sem,hD,hY,hZ,gA]
 |(with_reducible refine CU (hs _) ?_)
 |(with_reducible refine aE hQ ?_;exact bg))
 refine fi 2 0 (bq.ind (ι:=List Pc×Nat) (fun i=>p.procs.drop i.2=i.1∧xJ 7 (sm i.1)=R) (fun i=>i.1.length)
  (fun i=> [(1, .ptr 0 0),(2, .ptr 1 0),(3, .dt (fl p) 0),(16, .slice .shared 5 (p.procs.map cj)),(17, .int .i64 (p.procs.length:Int)),(18, .int .i64 (i.2:Int))]) (fun i=>⟨[cG p,[.int .i64 0, .int .i64 0]],[]⟩) ?_ (p.procs,0) ⟨rfl,hR⟩)
 clear hR
 rintro⟨rest,k⟩ ⟨h1,hR⟩ IH
 dsimp only at h1 hR
 cases rest with
 |nil=>
  have hD:=drop_nil h1
  simp only[sm,xJ]at hR
  subst hR
  repeat' (first
 |simp only[go_sem,hD,hY,hZ,gA]
 |(with_reducible refine aE hQ ?_;exact bg))
 | cons f rest=>
  obtain⟨hY,g2,hD,g4⟩:=drop_cons h1
  have cf:k<4611686018427387904:=by omega
  have zn:=List.mem_of_getElem? hY
  have xD:=fun s=>abF hb hY (by omega) s
  have pw:=qZ (k:Int) 0 (-1) 0 f.body
  have xC:=IT (k:Int) f
  have afU:=fun m=>wb (pr:=(k:Int)) (up:=0) (next:= -1) (loop:=0) f.body m
  have IV:=D3 h zn
  have u9:=F4 h zn
  have aci:(gW (Sm.cT f.body)).length≤900000:=by
   have h1:=q9 f.body
   have h2:=Pc.dr zn
   simp only[Pc.size]at h2
   omega
  rw[← pw]at aci
  generalize hI:Sm.jz (k:Int) 0 (-1) 0 f.body=I at *
  have hIl:I.length≤900000:=by rw[← pw,List.length_map]at IV;exact IV
  simp only[sm, ← xC]at hR
  obtain⟨J,hJ⟩ : ∃ J,sk f.labels f.fin [] (I.map Im.pair)=J:=⟨_,rfl⟩
  rw[hJ]at hR
  have hld:=fun(m:Im) (hm:m∈I) s=>X2 h hb hY m (afU m hm) s
  repeat' (first
 |simp only[go_sem,hD,hY,hZ,gA]
 |(with_reducible refine CU (xD _) ?_)
 | (with_reducible refine aE hQ ?_;exact bg))
  refine bq.wx 6 1 rfl ?_
  simp only[go_sem,hD,hY,hZ,gA]
  refine fi 3 1 (bq.ind (ι:=List Im×Nat×List aF×Nat) (fun i=>I.drop i.2.1=i.1∧sk f.labels f.fin i.2.2.1 (i.1.map Im.pair)=J∧i.2.2.2=i.2.2.1.length∧i.2.2.1.length+(gW (i.1.map Im.s)).length≤900000) (fun i=>i.1.length)
   (fun i=> [(1, .ptr 0 0),(2, .ptr 1 0),(3, .dt (fl p) 0),(5, .ptr 2 0),(6, .slice (.tok 0) 1 (i.2.2.1.map encStr)),(16, .slice .shared 5 (p.procs.map cj)),(17, .int .i64 (p.procs.length:Int)),(18, .int .i64 (k:Int)),
    (25, .slice .shared 17 (I.map dq)),(26, .int .i64 (I.length:Int)),(27, .int .i64 (i.2.1:Int))]) (fun i=>⟨[cG p,[.int .i64 0, .int .i64 0],cj f],[some i.2.2.2]⟩) ?_ (I,0,[],0) ⟨rfl,hJ,rfl,by simpa using aci⟩)
  clear hJ
  rintro⟨vZ,k2,seen,n2⟩ ⟨j1,j2,j3,j4⟩ DP
  dsimp only at j1 j2 j3 j4
  subst j3
  cases vZ with
  | nil=>
   have acj:=drop_nil j1
   simp only[List.map_nil,sk]at j2
   simp only[List.map_nil,gW,List.length_nil,Nat.add_zero]at j4
   have Gd:=fun {s:St} {t:Nat} (ht:s.av[t]? = some (some seen.length))=>QD (seen:=seen) (l:=f.fin) (by omega) ht
   obtain⟨P1,hP1⟩ : ∃ P1,iG seen f.fin=P1:=⟨_,rfl⟩
   rw[hP1]at j2 Gd
   rcases Bool.eq_false_or_eq_true P1.2 with c1|c1
   ·simp only [c1,if_true]at j2
    subst j2
    simp only at hR
    repeat' (first
 |simp only[go_sem,hD,hY,hZ,gA,acj,c1,Bool.not_true]
 |(with_reducible refine CU (Gd (by with_unfolding_all rfl)) ?_)
 | (with_reducible refine aE hQ ?_;exact bg))
    refine fj 2 0 ?_ ?_ (IH (rest,k+1) ⟨g2,hR⟩ (Nat.lt_succ_self _))
    ·(simp only[go_sem,hD,hY,hZ,gA,aJ cf];try exact cv)
    ·(simp only[go_sem,hD,hY,hZ,gA,aJ cf];try exact cv)
   ·simp only [c1,Bool.false_eq_true,if_false]at j2
    subst j2
    simp only[xJ]at hR
    subst hR
    repeat' (first
 |simp only[go_sem,hD,hY,hZ,gA,acj,c1,Bool.not_false]
 |(with_reducible refine CU (Gd (by with_unfolding_all rfl)) ?_)
 | (with_reducible refine aE hQ ?_;exact bg))
  | cons m vZ=>
   obtain⟨oM,j5,xE,j6⟩:=drop_cons j1
   have xF:k2<4611686018427387904:=by omega
   have K3:=List.mem_of_getElem? oM
   have V2:=fun s=>hld m K3 s
   simp only[List.map_cons,Im.pair,sk]at j2
   simp only[List.map_cons,gW,List.length_append]at j4
   have Gd:=fun {s:St} {t:Nat} (ht:s.av[t]? = some (some seen.length))=>QD (seen:=seen) (l:=m.s.labels) (by omega) ht
   have UQ:=Q4 seen m.s.labels
   obtain⟨P1,hP1⟩ : ∃ P1,iG seen m.s.labels=P1:=⟨_,rfl⟩
   rw[hP1]at j2 Gd UQ
   rcases Bool.eq_false_or_eq_true P1.2 with c1|c1
   ·rcases Bool.eq_false_or_eq_true (pT f.labels m.s m.loop)with c2 | c2
    ·simp only [c1,c2,if_true]at j2
     repeat' (first
 |simp only[go_sem,hD,hY,hZ,gA,oM,xE,c1,c2,Bool.not_true]
 |(with_reducible refine CU (Gd (by with_unfolding_all rfl)) ?_)
 |(with_reducible refine CU (V2 _) ?_)
 | (with_reducible refine aE hQ ?_;exact bg))
     refine fj 3 1 ?_ ?_ (DP (vZ,k2+1,P1.1,P1.1.length) ⟨j5,j2,rfl,by dsimp only;omega⟩ (Nat.lt_succ_self _))
     ·(simp only[go_sem,hD,hY,hZ,gA,aJ xF];try exact cv)
     ·(simp only[go_sem,hD,hY,hZ,gA,aJ xF];try exact cv)
    ·simp only [c1,c2,if_true,Bool.false_eq_true,if_false]at j2
     subst j2
     simp only[xJ]at hR
     subst hR
     repeat' (first
 |simp only[go_sem,hD,hY,hZ,gA,oM,xE,c1,c2,Bool.not_true,Bool.not_false]
 |(with_reducible refine CU (Gd (by with_unfolding_all rfl)) ?_)
 |(with_reducible refine CU (V2 _) ?_)
 | (with_reducible refine aE hQ ?_;exact bg))
   ·simp only [c1,Bool.false_eq_true,if_false]at j2
    subst j2
    simp only[xJ]at hR
    subst hR
    repeat' (first
 |simp only[go_sem,hD,hY,hZ,gA,oM,xE,c1,Bool.not_false]
 |(with_reducible refine CU (Gd (by with_unfolding_all rfl)) ?_)
 |(with_reducible refine CU (V2 _) ?_)
 |(with_reducible refine aE hQ ?_;exact bg))
theorem Ud (x:It):(jB x)[2]? = some (.slice .shared 1 (x.s.labels.map encStr)):=nd rfl
theorem Q5 (x:It):(jB x)[14]? = some (.int .i64 x.dh):=nd rfl
attribute [go_sem] Ud Q5
end Go.Abs
namespace Go.Abs
set_option maxRecDepth 8000
open Go.Proofs
def Pc.al2:List Pc→Nat
 | []=>0
 |f::l=>Sm.iM f.body+Pc.al2 l
theorem Ue {p:Pg} (h:p.may=false):p.scope=(1,0):=by unfold Pg.scope;rw[h];rfl
theorem acm {p:Pg} (h:p.iU) (s:St):aG Tryz.prog wC [.agg (cG p)] s (.agg [.int .i64 p.check.1, .int .i64 p.check.2]) s:=by
 refine aG.pure ?_ (by simp[D.bI,D.ok,kp]) rfl s
 have h1:=fun s=>Iv h.Nx s
 rw[Bq]at h1
 have h2:=fun s=>uZ h s
 have h3:=fun s=>IJ h s
 have h4:=fun s=>Uc h s
 have h5:=fun s=>QJ h s
 obtain⟨R,hR⟩ : ∃ R,p.check=R:=⟨_,rfl⟩
 rw[hR]
 unfold Pg.check at hR
 unfold S0
 rcases Bool.eq_false_or_eq_true p.may with b0|b0
 case inr=>
  have e:((1:Int)==0)=false:=rfl
  rw[Ue b0]at hR
  simp only[e,Bool.false_eq_true,if_false]at hR
  subst hR
  refine aG.go nM rfl fun B Q hB hQ=>?_
  have⟨hD,hY,hZ,gA⟩:=bS
  repeat' (first
 |simp only[go_sem,hD,hY,hZ,gA,b0,Bool.not_false]
 |(with_reducible refine CU (h1 _) ?_)
 |(with_reducible refine aE hQ ?_;exact bg))
 rcases Bool.eq_false_or_eq_true (p.scope.1==0)with b1|b1
 case inr=>
  simp only[b1,Bool.false_eq_true,if_false]at hR
  subst hR
  refine aG.go nM rfl fun B Q hB hQ=>?_
  have⟨hD,hY,hZ,gA⟩:=bS
  repeat' (first
 |simp only[go_sem,hD,hY,hZ,gA,b0,b1,Bool.not_true]
 |(with_reducible refine CU (h1 _) ?_)
 |(with_reducible refine CU (h2 _) ?_)
 |(with_reducible refine aE hQ ?_;exact bg))
 simp only[b1,if_true]at hR
 rcases Bool.eq_false_or_eq_true (p.arity.1==0)with b2|b2
 case inr=>
  simp only[b2,Bool.false_eq_true,if_false]at hR
  subst hR
  refine aG.go nM rfl fun B Q hB hQ=>?_
  have⟨hD,hY,hZ,gA⟩:=bS
  repeat' (first
 |simp only[go_sem,hD,hY,hZ,gA,b0,b1,b2,Bool.not_true]
 |(with_reducible refine CU (h1 _) ?_)
 |(with_reducible refine CU (h2 _) ?_)
 |(with_reducible refine CU (h3 _) ?_)
 |(with_reducible refine aE hQ ?_;exact bg))
 simp only[b2,if_true]at hR
 rcases Bool.eq_false_or_eq_true (p.jump.1==0)with b3|b3
 case inr=>
  simp only[b3,Bool.false_eq_true,if_false]at hR
  subst hR
  refine aG.go nM rfl fun B Q hB hQ=>?_
  have⟨hD,hY,hZ,gA⟩:=bS
  repeat' (first
 |simp only[go_sem,hD,hY,hZ,gA,b0,b1,b2,b3,Bool.not_true]
 |(with_reducible refine CU (h1 _) ?_)
 |(with_reducible refine CU (h2 _) ?_)
 |(with_reducible refine CU (h3 _) ?_)
 |(with_reducible refine CU (h4 _) ?_)
 |(with_reducible refine aE hQ ?_;exact bg))
 simp only[b3,if_true]at hR
 subst hR
 refine aG.go nM rfl fun B Q hB hQ=>?_
 have⟨hD,hY,hZ,gA⟩:=bS
 repeat' (first
 |simp only[go_sem,hD,hY,hZ,gA,b0,b1,b2,b3,Bool.not_true]
 |(with_reducible refine CU (h1 _) ?_)
 |(with_reducible refine CU (h2 _) ?_)
 |(with_reducible refine CU (h3 _) ?_)
 |(with_reducible refine CU (h4 _) ?_)
 |(with_reducible refine CU (h5 _) ?_)
 |(with_reducible refine aE hQ ?_;exact bg))
theorem Q6 {p:Pg} (h:p.iU) (s:St):aG Tryz.prog se [.agg (cG p)] s (.bool (p.check.1==0)) s:=by
 refine aG.pure ?_ (by simp[D.bI,D.ok,kp]) rfl s
 have h1:=fun s=>acm h s
 unfold S0
 refine aG.go Gn rfl fun B Q hB hQ=>?_
 have⟨hD,hY,hZ,gA⟩:=bS
 repeat' (first
 |simp only[go_sem,hD,hY,hZ,gA]
 |(with_reducible refine CU (h1 _) ?_)
 |(with_reducible refine aE hQ ?_;exact bg))
def eY (m:Mc):List D:= [.int .i64 m.fin, .int .i64 m.steps, .int .i64 m.reads, .slice .shared 1 (m.out.map cr), .slice .shared 2 (m.trace.map gi)]
theorem acn (e:Int×List Int):D.bI 0 0 (gi e)=true:=by simp[gi,D.bI,D.ok,Tag.ok,jG]
theorem Wl (l:List (Int×List Int)):D.gR 0 0 (l.map gi)=true:=gV acn l
theorem afV (n m:Nat) (l:List (Int×List Int)):D.kg n m (l.map gi)=l.map gi:=lz acn n m l
attribute [go_sem] afV
abbrev runT (m:Mc):List D:= [.int .i64 m.fin, .int .i64 m.steps, .int .i64 m.reads, .slice (.tok 0) 1 (m.out.map cr), .slice (.tok 1) 2 (m.trace.map gi)]
section
variable {p:Pg} {T W:List Int} {fuel:Int} {B:fM} {Q:Exit→Tm→St→Prop} {mf:Mc}
theorem Inv.qw {y:Lay} {m:Mc} {s:St} {q:Nat} {r r':List D} {loc:List (Nat×List D)} (h:Inv p T W y m ((q,r)::loc) s) (hq : ∀ x∈loc,x.1≠q) (hr:r.length≠4):Inv p T W y m ((q,r')::loc) ⟨s.ah.set q r',s.av⟩:=by
 obtain⟨h1,h2⟩:=h.loc (q,r) (List.mem_cons_self ..)
 simp only at h1 h2
 have ne : ∀ {o:Nat} {x:List D},s.ah[o]? = some x→o≠q→(s.ah.set q r')[o]? = some x:=fun e hn=>by rw[List.getElem?_set_ne (Ne.symm hn)];exact e
 have no : ∀ o∈y.own,o≠q:=fun o mo e=>h2 (e ▸ mo)
 have ka : ∀ {d:D} {cs:List D},(∀ o∈d.arr,o∈y.own)→jl s d cs→jl ⟨s.ah.set q r',s.av⟩ d cs:=fun hd ha=>ha.keep fun o mo=>by
  show(s.ah.set q r')[o]? = _
  rw[List.getElem?_set_ne (Ne.symm (no o (hd o mo)))]
 obtain⟨l,hl⟩:=h.cB
 refine⟨ne h.jm (no 0 (by simp[Lay.own])),h.t0,h.t1,h.len,fun i c v e1 e2=>ne (h.cell i c v e1 e2) (no c (by simp[Lay.own,List.mem_of_getElem? e1])),h.rP,fun i o fr e1 e2=>?_,ka (fun o m=>by simp[Lay.own,m]) h.stack,⟨l,ka (fun o m=>by simp[Lay.own,m]) hl⟩,h.own,fun x mx=>?_⟩
 ·obtain⟨f1,f2,f3⟩:=h.frame i o fr e1 e2
  exact⟨ne f1 (Ku f1 h1 fun e=>hr (by rw[← e];rfl)),f2,f3⟩
 ·rcases List.mem_cons.1 mx with rfl | mx
  ·exact⟨by simp[fN h1],h2⟩
  ·obtain⟨f1,f2⟩:=h.loc x (List.mem_cons_of_mem _ mx)
   exact⟨ne f1 (hq x mx),f2⟩
abbrev A5:List D:= [.int .i64 0, .int .i64 0, .int .i64 0, .slice .full 0 [], .slice .full 0 []]
structure E5 (p:Pg) (T W:List Int) (fuel:Int):Prop where
 ok:p.iU
 right:p.Right
 W:W.length<1000000
 T:T.length<1000000
 fuel:0≤fuel∧fuel≤1000000
structure At (p:Pg) (T W:List Int) (fuel:Int) (a:Int) (m:Mc) (y:Lay) (q:Nat) (s:St):Prop where
 inv : ∃ r:List D,r.length=17∧Inv p T W y m [(q,r),(2,A5)] s
 ok:oO p p.aX.L a m
 sz:wR m
 fin:m.fin=0
 fuel:m.steps≤fuel
abbrev TMr (fuel:Int) (q:Nat) (a:Int):Tm:= [(2, .int .i64 fuel),(8, .ptr 2 0),(10, .ptr 0 0),(11, .ptr q 0),(13, .int .i64 a)]
abbrev JJ (B:fM) (Q:Exit→Tm→St→Prop):=ya Tryz.prog B 131 Q3Y Q
theorem Ef (hQ:ph 0 0 [(8,some (true,5)),(9,none)] (.tuple [.agg (eY mf), .int .i64 0]) ⟨[],[]⟩=Q) {y:Lay} {q:Nat} {r:List D} {s:St} (h:Inv p T W y mf [(q,r),(2,A5)] s) {tm:Tm} (ht:uJ tm [(8, .ptr 2 0),(10, .ptr 0 0)]):JJ B Q (.goto 2) tm s:=by
 refine Cx (r:= .seq .skip Q3G) rfl (ld.o7 ht (ld.kC ?_))
 have hm:=h.jm
 rw[ff]at hm
 have h2:=(h.loc (2,A5) (by simp)).1
 have hl:=fN h2
 have⟨hD,hY,hZ,gA⟩:=bS
 have yY : ∀ r,(s.ah.set 2 r)[2]? = some r:=fun r=>List.getElem?_set_self hl
 simp only[eY]at hQ
 repeat' (first
 |simp only[go_sem,hD,hY,hZ,gA,hm,h2,yY]
 |(with_reducible first|refine bm fun hc=>?_|refine bn fun hc=>?_|refine bo (fun hc=>?_) fun hc=>?_)<;>(try simp only[hc,bs,↓reduceIte]at h)<;>try simp only[hc]
 |(with_reducible refine aE hQ ?_;(try cases h);simp only[aR,aS,bC,bD,go_sem,hD,hY,hZ,gA,hm,h2,yY];try exact cb)
 |(cases h;done))
theorem Ji (hS:E5 p T W fuel) (hQ:ph 0 0 [(8,some (true,5)),(9,none)] (.tuple [.agg (eY mf), .int .i64 0]) ⟨[],[]⟩=Q) {a:Int} {m:Mc} {y:Lay} {q:Nat} {s:St} {g:Int} (h:At p T W fuel a m y q s)
 (acp:m.back p.aX.L g=(none,mf)∨∃ a' m',m.back p.aX.L g=(some a',m')∧∀ y' s' tm,At p T W fuel a' m' y' q s'→uJ tm (TMr fuel q a')→JJ B Q (.goto 1) tm s')
 {tm:Tm} (ht:uJ tm [(2, .int .i64 fuel),(8, .ptr 2 0),(10, .ptr 0 0),(11, .ptr q 0),(12, .int .i64 g)]):JJ B Q (.goto 0) tm s:=by
 obtain⟨⟨r,hr,hi⟩,l8,dK,u9,hfu⟩:=h
 obtain⟨fr,rs,f,yL,h1,h2,h3,h4⟩:=Jh hS.ok l8 (by have:=dK.st;omega)
 have Cg:=dK.run (by have:=hS.fuel;omega) hS.ok hS.W hS.T
 have hc:=N1 hS.ok hS.right l8 (by have:=dK.st;omega) yL
 have c1:=Yi hi yL Cg.L hc g
 have oc:=Ee p.aX.L m g
 refine Cx (r:= .seq .skip Q3J) rfl (ld.o7 ht (ld.kC ?_))
 have⟨hD,hY,hZ,gA⟩:=bS
 repeat' (first
 |simp only[go_sem,hD,hY,hZ,gA]
 |(with_reducible first|refine bm fun hc=>?_|refine bn fun hc=>?_|refine bo (fun hc=>?_) fun hc=>?_)<;>(try simp only[hc,bs,↓reduceIte]at h)<;>try simp only[hc]
 |(with_reducible refine aE hQ ?_;exact fV)
 |(cases h;replace h:=hr;clear hr;(try simp only[bs,↓reduceIte]at h))
 |(cases h;done))
 refine CR c1 fun d s2 Jj=>?_
 obtain⟨rfl,y2,vg,nh⟩:=Jj
 have jj:=nh.jm
 rw[ff]at jj
 have Wm:=(nh.loc (2,A5) (by simp)).1
 have kL:=fN Wm
 have yY : ∀ r,(s2.ah.set 2 r)[2]? = some r:=fun r=>List.getElem?_set_self kL
 simp only at Wm
 have hb:m.back p.aX.L g=(if(m.close p.aX.L g).2.fin==0 then some (m.close p.aX.L g).1 else none,(m.close p.aX.L g).2):=rfl
 rcases Bool.eq_false_or_eq_true ((m.close p.aX.L g).2.fin==0)with b|b
 ·rw [b,if_pos rfl]at hb
  rcases acp with he|⟨a',m',he,hIH⟩
  ·rw[hb]at he;cases he
  ·have hk:=Yb (qj hS.right) l8 he
   rw[hb]at he
   cases he
   repeat' (first
 |simp only[go_sem,hD,hY,hZ,gA,jj,b]
 |(with_reducible first|refine bm fun hc=>?_|refine bn fun hc=>?_|refine bo (fun hc=>?_) fun hc=>?_)<;>(try simp only[hc,bs,↓reduceIte]at h)<;>try simp only[hc]
 |(with_reducible refine aE hQ ?_;(try cases h);simp only[aR,aS,bC,bD,go_sem,hD,hY,hZ,gA,jj,b];try exact cb)
 |(cases h;replace h:=hr;clear hr;(try simp only[bs,↓reduceIte]at h))
 | (cases h;done))
   refine hIH y2 s2 _ ⟨⟨r,hr,nh⟩,hk,dK.close g,by simpa using b,by rw[oc.2.2.2.1];exact hfu⟩ ?_
   simp only[go_sem]
   repeat' (first|exact Ok.out|with_reducible refine iJ ?_ ?_)
 ·rw [b,if_neg (by simp)]at hb
  rcases acp with he|⟨a',m',he,hIH⟩
  ·rw [hb]at he
   cases he
   simp only[eY]at hQ
   repeat' (first
 |simp only[go_sem,hD,hY,hZ,gA,jj,b,Wm,yY]
 |(with_reducible first|refine bm fun hc=>?_|refine bn fun hc=>?_|refine bo (fun hc=>?_) fun hc=>?_)<;>(try simp only[hc,bs,↓reduceIte]at h)<;>try simp only[hc]
 |(with_reducible refine aE hQ ?_;(try cases h);simp only[aR,aS,bC,bD,go_sem,hD,hY,hZ,gA,jj,b,Wm,yY];try exact cb)
 |(cases h;replace h:=hr;clear hr;(try simp only[bs,↓reduceIte]at h))
 |(cases h;done))
  ·rw[hb]at he;cases he
theorem Uf (hS:E5 p T W fuel) (hQ:ph 0 0 [(8,some (true,5)),(9,none)] (.tuple [.agg (eY mf), .int .i64 0]) ⟨[],[]⟩=Q) : ∀ (N:Nat) (a:Int) (m:Mc) (y:Lay) (q:Nat) (s:St),At p T W fuel a m y q s→Mc.go p p.aX.L T W fuel N a m=some mf→
 Sem Tryz.prog B 131 Q3R (JJ B Q) (TMr fuel q a) s:=by
 intro N
 induction N with
 |zero=>intro a m y q s _ h;cases h
 | succ N ih=>
  intro a m y q s qy ky
  have IH : ∀ (a':Int) (m':Mc) (y':Lay) (s':St) (tm:Tm),Mc.go p p.aX.L T W fuel N a' m'=some mf→At p T W fuel a' m' y' q s'→uJ tm (TMr fuel q a')→JJ B Q (.goto 1) tm s':=fun a' m' y' s' tm hg hA ht=>
   Cx (r:= .seq .skip Q3R) rfl (ld.o7 ht (ld.once (Sem.mH (ih a' m' y' q s' hA hg))))
  have al3:=qy
  obtain⟨⟨r,hr,hi⟩,l8,dK,u9,hfu⟩:=qy
  simp only[Mc.go]at ky
  refine il ?_
  have⟨hD,hY,hZ,gA⟩:=bS
  have hm:=hi.jm
  rw[ff]at hm
  have qd:=hi.tR
  rcases Bool.eq_false_or_eq_true (a == -1)with ba|ba
  ·have hn:m.next p p.aX.L T W fuel a=m.back p.aX.L 0:=by unfold Mc.next;rw [if_pos ba]
   rw[hn]at ky
   repeat' (first
 |simp only[go_sem,hD,hY,hZ,gA,ba]
 |(with_reducible first|refine bm fun hc=>?_|refine bn fun hc=>?_|refine bo (fun hc=>?_) fun hc=>?_)<;>(try simp only[hc,bs,↓reduceIte]at h)<;>try simp only[hc]
 |(with_reducible refine aE hQ ?_;(try cases h);simp only[aR,aS,bC,bD,go_sem,hD,hY,hZ,gA,ba];try exact cb)
 |(cases h;replace h:=hr;clear hr;(try simp only[bs,↓reduceIte]at h))
 | (cases h;done))
   refine Ji hS hQ al3 (g:=0) ?_ ?_
   ·rcases e:m.back p.aX.L 0 with ⟨_ | a',m'⟩
    ·rw[e]at ky;cases ky;exact .inl rfl
    ·rw[e]at ky;exact .inr ⟨a',m',rfl,fun y' s' tm h1 h2=>IH a' m' y' s' tm ky h1 h2⟩
   ·simp only [go_sem]
    repeat' (first|exact Ok.out|with_reducible refine iJ ?_ ?_)
  rcases Bool.eq_false_or_eq_true (m.steps==fuel)with bf|bf
  ·have hn:m.next p p.aX.L T W fuel a=(none,{m with fin:=2}):=by unfold Mc.next;rw [if_neg (by simp [ba]),if_pos bf]
   rw[hn]at ky
   cases ky
   have h2:=hi.s9 (m':= {m with fin:=2}) rfl rfl hi.t0 hi.t1
   rw[ff]at h2
   simp only at h2
   repeat' (first
 |simp only[go_sem,hD,hY,hZ,gA,ba,bf,hm,qd]
 |(with_reducible first|refine bm fun hc=>?_|refine bn fun hc=>?_|refine bo (fun hc=>?_) fun hc=>?_)<;>(try simp only[hc,bs,↓reduceIte]at h)<;>try simp only[hc]
 |(with_reducible refine aE hQ ?_;(try cases h);simp only[aR,aS,bC,bD,go_sem,hD,hY,hZ,gA,ba,bf,hm,qd];try exact cb)
 |(cases h;replace h:=hr;clear hr;(try simp only[bs,↓reduceIte]at h))
 | (cases h;done))
   refine Ef hQ h2 ?_
   simp only[go_sem]
   repeat' (first|exact Ok.out|with_reducible refine iJ ?_ ?_)
  -- a statement
  obtain⟨fr,rs,f,yL,h1,h2,h3,h4⟩:=Jh hS.ok l8 (by have:=dK.st;omega)
  have al4:a≠ -1:=by simpa using ba
  obtain⟨hx,xC,gU,c,hac,Jk⟩:=Yj l8 h4 hS.right al4 h1
  have hfb:=hS.fuel
  have Cg:=dK.run (by omega) hS.ok hS.W hS.T
  have auh:m.steps<fuel:=by
   have h:m.steps≠fuel:=by simpa using bf
   omega
  have uA:=dK.steps
  have Eb:IntKind.wrap .i64 (m.steps+1)=m.steps+1:=ek (by omega) (by omega)
  have A1:IntKind.wrap .i64 (a - 1)=(c:Int):=by
   have:=(List.getElem?_eq_some_iff.1 Jk).1
   have:=Cg.L
   rw[show a - 1=(c:Int) by omega];exact ek (by omega) (by omega)
  have cS:(fl p)[2]? = some (.slice .shared 17 (p.aX.L.map dq)):=rfl
  have K4:=hi.s9 (m':= {m with steps:=m.steps+1}) rfl rfl hi.t0 hi.t1
  generalize o9:fR p.aX.L a=it at *
  have al5:2≠q:=by
   have e1:=(hi.loc (q,r) (by simp)).1
   have e2:=(hi.loc (2,A5) (by simp)).1
   exact Ku e2 e1 fun e=>by have e':A5=r:=e;rw[← e']at hr;cases hr
  have E6:17≤r.length:=by omega
  have K5:List.drop 17 r = []:=List.drop_of_length_le (by omega)
  have nh:=K4.qw (r':=dq it) (by simpa using al5) (by omega)
  have mR:=K4.jm
  have Ge:=(K4.loc (q,r) (by simp)).1
  have Ag:=(nh.loc (q,dq it) (by simp)).1
  rw[ff]at mR nh Ge Ag
  simp only at mR nh Ge Ag
  have hle:q<s.ah.length:=fN (hi.loc (q,r) (by simp)).1
  have N4:mr ({m with steps:=m.steps+1} : Mc) fr rs:=⟨yL.st,yL.len,yL.names,yL.vars⟩
  have N5:G2 p T W ({m with steps:=m.steps+1} : Mc):=⟨Cg.W,Cg.T,Cg.trace,Cg.out,Cg.L,Cg.P,Cg.reads⟩
  have Jl:oO p p.aX.L a ({m with steps:=m.steps+1} : Mc):=l8.of rfl (Nat.le_refl _) l8.at_
  have hn:m.next p p.aX.L T W fuel a=(if it.s.kind==4 then(if(({m with steps:=m.steps+1} : Mc).call p W it.s).2.fin==0 then some (({m with steps:=m.steps+1} : Mc).call p W it.s).1 else none,(({m with steps:=m.steps+1} : Mc).call p W it.s).2)
   else if it.s.kind==9 then(if(({m with steps:=m.steps+1} : Mc).iV W it.s).2.fin==0 then(({m with steps:=m.steps+1} : Mc).iV W it.s).2.back p.aX.L (({m with steps:=m.steps+1} : Mc).iV W it.s).1 else(none,(({m with steps:=m.steps+1} : Mc).iV W it.s).2))
   else(if(({m with steps:=m.steps+1} : Mc).do p p.aX.L T W it).2.fin==0 then some (({m with steps:=m.steps+1} : Mc).do p p.aX.L T W it).1 else none,(({m with steps:=m.steps+1} : Mc).do p p.aX.L T W it).2)):=by
   unfold Mc.next
   rw[if_neg (by simp[ba]),if_neg (by simp[bf])]
   dsimp only
   rw[o9]
  rw[hn]at ky
  generalize K3:({m with steps:=m.steps+1} : Mc)=m1 at *
  have al6:m1.fin=0:=by rw[← K3];exact u9
  have Ug:m1.steps=m.steps+1:=by rw[← K3]
  have N6 : ∀ m2:Mc,A3 m1 m2→m2.st.length≤101→wR m2:=fun m2 hl hs=>dK.less (by rw[K3];exact hl) hs
  have Jm:m1.st=m.st:=by rw[← K3]
  rcases Bool.eq_false_or_eq_true (it.s.kind==4)with b4|b4
  ·rw [if_pos b4]at ky
   have F2:it.s.kind=4:=by simpa using b4
   have c1:=QZ hS.ok hS.right.may nh N4 N5 Jl.tw (Q1 hS.ok hS.right hx F2 h2 h3)
   repeat' (first
 |simp only[go_sem,hD,hY,hZ,gA,ba,bf,hm,qd,Eb,mR,A1,Jk,cS,Ge,Ag,hle,b4,E6,K5,List.append_nil]
 |(with_reducible first|refine bm fun hc=>?_|refine bn fun hc=>?_|refine bo (fun hc=>?_) fun hc=>?_)<;>(try simp only[hc,bs,↓reduceIte]at h)<;>try simp only[hc]
 |(with_reducible refine aE hQ ?_;(try cases h);simp only[aR,aS,bC,bD,go_sem,hD,hY,hZ,gA,ba,bf,hm,qd,Eb,mR,A1,Jk,cS,Ge,Ag,hle,b4,E6,K5,List.append_nil];try exact cb)
 |(cases h;replace h:=hr;clear hr;(try simp only[bs,↓reduceIte]at h))
 | (cases h;done))
   refine CR c1 fun d s2 Jj=>?_
   obtain⟨rfl,y2,_,A6⟩:=Jj
   have nP:=A6.jm
   rw[ff]at nP
   have oc:=Q3 p W m1 it.s
   have ng:(m1.call p W it.s).2.st.length≤101:=by
    rcases oc.2 with h|h
    ·rw[Jm]at h;have:=dK.st;omega
    ·exact h
   rcases Bool.eq_false_or_eq_true ((m1.call p W it.s).2.fin==0)with b|b
   ·rw [b,if_pos rfl]at ky
    repeat' (first
 |simp only[go_sem,hD,hY,hZ,gA,nP,b]
 |(with_reducible first|refine bm fun hc=>?_|refine bn fun hc=>?_|refine bo (fun hc=>?_) fun hc=>?_)<;>(try simp only[hc,bs,↓reduceIte]at h)<;>try simp only[hc]
 |(with_reducible refine aE hQ ?_;(try cases h);simp only[aR,aS,bC,bD,go_sem,hD,hY,hZ,gA,nP,b];try exact cb)
 |(cases h;replace h:=hr;clear hr;(try simp only[bs,↓reduceIte]at h))
 | (cases h;done))
    refine IH _ _ y2 s2 _ ky ⟨⟨dq it,rfl,A6⟩,Yd hS.right Jl hx F2 (by rw[xC, ← h4];unfold Mc.top;rw[Jm]) (by simpa using b) rfl al6,N6 _ oc.1 ng,by simpa using b,by rw[oc.1.steps,Ug];omega⟩ ?_
    simp only[go_sem]
    repeat' (first|exact Ok.out|with_reducible refine iJ ?_ ?_)
   ·rw [b,if_neg (by simp)]at ky
    cases ky
    repeat' (first
 |simp only[go_sem,hD,hY,hZ,gA,nP,b]
 |(with_reducible first|refine bm fun hc=>?_|refine bn fun hc=>?_|refine bo (fun hc=>?_) fun hc=>?_)<;>(try simp only[hc,bs,↓reduceIte]at h)<;>try simp only[hc]
 |(with_reducible refine aE hQ ?_;(try cases h);simp only[aR,aS,bC,bD,go_sem,hD,hY,hZ,gA,nP,b];try exact cb)
 |(cases h;replace h:=hr;clear hr;(try simp only[bs,↓reduceIte]at h))
 | (cases h;done))
    refine Ef hQ A6 ?_
    simp only[go_sem]
    repeat' (first|exact Ok.out|with_reducible refine iJ ?_ ?_)
  rw[if_neg (by simp[b4])]at ky
  rcases Bool.eq_false_or_eq_true (it.s.kind==9)with b9|b9
  ·rw [if_pos b9]at ky
   have c1:=Yg nh N4 (K1 hS.ok hS.right hx h2 h3).said N5.W N5.trace
   repeat' (first
 |simp only[go_sem,hD,hY,hZ,gA,ba,bf,hm,qd,Eb,mR,A1,Jk,cS,Ge,Ag,hle,b4,b9,E6,K5,List.append_nil]
 |(with_reducible first|refine bm fun hc=>?_|refine bn fun hc=>?_|refine bo (fun hc=>?_) fun hc=>?_)<;>(try simp only[hc,bs,↓reduceIte]at h)<;>try simp only[hc]
 |(with_reducible refine aE hQ ?_;(try cases h);simp only[aR,aS,bC,bD,go_sem,hD,hY,hZ,gA,ba,bf,hm,qd,Eb,mR,A1,Jk,cS,Ge,Ag,hle,b4,b9,E6,K5,List.append_nil];try exact cb)
 |(cases h;replace h:=hr;clear hr;(try simp only[bs,↓reduceIte]at h))
 | (cases h;done))
   refine CR c1 fun d s2 Jj=>?_
   obtain⟨rfl,y2,_,A6⟩:=Jj
   have nP:=A6.jm
   rw[ff]at nP
   have qW:=N2 W m1 it.s
   have hgs:=(IW W m1 it.s).1
   rcases Bool.eq_false_or_eq_true ((m1.iV W it.s).2.fin==0)with b|b
   ·rw [b,if_pos rfl]at ky
    repeat' (first
 |simp only[go_sem,hD,hY,hZ,gA,nP,b]
 |(with_reducible first|refine bm fun hc=>?_|refine bn fun hc=>?_|refine bo (fun hc=>?_) fun hc=>?_)<;>(try simp only[hc,bs,↓reduceIte]at h)<;>try simp only[hc]
 |(with_reducible refine aE hQ ?_;(try cases h);simp only[aR,aS,bC,bD,go_sem,hD,hY,hZ,gA,nP,b];try exact cb)
 |(cases h;replace h:=hr;clear hr;(try simp only[bs,↓reduceIte]at h))
 | (cases h;done))
    have Qu:m1.mem.length≤(m1.iV W it.s).2.mem.length:=by
     have hw:=jk m1 it.s.x
     unfold Mc.iV
     split
     ·dsimp only
      split
      ·rw[(fw _ _ _ _).2.1,hw.2.1];exact Nat.le_refl _
      ·rw[hw.2.1];exact Nat.le_refl _
     ·rw[(fw _ _ _ _).2.1];exact Nat.le_refl _
    refine Ji (a:=a) (g:=(m1.iV W it.s).1) hS hQ (y:=y2) ⟨⟨dq it,rfl,A6⟩,Jl.of hgs Qu Jl.at_,N6 _ qW (by rw[hgs,Jm];exact dK.st),by simpa using b,by rw[qW.steps,Ug];omega⟩ ?_ ?_
    ·rcases e:(m1.iV W it.s).2.back p.aX.L (m1.iV W it.s).1 with ⟨_ | a',m'⟩
     ·rw[e]at ky;cases ky;exact .inl rfl
     ·rw[e]at ky;exact .inr ⟨a',m',rfl,fun y' s' tm h1 h2=>IH a' m' y' s' tm ky h1 h2⟩
    ·simp only [go_sem]
     repeat' (first|exact Ok.out|with_reducible refine iJ ?_ ?_)
   ·rw [b,if_neg (by simp)]at ky
    cases ky
    repeat' (first
 |simp only[go_sem,hD,hY,hZ,gA,nP,b]
 |(with_reducible first|refine bm fun hc=>?_|refine bn fun hc=>?_|refine bo (fun hc=>?_) fun hc=>?_)<;>(try simp only[hc,bs,↓reduceIte]at h)<;>try simp only[hc]
 |(with_reducible refine aE hQ ?_;(try cases h);simp only[aR,aS,bC,bD,go_sem,hD,hY,hZ,gA,nP,b];try exact cb)
 |(cases h;replace h:=hr;clear hr;(try simp only[bs,↓reduceIte]at h))
 | (cases h;done))
    refine Ef hQ A6 ?_
    simp only[go_sem]
    repeat' (first|exact Ok.out|with_reducible refine iJ ?_ ?_)
  rw[if_neg (by simp[b9])]at ky
  have c1:=alX hS.ok hS.right.may nh N4 N5 (K1 hS.ok hS.right hx h2 h3)
  repeat' (first
 |simp only[go_sem,hD,hY,hZ,gA,ba,bf,hm,qd,Eb,mR,A1,Jk,cS,Ge,Ag,hle,b4,b9,E6,K5,List.append_nil]
 |(with_reducible first|refine bm fun hc=>?_|refine bn fun hc=>?_|refine bo (fun hc=>?_) fun hc=>?_)<;>(try simp only[hc,bs,↓reduceIte]at h)<;>try simp only[hc]
 |(with_reducible refine aE hQ ?_;(try cases h);simp only[aR,aS,bC,bD,go_sem,hD,hY,hZ,gA,ba,bf,hm,qd,Eb,mR,A1,Jk,cS,Ge,Ag,hle,b4,b9,E6,K5,List.append_nil];try exact cb)
 |(cases h;replace h:=hr;clear hr;(try simp only[bs,↓reduceIte]at h))
 | (cases h;done))
  refine CR c1 fun d s2 Jj=>?_
  obtain⟨rfl,y2,_,A6⟩:=Jj
  have nP:=A6.jm
  rw[ff]at nP
  have hdl:=Yk p p.aX.L T W m1 it
  have Aa:=(V7 p p.aX.L T W m1 it).1
  rcases Bool.eq_false_or_eq_true ((m1.do p p.aX.L T W it).2.fin==0)with b|b
  ·rw [b,if_pos rfl]at ky
   repeat' (first
 |simp only[go_sem,hD,hY,hZ,gA,nP,b]
 |(with_reducible first|refine bm fun hc=>?_|refine bn fun hc=>?_|refine bo (fun hc=>?_) fun hc=>?_)<;>(try simp only[hc,bs,↓reduceIte]at h)<;>try simp only[hc]
 |(with_reducible refine aE hQ ?_;(try cases h);simp only[aR,aS,bC,bD,go_sem,hD,hY,hZ,gA,nP,b];try exact cb)
 |(cases h;replace h:=hr;clear hr;(try simp only[bs,↓reduceIte]at h))
 | (cases h;done))
   refine IH _ _ y2 s2 _ ky ⟨⟨dq it,rfl,A6⟩,afH hS.right Jl hx (by rw[xC, ← h4];unfold Mc.top;rw[Jm]) (by simpa using b),N6 _ hdl (by rw[Aa,Jm];exact dK.st),by simpa using b,by rw[hdl.steps,Ug];omega⟩ ?_
   simp only[go_sem]
   repeat' (first|exact Ok.out|with_reducible refine iJ ?_ ?_)
  ·rw [b,if_neg (by simp)]at ky
   cases ky
   repeat' (first
 |simp only[go_sem,hD,hY,hZ,gA,nP,b]
 |(with_reducible first|refine bm fun hc=>?_|refine bn fun hc=>?_|refine bo (fun hc=>?_) fun hc=>?_)<;>(try simp only[hc,bs,↓reduceIte]at h)<;>try simp only[hc]
 |(with_reducible refine aE hQ ?_;(try cases h);simp only[aR,aS,bC,bD,go_sem,hD,hY,hZ,gA,nP,b];try exact cb)
 |(cases h;replace h:=hr;clear hr;(try simp only[bs,↓reduceIte]at h))
 | (cases h;done))
   refine Ef hQ A6 ?_
   simp only[go_sem]
   repeat' (first|exact Ok.out|with_reducible refine iJ ?_ ?_)
end
end Go.Abs
namespace Go.Abs
set_option maxRecDepth 8000
open Go.Proofs
def ofM (p:Pg) (T W:List Int) (fuel:Int):Mc×Int:=
 if decide (fuel<0) ||(decide (fuel > 1000000) || !(p.check.1==0))then(⟨[],[],0,0,0,[],[]⟩,1)else((runM p T W fuel).getD ⟨[],[],0,0,0,[],[]⟩,0)
theorem Eg (m:Mc):D.bI 0 0 (eY m)=true:=by simp[eY,D.bI,D.ok,Tag.ok,jG,Wl]
theorem Yn {p:Pg} (hR:p.Right) : ∃ (j:Nat) (q:Pc),p.at lK=(j:Int)∧p.procs[j]? = some q∧p.find q.name=some q∧q.params.length=0:=by
 have h:=hR.main
 unfold Pg.sR at h
 cases e:p.find lK with
 |none=>rw[e]at h;cases h
 |some q=>
  rw[e]at h
  obtain⟨j,h1,h2⟩:=G1 (k:=0) e
  refine⟨j,q,by simpa[Pg.at]using h1,h2,by rw[yS e];exact e, ?_⟩
  simp only[decide_eq_false_iff_not]at h
  omega
theorem acq {p:Pg} (hO:p.iU) {T W:List Int} (hT:T.length<1000000) (hW:W.length<1000000) (fuel:Int) (s:St) :
 aG Tryz.prog rF [.agg (cG p), .slice .shared 1 (T.map cr), .int .i64 fuel, .slice .shared 1 (W.map cr)] s (.tuple [.agg (eY (ofM p T W fuel).1), .int .i64 (ofM p T W fuel).2]) s:=by
 refine aG.pure ?_ (by simp[D.bI,D.ok,Tag.ok,kp,jG]) (by simp only[D.ok,D.bI,Eg];rfl) s
 have cM:=fun s=>Q6 hO s
 have cN:=fun s=>Bm (p:=p) (by have:=hO.procs;omega) s
 generalize hR:ofM p T W fuel=R
 unfold ofM at hR
 obtain⟨R1,R2⟩:=R
 dsimp only
 unfold S0
 by_cases Jn:(decide (fuel<0) ||(decide (fuel > 1000000) || !(p.check.1==0)))=true
 ·rw [if_pos Jn]at hR
  cases hR
  simp only[eY,List.map_nil]
  rcases Bool.eq_false_or_eq_true (decide (fuel<0))with b1|b1
  ·refine aG.go uc rfl fun B Q hB hQ=> ?_
   have⟨hD,hY,hZ,gA⟩:=bS
   repeat' (first
 |simp only[go_sem,hD,hY,hZ,gA,b1]
 |(with_reducible first|refine bm fun hc=>?_|refine bn fun hc=>?_|refine bo (fun hc=>?_) fun hc=>?_)<;>(try simp only[hc,bs,↓reduceIte]at h)<;>try simp only[hc]
 |(with_reducible refine aE hQ ?_;(try cases h);simp only[aR,aS,bC,bD,go_sem,hD,hY,hZ,gA,b1];try exact cb)
 | (cases h;done))
   refine ld.kC ?_
   repeat' (first
 |simp only[go_sem,hD,hY,hZ,gA,b1]
 |(with_reducible first|refine bm fun hc=>?_|refine bn fun hc=>?_|refine bo (fun hc=>?_) fun hc=>?_)<;>(try simp only[hc,bs,↓reduceIte]at h)<;>try simp only[hc]
 |(with_reducible refine aE hQ ?_;(try cases h);simp only[aR,aS,bC,bD,go_sem,hD,hY,hZ,gA,b1];try exact cb)
 | (cases h;done))
  rcases Bool.eq_false_or_eq_true (decide (fuel > 1000000))with b2|b2
  ·refine aG.go uc rfl fun B Q hB hQ=> ?_
   have⟨hD,hY,hZ,gA⟩:=bS
   repeat' (first
 |simp only[go_sem,hD,hY,hZ,gA,b1,b2]
 |(with_reducible first|refine bm fun hc=>?_|refine bn fun hc=>?_|refine bo (fun hc=>?_) fun hc=>?_)<;>(try simp only[hc,bs,↓reduceIte]at h)<;>try simp only[hc]
 |(with_reducible refine aE hQ ?_;(try cases h);simp only[aR,aS,bC,bD,go_sem,hD,hY,hZ,gA,b1,b2];try exact cb)
 | (cases h;done))
   refine ld.kC ?_
   repeat' (first
 |simp only[go_sem,hD,hY,hZ,gA,b1,b2]
 |(with_reducible first|refine bm fun hc=>?_|refine bn fun hc=>?_|refine bo (fun hc=>?_) fun hc=>?_)<;>(try simp only[hc,bs,↓reduceIte]at h)<;>try simp only[hc]
 |(with_reducible refine aE hQ ?_;(try cases h);simp only[aR,aS,bC,bD,go_sem,hD,hY,hZ,gA,b1,b2];try exact cb)
 | (cases h;done))
  ·have b3:(p.check.1==0)=false:=by simpa [b1,b2]using Jn
   rw[b3]at cM
   refine aG.go uc rfl fun B Q hB hQ=>?_
   have⟨hD,hY,hZ,gA⟩:=bS
   repeat' (first
 |simp only[go_sem,hD,hY,hZ,gA,b1,b2]
 |(with_reducible refine CU (cM _) ?_)
 |(with_reducible first|refine bm fun hc=>?_|refine bn fun hc=>?_|refine bo (fun hc=>?_) fun hc=>?_)<;>(try simp only[hc,bs,↓reduceIte]at h)<;>try simp only[hc]
 |(with_reducible refine aE hQ ?_;(try cases h);simp only[aR,aS,bC,bD,go_sem,hD,hY,hZ,gA,b1,b2];try exact cb)
 | (cases h;done))
   refine ld.kC ?_
   repeat' (first
 |simp only[go_sem,hD,hY,hZ,gA,b1,b2]
 |(with_reducible refine CU (cM _) ?_)
 |(with_reducible first|refine bm fun hc=>?_|refine bn fun hc=>?_|refine bo (fun hc=>?_) fun hc=>?_)<;>(try simp only[hc,bs,↓reduceIte]at h)<;>try simp only[hc]
 |(with_reducible refine aE hQ ?_;(try cases h);simp only[aR,aS,bC,bD,go_sem,hD,hY,hZ,gA,b1,b2];try exact cb)
 |(cases h;done))
 rw[if_neg Jn]at hR
 simp only[Bool.or_eq_true,not_or,Bool.not_eq_true,Bool.not_eq_false']at Jn
 obtain⟨b1,b2,b3⟩:=Jn
 rw[b3]at cM
 have N7:0≤fuel∧fuel≤1000000:=by simp at b1 b2;omega
 obtain⟨mf,hmf⟩:=QG p T W N7.1
 rw[hmf]at hR
 simp only[Option.getD_some]at hR
 cases hR
 have Wn:=TU b3
 have hS:E5 p T W fuel:=⟨hO,Wn,hW,hT,N7⟩
 obtain⟨j,q,j1,j2,j3,j4⟩:=Yn Wn
 have cP:=fun s=>(show aG Tryz.prog ic [.dt (fl p) 0, .str [109,97,105,110]] s (.int .i64 (p.at lK)) s from DM (p:=p) (by have:=hO.procs;omega) lK s)
 rw[j1]at cP
 have qW:=hO.procs.2.2
 refine aG.go uc rfl fun B Q hB hQ=>?_
 have⟨hD,hY,hZ,gA⟩:=bS
 -- from the globals on
 have start : ∀ (y:Lay) (s:St),Inv p T W y (oN p) [(2,A5)] s→Sem Tryz.prog B 131 Q3V (JJ B Q) [(2, .int .i64 fuel),(8, .ptr 2 0),(10, .ptr 0 0)] s:=by
  intro y s hi
  have K4:=hi.new [.int .i64 0, .int .i64 0, .slice .full 0 [], .str [], .str [], .int .i64 0, .int .i64 0, .str [], .slice .full 0 [], .bool false, .slice .full 0 [], .slice .full 0 [], .slice .full 0 [], .int .i64 0, .int .i64 0, .int .i64 0, .int .i64 0]
  have mR:=K4.jm
  rw[ff]at mR
  simp only at mR
  obtain⟨y2,s2,hF,nh⟩:=K0 K4 hO Wn.may j2 j3 (by simp[oN]) (l:= []) (by simp) (by simp) (by simp[oN]) 0
  have hF':=bG.pg (.cons (Wk.refl _) (.cons (Wk.refl _) (.cons (Wk.nil .full 0 1) (iZ.refl _)))) hF
  have hF2:aG Tryz.prog iT [.ptr 0 0, .int .i64 (j:Int), .slice .full 0 [], .int .i64 0] _ _ s2:=hF'
  have l8:=KU (m:=oN p) (qj Wn) j2 (l:= []) (call:=0) (by simp[j4]) (by simp) (by simp[oN]) (by simp[oN]) (.inl ⟨rfl,rfl⟩)
  have ky:=hmf
  unfold runM at ky
  rw[j1]at ky
  dsimp only at ky
  have ju:=Gc p (oN p) (j:Int) [] 0
  have tF:=(Bu p (oN p) (j:Int) [] 0).1
  have xD:((oN p).open p (j:Int) [] 0).2.fin=0:=by
   unfold Mc.open
   split<;>rfl
  have acs:=Uf (B:=B) hS hQ _ _ _ y2 s.ah.length s2 ⟨⟨_,rfl,nh⟩,l8,⟨by rw[ju.2.2.2];simp[oN],by rw[ju.1,ju.2.2.2];simp[oN],by rw[ju.2.1,ju.2.2.2];simp[oN],by rw[ju.2.2.1,ju.2.2.2];simp[oN],Nat.le_trans tF (by simp[oN])⟩,xD,by rw[ju.2.2.2];simp[oN];exact N7.1⟩ ky
  refine Sem.mH ?_
  repeat' (first
 |simp only[go_sem,hD,hY,hZ,gA]
 |(with_reducible first|refine bm fun hc=>?_|refine bn fun hc=>?_|refine bo (fun hc=>?_) fun hc=>?_)<;>(try simp only[hc,bs,↓reduceIte]at h)<;>try simp only[hc]
 |(with_reducible refine aE hQ ?_;exact fV)
 |(cases h;done))
  refine Sem.mH ?_
  repeat' (first
 |simp only[go_sem,hD,hY,hZ,gA]
 |(with_reducible first|refine bm fun hc=>?_|refine bn fun hc=>?_|refine bo (fun hc=>?_) fun hc=>?_)<;>(try simp only[hc,bs,↓reduceIte]at h)<;>try simp only[hc]
 |(with_reducible refine aE hQ ?_;exact fV)
 |(cases h;done))
  refine Sem.mH ?_
  repeat' (first
 |simp only[go_sem,hD,hY,hZ,gA,mR]
 |(with_reducible refine CU (cP _) ?_)
 |(with_reducible refine CU (hF2) ?_)
 |(with_reducible first|refine bm fun hc=>?_|refine bn fun hc=>?_|refine bo (fun hc=>?_) fun hc=>?_)<;>(try simp only[hc,bs,↓reduceIte]at h)<;>try simp only[hc]
 |(with_reducible refine aE hQ ?_;(try cases h);simp only[aR,aS,bC,bD,go_sem,hD,hY,hZ,gA,mR];try exact cb)
 |(cases h;done))
  refine Sem.mH ?_
  repeat' (first
 |simp only[go_sem,hD,hY,hZ,gA]
 |(with_reducible first|refine bm fun hc=>?_|refine bn fun hc=>?_|refine bo (fun hc=>?_) fun hc=>?_)<;>(try simp only[hc,bs,↓reduceIte]at h)<;>try simp only[hc]
 |(with_reducible refine aE hQ ?_;exact fV)
 |(cases h;done))
  refine Sem.o7 ?_ acs
  simp only[go_sem]
  repeat' (first|exact Ok.out|with_reducible refine iJ ?_ ?_)
 generalize hG:p.globals.length=G at *
 have hGb:G≤900000:=by rw[← hG];exact hO.procs.2.2
 let row:Nat→List D:=fun k=> [.dt (fl p) 0, .slice (.tok 2) 1 ((List.range k).map fun i=>e9 (3+i)), .slice .shared 1 (T.map cr), .slice .shared 1 (W.map cr), .dU 1, .dU 1, .int .i64 0, .int .i64 0, .int .i64 0, .slice (.tok 0) 1 [], .slice (.tok 1) 2 []]
 have loop : ∀ d k:Nat,k+d=G→bq Tryz.prog B 131 Q29 (km 0 (nw (Sem Tryz.prog B 131 Q3V (JJ B Q)) (JJ B Q))) [(2, .int .i64 fuel),(8, .ptr 2 0),(10, .ptr 0 0),(34, .int .i64 (G:Int)),(35, .int .i64 (k:Int))]
  ⟨row k::cG p::A5::List.replicate k [.int .i64 0],[some 0,some 0,some k]⟩:=by
  intro d
  induction d with
  |zero=>
   intro k hk
   have tB:k=G:=by omega
   subst tB
   have hD:decide ((k:Int)<(k:Int))=false:=by simp
   refine bq.kC ?_
   repeat' (first
 |simp only[go_sem,hD,hY,hZ,gA]
 |(with_reducible first|refine bm fun hc=>?_|refine bn fun hc=>?_|refine bo (fun hc=>?_) fun hc=>?_)<;>(try simp only[hc,bs,↓reduceIte]at h)<;>try simp only[hc]
 |(with_reducible refine aE hQ ?_;exact fV)
 | (cases h;done))
   refine Sem.o7 (bl:= [(2, .int .i64 fuel),(8, .ptr 2 0),(10, .ptr 0 0)]) (by simp only[go_sem];repeat' (first|exact Ok.out|with_reducible refine iJ ?_ ?_)) ?_
   have hκ:((List.range k).map (3 + ·)).length=k:=by simp
   have hmp:((List.range k).map fun i=>e9 (3+i))=(((List.range k).map (3 + ·)).take k).map e9:=by rw[List.take_of_length_le (by simp),List.map_map];rfl
   refine Sem.wkO (ff p T W ⟨(List.range k).map (3 + ·),[], .dU 1, .dU 1⟩ (oN p)::cG p::A5::List.replicate k [.int .i64 0]) ?_ (start ⟨(List.range k).map (3 + ·),[], .dU 1, .dU 1⟩ _ ?_)
   ·refine .cons ?_ (gk.refl _)
    simp only[row,ff,hG, ← hmp,oN,List.map_nil]
    exact Ok.out
   ·have QU:((List.range k).map (3 + ·)).Nodup:=by
     rw[List.nodup_iff_pairwise_ne,List.pairwise_map]
     exact List.Pairwise.imp (fun h=>by omega) (List.nodup_iff_pairwise_ne.1 List.nodup_range)
    refine⟨rfl,rfl,rfl,by simp[oN,hG],fun i c v e1 e2=>?_,rfl,fun i o fr e1 e2=>by simp at e1, .inl ⟨rfl,rfl⟩,⟨[], .inl ⟨rfl,rfl⟩⟩, ?_,fun x mx=>?_⟩
    ·have hD:=(List.getElem?_eq_some_iff.1 e1).1
     simp only[hκ]at hD
     rw[List.getElem?_map,List.getElem?_range hD]at e1
     simp only[oN]at e2
     rw[List.getElem?_replicate_of_lt (by omega)]at e2
     simp only[Option.map_some,Option.some.injEq]at e1 e2
     subst e1 e2
     show(_::_::_::List.replicate k [D.int .i64 0])[3+i]? = _
     rw[show 3+i=i+1+1+1 by omega]
     simp only[List.getElem?_cons_succ]
     exact List.getElem?_replicate_of_lt hD
    ·simp only [Lay.own,D.arr,List.append_nil]
     rw[List.nodup_cons]
     exact⟨by simp,QU⟩
    ·rw [List.mem_singleton.1 mx]
     refine⟨rfl, ?_⟩
     simp only[Lay.own,D.arr,List.append_nil,List.mem_cons,List.mem_map,List.mem_range,not_or]
     exact⟨by omega,by rintro⟨i,_,h⟩;omega⟩
  | succ d ih=>
   intro k hk
   have hD:decide ((k:Int)<(G:Int))=true:=by simp;omega
   have cf:k<4611686018427387904:=by omega
   have eA : ∀ os,gZ 1 8 (.slice (.tok 2) 1 ((List.range k).map fun i=>e9 (3+i))) (.slice .full 1 [[.ptr (3+k) 0]]) ⟨os,[some 0,some 0,some k]⟩ =
    some (.slice (.tok 2) 1 ((List.range (k+1)).map fun i=>e9 (3+i)),⟨os,[some 0,some 0,some (k+1)]⟩):=fun os=>by
    rw[oz (size:=1) (by simp only[List.length_map,List.length_range,List.length_singleton];unfold bH;omega) (by simp)]
    simp[List.range_succ,e9]
   have hln : ∀ a b c:List D,(a::b::c::List.replicate k [D.int .i64 0]).length=3+k:=fun a b c=>by simp;omega
   have acu : ∀ a b c:List D,a::b::c::List.replicate k [D.int .i64 0]++ [[D.int .i64 0]] = a::b::c::List.replicate (k+1) [D.int .i64 0]:=fun a b c=>by rw[List.replicate_succ'];rfl
   refine bq.kC ?_
   simp only[row]
   repeat' (first
 |simp only[go_sem,hD,hY,hZ,gA,eA,hln,acu]
 |(with_reducible first|refine bm fun hc=>?_|refine bn fun hc=>?_|refine bo (fun hc=>?_) fun hc=>?_)<;>(try simp only[hc,bs,↓reduceIte]at h)<;>try simp only[hc]
 |(with_reducible refine aE hQ ?_;(try cases h);simp only[aR,aS,bC,bD,go_sem,hD,hY,hZ,gA,eA,hln,acu];try exact cb)
 | (cases h;done))
   have:=ih (k+1) (by omega)
   simp only[row,List.range_succ,List.map_append,List.map_cons,List.map_nil]at this
   refine bq.o7 ?_ this
   simp only[go_sem,aJ cf]
   repeat' (first|exact Ok.out|with_reducible refine iJ ?_ ?_)
 repeat' (first
 |simp only[go_sem,hD,hY,hZ,gA,b1,b2]
 |(with_reducible first|refine bm fun hc=>?_|refine bn fun hc=>?_|refine bo (fun hc=>?_) fun hc=>?_)<;>(try simp only[hc,bs,↓reduceIte]at h)<;>try simp only[hc]
 |(with_reducible refine aE hQ ?_;(try cases h);simp only[aR,aS,bC,bD,go_sem,hD,hY,hZ,gA,b1,b2];try exact cb)
 |(cases h;done))
 refine ld.once (Sem.mH ?_)
 repeat' (first
 |simp only[go_sem,hD,hY,hZ,gA,b1,b2]
 |(with_reducible refine CU (cM _) ?_)
 |(with_reducible first|refine bm fun hc=>?_|refine bn fun hc=>?_|refine bo (fun hc=>?_) fun hc=>?_)<;>(try simp only[hc,bs,↓reduceIte]at h)<;>try simp only[hc]
 |(with_reducible refine aE hQ ?_;(try cases h);simp only[aR,aS,bC,bD,go_sem,hD,hY,hZ,gA,b1,b2];try exact cb)
 |(cases h;done))
 refine Sem.mH ?_
 repeat' (first
 |simp only[go_sem,hD,hY,hZ,gA]
 |(with_reducible refine CU (cN _) ?_)
 |(with_reducible first|refine bm fun hc=>?_|refine bn fun hc=>?_|refine bo (fun hc=>?_) fun hc=>?_)<;>(try simp only[hc,bs,↓reduceIte]at h)<;>try simp only[hc]
 |(with_reducible refine aE hQ ?_;exact fV)
 |(cases h;done))
 refine Sem.mH ?_
 repeat' (first
 |simp only[go_sem,hD,hY,hZ,gA]
 |(with_reducible first|refine bm fun hc=>?_|refine bn fun hc=>?_|refine bo (fun hc=>?_) fun hc=>?_)<;>(try simp only[hc,bs,↓reduceIte]at h)<;>try simp only[hc]
 |(with_reducible refine aE hQ ?_;exact fV)
 |(cases h;done))
 refine bq.Cw 2 9 1 rfl rfl ?_
 refine bq.Cw 2 10 2 rfl rfl ?_
 refine bq.Cw 2 1 1 rfl rfl ?_
 simp only[List.set_cons_succ,List.set_cons_zero,List.length_nil,List.nil_append,List.length_cons,List.cons_append]
 have l0:=loop G 0 (by omega)
 simp only[row,List.range_zero,List.map_nil,List.replicate_zero]at l0
 refine bq.re [(2, .int .i64 fuel),(8, .ptr 1 0),(10, .ptr 2 0),(34, .int .i64 (G:Int)),(35, .int .i64 ((0:Nat):Int))]
  [cG p,A5,[.dt (fl p) 0, .slice (.tok 2) 1 [], .slice .shared 1 (T.map cr), .slice .shared 1 (W.map cr), .dU 1, .dU 1, .int .i64 0, .int .i64 0, .int .i64 0, .slice (.tok 0) 1 [], .slice (.tok 1) 2 []]] 3 3 (by rw[hB];exact Nat.zero_le _) (by rw[hB];exact Nat.zero_le _) ?_ ?_ ?_
 ·simp only [go_sem,hG]
  repeat' (first|exact Ok.out|with_reducible refine iJ ?_ ?_)
 ·simp only [go_sem,V0]
  repeat' (first|exact Ok.out|with_reducible refine iJ ?_ ?_)
 have r1 : ∀ os ts,D.eD os ts (fl p)=fl p:=fun os ts=>fp os ts _ (tv p)
 have r2 : ∀ n m,D.bI n m (fl p)=true:=fun n m=>ib (Nat.zero_le n) (Nat.zero_le m) _ (tv p)
 have r3 : ∀ os ts l,D.nz os ts (List.map cr l)=List.map cr l:=fun os ts l=>iS os ts _ (jG l)
 have r4 : ∀ n m l,D.gR n m (List.map cr l)=true:=fun n m l=>lR (Nat.zero_le n) (Nat.zero_le m) _ (jG l)
 refine bq.aia hB [2,0,1] _ _ (by decide) (by simp) ?_ ?_ l0
 ·simp[Am,D.eD,D.cL,D.nz,D.bI,D.gR,D.ok,Tag.cL,Tag.ok,St.cut,r1,r2,r3,r4,Kv,PV,A5]
 ·simp[B8,Tm.get,D.cL,D.ok]
theorem yT {a b:List Int} (ha:a.length<1000000000) (g:Tag) (s:St):aG Tryz.prog kY [.slice .shared 1 (a.map cr), .slice g 1 (b.map cr)] s (.bool (a==b)) s:=by
 refine bG.pg (.cons (Wk.refl _) (.cons (Wk.shared _ _ _) .nil)) (aG.pure ?_ (by simp[D.bI,D.ok,Tag.ok,jG]) rfl s)
 generalize h:(a==b)=R
 unfold S0
 by_cases hl:a.length=b.length
 ·have e1:((a.length:Int) != (b.length:Int))=false:=by simp [hl]
  refine aG.go uT rfl fun B Q hB hQ=>?_
  have⟨hD,hY,hZ,gA⟩:=bS
  repeat' (first
 |simp only[go_sem,hD,hY,hZ,gA,e1]
 |(with_reducible first|refine bm fun hc=>?_|refine bn fun hc=>?_|refine bo (fun hc=>?_) fun hc=>?_)<;>(try simp only[hc,bs,↓reduceIte]at h)<;>try simp only[hc]
 |(with_reducible refine aE hQ ?_;(try cases h);simp only[aR,aS,bC,bD,go_sem,hD,hY,hZ,gA,e1];try exact cb)
 | (cases h;done))
  refine fi 0 0 (bq.ind (ι:=List Int×List Int×Nat) (fun i=>a.drop i.2.2=i.1∧b.drop i.2.2=i.2.1∧(i.1==i.2.1)=R) (fun i=>i.1.length)
   (fun i=> [(0, .slice .shared 1 (a.map cr)),(1, .slice .shared 1 (b.map cr)),(12, .int .i64 (a.length:Int)),(13, .int .i64 (i.2.2:Int))]) (fun i=>⟨[],[]⟩) ?_ (a,b,0) ⟨rfl,rfl,h⟩)
  rintro⟨ra,rb,k⟩ ⟨h1,h2,h⟩ IH
  dsimp only at h1 h2 h
  cases ra with
  |nil=>
   have hD:=drop_nil h1
   have:b.drop k = []:=by rw[List.drop_eq_nil_iff]at h1 ⊢;omega
   rw[h2]at this
   subst this
   have h':true=R:=h
   subst h'
   repeat' (first
 |simp only[go_sem,hD,hY,hZ,gA]
 |(with_reducible first|refine bm fun hc=>?_|refine bn fun hc=>?_|refine bo (fun hc=>?_) fun hc=>?_)<;>(try simp only[hc,bs,↓reduceIte]at h)<;>try simp only[hc]
 |(with_reducible refine aE hQ ?_;exact fV)
 | (cases h;done))
  | cons x ra=>
   obtain⟨hY,g2,hD,g4⟩:=drop_cons h1
   have cf:k<4611686018427387904:=by omega
   cases rb with
   |nil=>rw[List.drop_eq_nil_iff]at h2;omega
   | cons y rb=>
    obtain⟨lI,g2',TL,g4'⟩:=drop_cons h2
    have e2:(x != y) = !(x==y):=rfl
    simp only[List.cons_beq_cons]at h
    rcases Bool.eq_false_or_eq_true (x==y)with c|c
    ·simp only [c,Bool.true_and]at h
     repeat' (first
 |simp only[go_sem,hD,hY,hZ,gA,e2,c,lI]
 |(with_reducible first|refine bm fun hc=>?_|refine bn fun hc=>?_|refine bo (fun hc=>?_) fun hc=>?_)<;>(try simp only[hc,bs,↓reduceIte]at h)<;>try simp only[hc]
 |(with_reducible refine aE hQ ?_;(try cases h);simp only[aR,aS,bC,bD,go_sem,hD,hY,hZ,gA,e2,c,lI];try exact cb)
 | (cases h;done))
     refine fj 0 0 ?_ ?_ (IH (ra,rb,k+1) ⟨g2,g2',h⟩ (Nat.lt_succ_self _))
     ·(simp only[go_sem,hD,hY,hZ,gA,aJ cf];try exact cv)
     ·(simp only[go_sem,hD,hY,hZ,gA,aJ cf];try exact cv)
    ·simp only [c,Bool.false_and]at h
     repeat' (first
 |simp only[go_sem,hD,hY,hZ,gA,e2,c,lI]
 |(with_reducible first|refine bm fun hc=>?_|refine bn fun hc=>?_|refine bo (fun hc=>?_) fun hc=>?_)<;>(try simp only[hc,bs,↓reduceIte]at h)<;>try simp only[hc]
 |(with_reducible refine aE hQ ?_;(try cases h);simp only[aR,aS,bC,bD,go_sem,hD,hY,hZ,gA,e2,c,lI];try exact cb)
 |(cases h;done))
 ·have e1:((a.length:Int) != (b.length:Int))=true:=by simp;omega
  have:(a==b)=false:=by
   rw[beq_eq_false_iff_ne];intro e;rw[e]at hl;exact hl rfl
  rw[this]at h
  subst h
  refine aG.go uT rfl fun B Q hB hQ=>?_
  have⟨hD,hY,hZ,gA⟩:=bS
  repeat' (first
 |simp only[go_sem,hD,hY,hZ,gA,e1]
 |(with_reducible first|refine bm fun hc=>?_|refine bn fun hc=>?_|refine bo (fun hc=>?_) fun hc=>?_)<;>(try simp only[hc,bs,↓reduceIte]at h)<;>try simp only[hc]
 |(with_reducible refine aE hQ ?_;(try cases h);simp only[aR,aS,bC,bD,go_sem,hD,hY,hZ,gA,e1];try exact cb)
 |(cases h;done))
theorem Q9 {a b:List (Int×List Int)} (ha:a.length<1000000000) (hv : ∀ e∈a,e.2.length<1000000000) (s:St):aG Tryz.prog qH [.slice .shared 2 (a.map gi), .slice .shared 2 (b.map gi)] s (.bool (a==b)) s:=by
 refine aG.pure ?_ (by simp[D.bI,D.ok,Tag.ok,Wl]) rfl s
 generalize h:(a==b)=R
 unfold S0
 by_cases hl:a.length=b.length
 ·have e1:((a.length:Int) != (b.length:Int))=false:=by simp [hl]
  refine aG.go tM rfl fun B Q hB hQ=>?_
  have⟨hD,hY,hZ,gA⟩:=bS
  repeat' (first
 |simp only[go_sem,hD,hY,hZ,gA,e1]
 |(with_reducible first|refine bm fun hc=>?_|refine bn fun hc=>?_|refine bo (fun hc=>?_) fun hc=>?_)<;>(try simp only[hc,bs,↓reduceIte]at h)<;>try simp only[hc]
 |(with_reducible refine aE hQ ?_;(try cases h);simp only[aR,aS,bC,bD,go_sem,hD,hY,hZ,gA,e1];try exact cb)
 | (cases h;done))
  refine fi 0 0 (bq.ind (ι:=List (Int×List Int)×List (Int×List Int)×Nat) (fun i=>a.drop i.2.2=i.1∧b.drop i.2.2=i.2.1∧(i.1==i.2.1)=R) (fun i=>i.1.length)
   (fun i=> [(0, .slice .shared 2 (a.map gi)),(1, .slice .shared 2 (b.map gi)),(12, .int .i64 (a.length:Int)),(13, .int .i64 (i.2.2:Int))]) (fun i=>⟨[],[]⟩) ?_ (a,b,0) ⟨rfl,rfl,h⟩)
  rintro⟨ra,rb,k⟩ ⟨h1,h2,h⟩ IH
  dsimp only at h1 h2 h
  cases ra with
  |nil=>
   have hD:=drop_nil h1
   have:b.drop k = []:=by rw[List.drop_eq_nil_iff]at h1 ⊢;omega
   rw[h2]at this
   subst this
   have h':true=R:=h
   subst h'
   repeat' (first
 |simp only[go_sem,hD,hY,hZ,gA]
 |(with_reducible first|refine bm fun hc=>?_|refine bn fun hc=>?_|refine bo (fun hc=>?_) fun hc=>?_)<;>(try simp only[hc,bs,↓reduceIte]at h)<;>try simp only[hc]
 |(with_reducible refine aE hQ ?_;exact fV)
 | (cases h;done))
  | cons x ra=>
   obtain⟨hY,g2,hD,g4⟩:=drop_cons h1
   have cf:k<4611686018427387904:=by omega
   cases rb with
   |nil=>rw[List.drop_eq_nil_iff]at h2;omega
   |cons y rb=>
    obtain⟨lI,g2',TL,g4'⟩:=drop_cons h2
    obtain⟨x1,x2⟩:=x
    obtain⟨y1,y2⟩:=y
    have e2:(x1 != y1) = !(x1==y1):=rfl
    have hb:((x1,x2)==(y1,y2))=(x1==y1 && x2==y2):=rfl
    have cE:=fun g s=>yT (a:=x2) (b:=y2) (hv _ (List.mem_of_getElem? hY)) g s
    simp only[List.cons_beq_cons,hb]at h
    rcases Bool.eq_false_or_eq_true (x1==y1)with c|c<;>rcases Bool.eq_false_or_eq_true (x2==y2)with c2|c2<;>simp only[c,c2,Bool.true_and,Bool.false_and]at h
    ·repeat' (first
 |simp only[go_sem,hD,hY,hZ,gA,e2,c,c2,lI,gi]
 |(with_reducible refine CU (cE _ _) ?_)
 |(with_reducible first|refine bm fun hc=>?_|refine bn fun hc=>?_|refine bo (fun hc=>?_) fun hc=>?_)<;>(try simp only[hc,bs,↓reduceIte]at h)<;>try simp only[hc]
 |(with_reducible refine aE hQ ?_;(try cases h);simp only[aR,aS,bC,bD,go_sem,hD,hY,hZ,gA,e2,c,c2,lI,gi];try exact cb)
 | (cases h;done))
     refine fj 0 0 ?_ ?_ (IH (ra,rb,k+1) ⟨g2,g2',h⟩ (Nat.lt_succ_self _))
     ·(simp only[go_sem,hD,hY,hZ,gA,aJ cf,gi];try exact cv)
     ·(simp only[go_sem,hD,hY,hZ,gA,aJ cf,gi];try exact cv)
    ·repeat' (first
 |simp only[go_sem,hD,hY,hZ,gA,e2,c,c2,lI,gi]
 |(with_reducible refine CU (cE _ _) ?_)
 |(with_reducible first|refine bm fun hc=>?_|refine bn fun hc=>?_|refine bo (fun hc=>?_) fun hc=>?_)<;>(try simp only[hc,bs,↓reduceIte]at h)<;>try simp only[hc]
 |(with_reducible refine aE hQ ?_;(try cases h);simp only[aR,aS,bC,bD,go_sem,hD,hY,hZ,gA,e2,c,c2,lI,gi];try exact cb)
 | (cases h;done))
    ·repeat' (first
 |simp only[go_sem,hD,hY,hZ,gA,e2,c,c2,lI,gi]
 |(with_reducible refine CU (cE _ _) ?_)
 |(with_reducible first|refine bm fun hc=>?_|refine bn fun hc=>?_|refine bo (fun hc=>?_) fun hc=>?_)<;>(try simp only[hc,bs,↓reduceIte]at h)<;>try simp only[hc]
 |(with_reducible refine aE hQ ?_;(try cases h);simp only[aR,aS,bC,bD,go_sem,hD,hY,hZ,gA,e2,c,c2,lI,gi];try exact cb)
 | (cases h;done))
    ·repeat' (first
 |simp only[go_sem,hD,hY,hZ,gA,e2,c,c2,lI,gi]
 |(with_reducible refine CU (cE _ _) ?_)
 |(with_reducible first|refine bm fun hc=>?_|refine bn fun hc=>?_|refine bo (fun hc=>?_) fun hc=>?_)<;>(try simp only[hc,bs,↓reduceIte]at h)<;>try simp only[hc]
 |(with_reducible refine aE hQ ?_;(try cases h);simp only[aR,aS,bC,bD,go_sem,hD,hY,hZ,gA,e2,c,c2,lI,gi];try exact cb)
 |(cases h;done))
 ·have e1:((a.length:Int) != (b.length:Int))=true:=by simp;omega
  have:(a==b)=false:=by
   rw[beq_eq_false_iff_ne];intro e;rw[e]at hl;exact hl rfl
  rw[this]at h
  subst h
  refine aG.go tM rfl fun B Q hB hQ=>?_
  have⟨hD,hY,hZ,gA⟩:=bS
  repeat' (first
 |simp only[go_sem,hD,hY,hZ,gA,e1]
 |(with_reducible first|refine bm fun hc=>?_|refine bn fun hc=>?_|refine bo (fun hc=>?_) fun hc=>?_)<;>(try simp only[hc,bs,↓reduceIte]at h)<;>try simp only[hc]
 |(with_reducible refine aE hQ ?_;(try cases h);simp only[aR,aS,bC,bD,go_sem,hD,hY,hZ,gA,e1];try exact cb)
 |(cases h;done))
structure Mc.Len (m:Mc):Prop where
 out:m.out.length<1000000000
 trace:m.trace.length<1000000000
 cB : ∀ e∈m.trace,e.2.length<1000000000
def BB (a b:Mc):Bool:=a.fin==b.fin && (a.steps==b.steps && (a.reads==b.reads && a.out==b.out))
def Eh (a b:Mc):Bool:=BB a b && a.trace==b.trace
theorem Yp {a b:Mc} (ha:a.Len) (s:St):aG Tryz.prog td [.agg (eY a), .agg (eY b)] s (.bool (BB a b)) s:=by
 refine aG.pure ?_ (by simp[D.bI,D.ok,Eg]) rfl s
 have cE:=fun g s=>yT (a:=a.out) (b:=b.out) ha.out g s
 generalize h:BB a b=R
 simp only[BB]at h
 unfold S0
 simp only[eY]
 rcases Bool.eq_false_or_eq_true (a.fin==b.fin)with c1|c1
 all_goals rcases Bool.eq_false_or_eq_true (a.steps==b.steps)with c2|c2
 all_goals rcases Bool.eq_false_or_eq_true (a.reads==b.reads)with c3|c3
 all_goals
  simp only[c1,c2,c3,Bool.true_and,Bool.false_and]at h
  subst h
  refine aG.go DD rfl fun B Q hB hQ=>?_
  have⟨hD,hY,hZ,gA⟩:=bS
  repeat' (first
 |simp only[go_sem,hD,hY,hZ,gA,c1,c2,c3]
 |(with_reducible refine CU (cE _ _) ?_)
 |(with_reducible first|refine bm fun hc=>?_|refine bn fun hc=>?_|refine bo (fun hc=>?_) fun hc=>?_)<;>(try simp only[hc,bs,↓reduceIte]at h)<;>try simp only[hc]
 |(with_reducible refine aE hQ ?_;(try cases h);simp only[aR,aS,bC,bD,go_sem,hD,hY,hZ,gA,c1,c2,c3];try exact cb)
 |(cases h;done))
theorem Yq {a b:Mc} (ha:a.Len) (s:St):aG Tryz.prog pP [.agg (eY a), .agg (eY b)] s (.bool (Eh a b)) s:=by
 refine aG.pure ?_ (by simp[D.bI,D.ok,Eg]) rfl s
 have c1:=fun s=>Yp (b:=b) ha s
 have c2:=fun s=>Q9 (a:=a.trace) (b:=b.trace) ha.trace ha.cB s
 have e : ∀ m:Mc,(eY m).length=5:=fun m=>rfl
 have e0 : ∀ m:Mc,List.take 5 (eY m)=eY m:=fun m=>rfl
 have e4 : ∀ m:Mc,(eY m)[4]? = some (.slice .shared 2 (m.trace.map gi)):=fun m=>rfl
 generalize h:Eh a b=R
 simp only[Eh]at h
 unfold S0
 rcases Bool.eq_false_or_eq_true (BB a b)with b1|b1
 all_goals
  simp only[b1,Bool.true_and,Bool.false_and]at h
  subst h
  refine aG.go DC rfl fun B Q hB hQ=>?_
  have⟨hD,hY,hZ,gA⟩:=bS
  repeat' (first
 |simp only[go_sem,hD,hY,hZ,gA,b1,e,e0,e4]
 |(with_reducible refine CU (c1 _) ?_)
 |(with_reducible refine CU (c2 _) ?_)
 |(with_reducible first|refine bm fun hc=>?_|refine bn fun hc=>?_|refine bo (fun hc=>?_) fun hc=>?_)<;>(try simp only[hc,bs,↓reduceIte]at h)<;>try simp only[hc]
 |(with_reducible refine aE hQ ?_;(try cases h);simp only[aR,aS,bC,bD,go_sem,hD,hY,hZ,gA,b1,e,e0,e4];try exact cb)
 |(cases h;done))
theorem E7:eY (ofM q8 [] [5,2] 50).1 = [.int .i64 1, .int .i64 7, .int .i64 0, .slice .shared 1 ([5,5].map cr), .slice .shared 2 ([(2,[]),(5,[5])].map gi)]:=by kernel_rfl
theorem afW:(ofM q8 [] [5,2] 50).2=0:=by kernel_rfl
theorem Yr:Nat.ble (q8.size+1) 1000=true:=by kernel_rfl
theorem Ra (n:Int):pV (.ofInt .f64) (.int .i64 n) (.int .i64 n)=some (.val (.float .f64 (FloatKind.nearest .f64 n))):=nd rfl
theorem Jo (a b:Nat):pV .G3 (.val (.float .f64 a)) (.val (.float .f64 b))=some (.val (.complex .f64 a b)):=nd rfl
theorem Jp (a b:Nat) (d:D):pV .real (.val (.complex .f64 a b)) d=some (.val (.float .f64 a)):=nd rfl
theorem Wo:pV .eq (.val (.float .f64 (FloatKind.nearest .f64 7))) (.val (.float .f64 4619567317775286272))=some (.bool true):=by
 have:FloatKind.nearest .f64 7=4619567317775286272:=by decide +kernel
 rw[this]
 have h:(FloatKind.f64.format.order 4619567317775286272 4619567317775286272==some .eq)=true:=by decide +kernel
 show(if FloatKind.f64=FloatKind.f64 then some (D.bool (FloatKind.f64.format.order 4619567317775286272 4619567317775286272==some .eq))else none)=_
 rw[if_pos rfl,h]
theorem acx:q8.iU:=by
 have uA:q8.size<100000:=by have:=Nat.le_of_ble_eq_true Yr;omega
 exact⟨Qo (by decide +kernel) (by omega),by omega⟩
theorem acy (n k:Nat) (m:Mc):D.gf n k (eY m)=eY m:=gK n k _ (Eg m)
theorem Ys (m:Mc):(eY m).length=5:=nd rfl
theorem Uk (m:Mc):List.take 5 (eY m)=eY m:=nd rfl
theorem afX (m:Mc):(eY m)[0]? = some (.int .i64 m.fin):=nd rfl
theorem afY (m:Mc):(eY m)[1]? = some (.int .i64 m.steps):=nd rfl
theorem afZ (m:Mc):(eY m)[2]? = some (.int .i64 m.reads):=nd rfl
theorem af0 (m:Mc):(eY m)[3]? = some (.slice .shared 1 (m.out.map cr)):=nd rfl
theorem af1 (m:Mc):(eY m)[4]? = some (.slice .shared 2 (m.trace.map gi)):=nd rfl
attribute [go_sem] acy Ys Uk afX afY afZ af0 af1
theorem Yt (m:Mc) (s:St):aG Tryz.prog wA [.agg (eY m)] s (.val (.complex .f64 (FloatKind.nearest .f64 m.steps) (FloatKind.nearest .f64 m.reads))) s:=by
 refine aG.pure ?_ (by simp[D.bI,D.ok,Eg]) rfl s
 unfold S0
 refine aG.go Gp rfl fun B Q hB hQ=>?_
 have⟨hD,hY,hZ,gA⟩:=bS
 repeat' (first
 |simp only[go_sem,hD,hY,hZ,gA,eY,Ra,Jo]
 |(with_reducible first|refine bm fun hc=>?_|refine bn fun hc=>?_|refine bo (fun hc=>?_) fun hc=>?_)<;>(try simp only[hc,bs,↓reduceIte]at h)<;>try simp only[hc]
 |(with_reducible refine aE hQ ?_;(try cases h);simp only[aR,aS,bC,bD,go_sem,hD,hY,hZ,gA,eY,Ra,Jo];try exact cb)
 |(cases h;done))
theorem af2 (s:St):aG Tryz.prog wy [] s (.bool true) s:=by
 refine aG.pure ?_ rfl rfl s
 have h1:=fun s=>abW s
 have h2:=fun s=>acq (T:= []) (W:= [5,2]) acx (by simp) (by simp) 50 s
 have h4:=fun s=>Yt (ofM q8 [] [5,2] 50).1 s
 have m1:(ofM q8 [] [5,2] 50).1.steps=7:=by have:=congrArg (fun l=>l[1]?) E7;simpa[eY]using this
 have m2:(ofM q8 [] [5,2] 50).1.reads=0:=by have:=congrArg (fun l=>l[2]?) E7;simpa[eY]using this
 rw[m1,m2]at h4
 rw[E7]at h2 h4
 rw[afW]at h2
 simp only[List.map_cons,List.map_nil,cr,gi]at h2 h4
 have h3:=fun g s=>yT (a:= [5,5]) (b:= [5,5]) (by simp) g s
 have h5:=fun g s=>yT (a:= [5]) (b:= [5]) (by simp) g s
 have e5:(([5,5] : List Int) == [5,5])=true:=rfl
 have e6:(([5] : List Int) == [5])=true:=rfl
 rw[e5]at h3
 rw[e6]at h5
 simp only[List.map_cons,List.map_nil,cr]at h3 h5
 have tG:=fun s=>bG.pg (.cons (Wk.refl _) (.cons (Wk.nil .full 0 1) (.cons (Wk.refl _) (.cons (Wk.shared .full _ _) .nil)))) (h2 s)
 have h2 : ∀ s,aG Tryz.prog rF [.agg (cG q8), .slice .full 0 [], .int .i64 50, .slice .full 1 [[.int .i64 5],[.int .i64 2]]] s _ s:=tG
 clear tG
 have z0 : ∀ x:Int,(x==x)=true:=fun x=>beq_self_eq_true x
 have z2:(((2:Nat):Int)==2)=true:=rfl
 unfold S0
 refine aG.go Gl rfl fun B Q hB hQ=>?_
 have⟨hD,hY,hZ,gA⟩:=bS
 repeat' (first
 |simp only[go_sem,hD,hY,hZ,gA,z0,z2,Jp,Wo,Int.toNat_one,List.getElem?_cons_succ,List.getElem?_cons_zero]
 |(with_reducible refine CU (h1 _) ?_)
 |(with_reducible refine CU (h2 _) ?_)
 |(with_reducible refine CU (h3 _ _) ?_)
 |(with_reducible refine CU (h5 _ _) ?_)
 |(with_reducible refine CU (h4 _) ?_)
 |(with_reducible first|refine bm fun hc=>?_|refine bn fun hc=>?_|refine bo (fun hc=>?_) fun hc=>?_)<;>(try simp only[hc,bs,↓reduceIte]at h)<;>try simp only[hc]
 |(with_reducible refine aE hQ ?_;(try cases h);simp only[aR,aS,bC,bD,go_sem,hD,hY,hZ,gA,z0,z2,Jp,Wo,Int.toNat_one,List.getElem?_cons_succ,List.getElem?_cons_zero];try exact cb)
 |(cases h;done))
def Pg.whole (p:Pg) (T:List Int) (fuel:Int):Mc:=(ofM p T (I4 0 p.all) fuel).1
end Go.Abs
namespace Go.Abs
def Reads (n:Nat) (m:Mc):Prop:=0≤m.reads∧m.reads≤(n:Int)∧(m.fin=3→m.reads=(n:Int))
def Sm.tells (s:Sm):Nat:=if s.kind==4 ||(decide (s.kind≥7) && !s.has)then 0 else 1
def Sil (m m':Mc):Prop:=m'.trace=m.trace∧m'.out=m.out∧m'.reads=m.reads
def Tel (T:List Int) (x:Sm) (m m':Mc):Prop:=∃ cB:List Int,m'.trace=m.trace++ [(x.id,cB)]∧m'.out=m.out++(if x.kind==3 then cB else [])∧cB.length=x.tells∧
 (if x.kind==2 then ∃ v,T[m.reads.toNat]? = some v∧cB = [v]∧m'.reads=m.reads+1 else m'.reads=m.reads)
def atB (T:List Int) (x:Sm) (m m':Mc):Prop:=Sil m m'∨Tel T x m m'
def Jq (f:Int→Sm) (k:Int):List (Int×List Int)→List Int
 | []=> []
 |e::l=>(if(f e.1).kind==k then e.2 else [])++Jq f k l
structure al8 (L:List Im) (f:Int→Sm) (T:List Int) (m:Mc):Prop where
 ev : ∀ e∈m.trace,∃ x∈L,x.s.id=e.1∧e.2.length=x.s.tells
 out:Jq f 3 m.trace=m.out
 ins:Jq f 2 m.trace=T.take m.reads.toNat
 reads:0≤m.reads∧m.reads≤(T.length:Int)
def aui (fuel:Int) (m:Mc):Prop:=m.fin=2→m.steps=fuel
def af3 (W:List Int) (l:List (Int×List Int)):List (Int×List Int):=l.filter fun e=>W.contains e.1
def auj (W:List Int) (m:Mc):Mc:= {m with trace:=af3 W m.trace}
structure Run (p:Pg) (T:List Int) (fuel:Int) (m:Mc):Prop where
 run:runM p T (I4 0 p.all) fuel=some m
 of:ofM p T (I4 0 p.all) fuel=(m,0)
 whole:p.whole T fuel=m
 auk:al8 p.aX.L p.afD T m
 told:alG m
 steps:m.steps≤fuel
 len:m.Len
 small:m.trace.length≤fuel.toNat∧m.out.length≤fuel.toNat∧∀ e∈m.trace,e.2.length≤1
theorem N8 (m:Mc):Eh m m=true:=by
 unfold Eh BB
 simp
structure aul (fuel:Int) (r s:Mc):Prop where
 steps:r.steps=fuel
 trace:(r.trace.length:Int)=fuel
 more:r.steps≤s.steps
 reads:r.reads≤s.reads
 out:(decide ((r.out.length:Int)≤(s.out.length:Int)) && r.out==s.out.take r.out.length)=true
 told:fuel≤(s.trace.length:Int)∧s.trace.take fuel.toNat=r.trace
set_option maxRecDepth 8000
open Go.Proofs
abbrev Wp:Mc:=⟨[],[],0,0,0,[],[]⟩
theorem Kd (p:Pg) (T:List Int) (fuel:Int) (s:St):aG Tryz.prog vJ [.agg (cG p), .slice .shared 1 (T.map cr), .int .i64 fuel] s (.bool true) s:=by
 refine aG.pure ?_ (by simp[D.bI,D.ok,Tag.ok,kp,jG]) rfl s
 have h1:=fun s=>af2 s
 have h2:=fun s=>abS p s
 unfold S0
 rcases Bool.eq_false_or_eq_true (decide (p.Bv≤20000))with hw|hw
 case inr=>
  simp only[hw]at h2
  refine aG.go mn rfl fun B Q hB hQ=>?_
  have⟨hD,hY,hZ,gA⟩:=bS
  repeat' (first
 |simp only[go_sem,hD,hY,hZ,gA]
 |(with_reducible refine CU (h1 _) ?_)
 |(with_reducible refine CU (h2 _) ?_)
 |(with_reducible first|refine bm fun hc=>?_|refine bn fun hc=>?_|refine bo (fun hc=>?_) fun hc=>?_)<;>(try simp only[hc,bs,↓reduceIte]at h)<;>try simp only[hc]
 |(with_reducible refine aE hQ ?_;exact fV)
 |(cases h;done))
 simp only[hw]at h2
 obtain⟨dK,af4⟩:=NP (of_decide_eq_true hw)
 have ho:p.iU:=⟨af4,by omega⟩
 have h3:=fun s=>Q6 ho s
 by_cases hl:T.length≤100
 case neg=>
  have c4:decide ((T.length:Int) > 100)=true:=by simp;omega
  rcases Bool.eq_false_or_eq_true (p.check.1==0)with b1|b1
  all_goals rcases Bool.eq_false_or_eq_true (decide (fuel≥0))with b2|b2
  all_goals rcases Bool.eq_false_or_eq_true (decide (fuel≤1000000))with b3|b3
  all_goals rw[b1]at h3
  all_goals
   refine aG.go mn rfl fun B Q hB hQ=>?_
   have⟨hD,hY,hZ,gA⟩:=bS
   repeat' (first
 |simp only[go_sem,hD,hY,hZ,gA,b2,b3,c4]
 |(with_reducible refine CU (h1 _) ?_)
 |(with_reducible refine CU (h2 _) ?_)
 |(with_reducible refine CU (h3 _) ?_)
 |(with_reducible first|refine bm fun hc=>?_|refine bn fun hc=>?_|refine bo (fun hc=>?_) fun hc=>?_)<;>(try simp only[hc,bs,↓reduceIte]at h)<;>try simp only[hc]
 |(with_reducible refine aE hQ ?_;(try cases h);simp only[aR,aS,bC,bD,go_sem,hD,hY,hZ,gA,b2,b3,c4];try exact cb)
 |(cases h;done))
 have c4:decide ((T.length:Int) > 100)=false:=by simp;omega
 by_cases l8:(p.check.1==0 && (decide (fuel≥0) && decide (fuel≤1000000)))=true
 ·simp only [Bool.and_eq_true]at l8
  obtain⟨b1,b2,b3⟩:=l8
  rw[b1]at h3
  refine aG.go mn rfl fun B Q hB hQ=>?_
  have⟨hD,hY,hZ,gA⟩:=bS
  repeat' (first
 |simp only[go_sem,hD,hY,hZ,gA,b2,b3]
 |(with_reducible refine CU (h1 _) ?_)
 |(with_reducible refine CU (h2 _) ?_)
 |(with_reducible refine CU (h3 _) ?_)
 |(with_reducible first|refine bm fun hc=>?_|refine bn fun hc=>?_|refine bo (fun hc=>?_) fun hc=>?_)<;>(try simp only[hc,bs,↓reduceIte]at h)<;>try simp only[hc]
 |(with_reducible refine aE hQ ?_;(try cases h);simp only[aR,aS,bC,bD,go_sem,hD,hY,hZ,gA,b2,b3];try exact cb)
 |(cases h;done))
 have xD:ofM p T [1,2,3] fuel=(Wp,1):=by
  unfold ofM
  rw[if_pos]
  simp only[Bool.and_eq_true,not_and,Bool.not_eq_true,decide_eq_true_eq,decide_eq_false_iff_not]at l8
  rcases Bool.eq_false_or_eq_true (p.check.1==0)with b1|b1
  ·have:=l8 b1
   rw[b1]
   simp only[Bool.or_eq_true,decide_eq_true_eq,Bool.not_true,Bool.false_eq_true,or_false]
   omega
  ·rw[b1];simp
 have zp:=fun s=>acq (T:=T) (W:= [1,2,3]) ho (by omega) (by simp) fuel s
 rw[xD]at zp
 have h4:=fun s=>bG.pg (.cons (Wk.refl _) (.cons (Wk.refl _) (.cons (Wk.refl _) (.cons (Wk.shared .full _ _) .nil)))) (zp s)
 simp only[List.map_cons,List.map_nil,cr]at h4
 have h4 : ∀ s,aG Tryz.prog rF [.agg (cG p), .slice .shared 1 (T.map cr), .int .i64 fuel, .slice .full 1 [[.int .i64 1],[.int .i64 2],[.int .i64 3]]] s _ s:=h4
 have h5':=fun s=>Yq (a:=Wp) (b:=Wp) ⟨by simp,by simp,by simp⟩ s
 rw[N8]at h5'
 have h5:=fun s=>bG.pg (.cons (Wk.refl _) (.cons (d:= .agg [.int .i64 0, .int .i64 0, .int .i64 0, .slice .full 0 [], .slice .full 0 []]) (Wk.agg (.cons (Wk.refl _) (.cons (Wk.refl _) (.cons (Wk.refl _) (.cons (Wk.nil _ _ _) (.cons (Wk.nil _ _ _) .nil)))))) .nil)) (h5' s)
 have h5 : ∀ s,aG Tryz.prog pP [.agg (eY Wp), .agg [.int .i64 0, .int .i64 0, .int .i64 0, .slice .full 0 [], .slice .full 0 []]] s (.bool true) s:=h5
 have z1:((1:Int)==1)=true:=rfl
 rcases Bool.eq_false_or_eq_true (p.check.1==0)with b1|b1
 all_goals rcases Bool.eq_false_or_eq_true (decide (fuel≥0))with b2|b2
 all_goals rcases Bool.eq_false_or_eq_true (decide (fuel≤1000000))with b3|b3
 all_goals first
  |(exfalso;exact l8 (by rw[b1,b2,b3];rfl))
  |skip
 all_goals rw[b1]at h3
 all_goals
  refine aG.go mn rfl fun B Q hB hQ=>?_
  have⟨hD,hY,hZ,gA⟩:=bS
  repeat' (first
 |simp only[go_sem,hD,hY,hZ,gA,b2,b3,c4,z1]
 |(with_reducible refine CU (h1 _) ?_)
 |(with_reducible refine CU (h2 _) ?_)
 |(with_reducible refine CU (h3 _) ?_)
 |(with_reducible refine CU (h4 _) ?_)
 |(with_reducible refine CU (h5 _) ?_)
 |(with_reducible first|refine bm fun hc=>?_|refine bn fun hc=>?_|refine bo (fun hc=>?_) fun hc=>?_)<;>(try simp only[hc,bs,↓reduceIte]at h)<;>try simp only[hc]
 |(with_reducible refine aE hQ ?_;(try cases h);simp only[aR,aS,bC,bD,go_sem,hD,hY,hZ,gA,b2,b3,c4,z1];try exact cb)
 |(cases h;done))
def M0:Map:=⟨fun _ _=>none,fun _=>(0, .any),fun _=>none⟩
def Kept (w w':World):Prop:=w.keptBut w' (fun _=>False)∧∀ a:Addr,a.block<w.heap.size→w'.frozen? a=w.frozen? a
theorem Kept.frame {w w':World} (h:Kept w w') (may:MemPlace→Prop):w.keptBut w' may:=World.keptBut_mono (fun _ f=>f.elim) h.1
theorem Ext.acz {M M':Map} {s':St} {w w':World} (e:Ext M S0 w M' s' w'):Kept w w':=by
 have hh : ∀ b,b<w.heap.size→w'.heap[b]? = w.heap[b]? :=fun b hb=>
  e.kept b hb (fun o ho=>by simp[S0]at ho) (fun t c z hl=>by obtain⟨n,hn⟩:=hl;simp[S0]at hn)
 refine⟨⟨e.os,e.output,fun i hi=>?_⟩,fun a ha=>?_⟩
 ·rw [hh i hi]
  exact(World.keptBut_refl w (fun _=>False)).2.2 i hi
 ·simp only[World.frozen?,hh _ ha]
theorem al9 (G:Nat→Nat→Option Value) (w:World) (h : ∀ b o v,G b o=some v→w.cell? ⟨b,o,none⟩=some v∧v.oneCell'=true):Rel ⟨G,fun _=>(0, .any),fun _=>none⟩ S0 w:=
 ⟨h,fun o ds e=>by simp [S0]at e,fun o ho=>by simp [S0]at ho,fun o o' ho=>by simp [S0]at ho,fun t n e=>by simp [S0]at e,
  fun t b c z o hl=>by obtain⟨n,hn⟩:=hl;simp[S0]at hn,fun t t' b c z c' z' hl=>by obtain⟨n,hn⟩:=hl;simp[S0]at hn⟩
def N9 (w:World):Prop:=∀ g cs,YO g=some cs→∃ T fr,w.heap[g]? = some (.cells cs T fr)
theorem af5 (G:Nat→Nat→Option Value) {w:World} (h:N9 w):Laid ⟨G,fun _=>(0, .any),fun _=>none⟩ S0 w:=
 fun g cs hg=>⟨h g cs hg,fun o ho=>by simp[S0]at ho,fun t c z hl=>by obtain⟨n,hn⟩:=hl;simp[S0]at hn⟩
theorem Rb {P:Program} {f:FuncId} {args:List D} {fz:Array Value} {w:World} {G:Nat→Nat→Option Value} (h:bG P f args S0 fun d _=>d = .bool true)
 (hG : ∀ b o v,G b o=some v→w.cell? ⟨b,o,none⟩=some v∧v.oneCell'=true) (hl:fz.size=args.length)
 (ha : ∀ (i:Nat) (d:D) (v:Value),args[i]? = some d→fz[i]? = some v→RD ⟨G,fun _=>(0, .any),fun _=>none⟩ S0 d v) (kh:N9 w) :
 Calls P f fz w fun e w'=>e = .returned (.bool true)∧Kept w w':=by
 refine(h _ w fz (al9 G w hG) (af5 G kh) hl ha).mono fun e w' hw=>?_
 obtain⟨M',d,v,s',rfl,rfl,he,_,hv⟩:=hw
 rw[hv.nu]
 exact⟨rfl,he.acz⟩
section
variable {P:Program} {H:Type} {enc:TypeId×Value→H}
theorem Jr {f:Func} {s:ChangeSpec} {apart fresh handsOn again:Bool} {W W':World} {args:Array Value} {v:Value} {ds gs:List (DataW H)} {before pa pv:List MemPlace}
 (hW:DataW.Whole enc P f.params.toList s.vars apart W args.toList ds gs before)
 (acA : ∀ (b:Nat) (sp:Nat→Bool) (hd:Bool),DataW.TrodAll enc P W' b sp hd f.resultTypes.toList (v.resultList f.resultTypes.size) (s.fn H (ds++gs)).results [])
 (yc : ∀ sp:Nat→Bool,(∀ p∈before,sp p.block=true)→DataW.TrodAll enc P W' 0 sp true f.params.toList args.toList (s.fn H (ds++gs)).args pa)
 (yQ : ∀ sp:Nat→Bool,(∀ p∈before,sp p.block=true)→DataW.TrodVars enc P W' sp s.vars (s.fn H (ds++gs)).vars pv)
 (qX:before=pa++pv) (hk:Kept W W')
 (l8 : ∀ (j:Nat) (t:TypeId) (r:Value),f.resultTypes[j]? = some t→(v.resultList f.resultTypes.size)[j]? = some r→Value.okWide P W' .any 0 t r) :
 s.post enc P f apart fresh handsOn again W args v W':=by
 have hD : ∀ p∈before,p.block<W.heap.size:=fun p hp=>hW.lt p hp
 have hold : ∀ p∈before,(fun b=>decide (b<W.heap.size)) p.block=true:=fun p hp=>by simpa using hD p hp
 refine⟨ds,gs,before,[],pa,pv,hW,acA _ _ _,yc _ hold,yQ _ hold,World.keptBut_mono (fun p hp=>⟨hp, ?_⟩) (hk.frame (· ∈before)),fun _=>?_⟩
 ·rw [qX,List.mem_append]at hp
  exact Or.inr hp
 ·obtain⟨_,_,_,_,_,hz,hn⟩:=hW
  refine⟨l8,_,_,([]++pa)++pv,⟨[]++pa,pv,ChangeShapes.trodAll_append (yc _ (fun _ _=>rfl)) (acA _ _ _),yQ _ (fun _ _=>rfl),rfl, ?_, ?_⟩, ?_⟩
  ·intro b off hp
   have mw:MemPlace.cell b off∈before:=by rw[qX];simpa using hp
   rw[hk.2 _ (hD _ mw)]
   exact hz b off mw
  ·intro ha
   have:=hn ha
   rw[qX]at this
   simpa using this
  ·intro p hp _
   rw[qX]
   simpa using hp
end
end Go.Abs
namespace Go.Abs
open Go.RowKit Go.ChangeShapes Go.WideShapes
def A7 (w:World) (b o:Nat):Option Value:=
 match w.cell? ⟨b,o,none⟩with
 |some v=>if v.oneCell'=true then some v else none
 |none=>none
theorem K6 {w:World} (b o:Nat) (v:Value) (h:A7 w b o=some v):w.cell? ⟨b,o,none⟩=some v∧v.oneCell'=true:=by
 unfold A7 at h
 split at h
 ·split at h
  ·cases h;exact⟨‹_›, ‹_›⟩
  ·cases h
 ·cases h
def rR (w:World):Map:=⟨A7 w,fun _=>(0, .any),fun _=>none⟩
theorem Kept.sameAt {w w':World} (h:Kept w w') {p:MemPlace} (hp:p.block<w.heap.size):w.sameAt w' p:=by
 have hk:=h.1.2.2 p.block hp
 cases p with
 | cell b off=>
  simp only[MemPlace.block]at hk hp
  simp only[World.sameAt,World.cell?]
  split at hk
  ·rename_i c t fr c' t' KZ e e'
   rw[e,e']
   simp only[hk.2.2.2 off (fun f=>f)]
  ·rename_i es clock z8 acB e e'
   rw[e,e']
  ·rw[hk]
 | map b=>
  simp only[MemPlace.block]at hk hp
  simp only[World.sameAt]
  split at hk
  ·rename_i c t fr c' t' KZ e e'
   rw[e,e']
   obtain⟨rfl,rfl,hs,hc⟩:=hk
   have:c'=c:=by
    apply Array.ext_getElem?
    intro i
    exact hc i (fun f=>f)
   rw[this]
  ·rename_i es clock z8 acB e e'
   rcases hk with f|⟨rfl,rfl⟩
   ·exact f.elim
   ·rw[e,e']
  ·exact hk
section
variable {P:Program} {H:Type} {enc:TypeId×Value→H} {T:TypeId→Prop}
theorem Ei (K:Kids P T) (hz : ∀ {t e:TypeId},T t→P.underlying t=some (.slice e)→0<P.cellsOf e) {W W':World} (hk:Kept W W') {sp:Nat→Bool} :
 ∀ {ts:List TypeId} {vs:List Value} {ds:List (DataW H)} {ps:List MemPlace},(∀ t∈ts,T t)→(∀ p∈ps,p.block<W.heap.size)→(∀ p∈ps,sp p.block=true)→
  DataW.TrodAll enc P W 0 (fun _=>true) true ts vs ds ps→DataW.TrodAll enc P W' 0 sp true ts vs ds ps
 | [],[],[],_,_,_,_,h=>h
 |t::ts,v::vs,d::ds,ps,hT,hD,hs,⟨p,q,⟨n,h1⟩,h2,e⟩=>by
  subst e
  refine⟨p,q,⟨n,DataW.trod_stays K hz (fun f=>by cases f) (hT t (List.mem_cons_self ..)) h1 (fun x hx=>hk.sameAt (hD x (List.mem_append_left _ hx))) (fun x hx=>hs x (List.mem_append_left _ hx))⟩, ?_,rfl⟩
  exact Ei K hz hk (fun t ht=>hT t (List.mem_cons_of_mem _ ht)) (fun x hx=>hD x (List.mem_append_right _ hx)) (fun x hx=>hs x (List.mem_append_right _ hx)) h2
 | [],[],_::_,_,_,_,_,h=>h.elim
 | [],_::_,_,_,_,_,_,h=>h.elim
 |_::_,[],_,_,_,_,_,h=>h.elim
 |_::_,_::_,[],_,_,_,_,h=>h.elim
theorem Ul (K:Kids P T) (hz : ∀ {t e:TypeId},T t→P.underlying t=some (.slice e)→0<P.cellsOf e) {f:Func} {s:ChangeSpec} {apart fresh handsOn again:Bool} {tb:TypeId} {W W':World} {args:Array Value} {ds gs:List (DataW H)} {before:List MemPlace}
 (hT : ∀ t∈f.params.toList,T t) (hb:P.underlying tb=some .bool) (hr:f.resultTypes = #[tb]) (yQ:s.vars = []) (hW:DataW.Whole enc P f.params.toList s.vars apart W args.toList ds gs before)
 (zo:s.fn H (ds++gs) = {results:= [.lit (.bool true)],args:=ds}) (hk:Kept W W'):s.post enc P f apart fresh handsOn again W args (.bool true) W':=by
 have hW':=hW
 have hD : ∀ p∈before,p.block<W.heap.size:=fun p hp=>hW.lt p hp
 obtain⟨p,q,hA,hV,rfl,hfz,QU⟩:=hW
 rw[yQ]at hV
 obtain⟨rfl,rfl⟩:=trodVars_none hV
 simp only[List.append_nil]at hD zo
 refine Jr (pa:=p) (pv:= []) hW' (fun b sp hd=>?_) (fun sp B5=>?_) (fun sp B5=>?_) rfl hk (ok_one hr rfl (okWide_bool_mk hb _))
 ·rw [List.append_nil,zo,hr]
  exact trodAll_cons_mk (shut_bool hb _) trodAll_mk0
 ·rw [List.append_nil,zo]
  simp only[List.append_nil]at B5
  exact Ei K hz hk hT hD B5 hA
 ·rw [List.append_nil,zo,yQ]
  rfl
theorem Yv {f:FuncId} {args:List D} {fz:Array Value} {w:World} (h:bG P f args S0 fun d _=>d = .bool true) (hl:fz.size=args.length)
 (ha : ∀ (i:Nat) (d:D) (v:Value),args[i]? = some d→fz[i]? = some v→RD (rR w) S0 d v) (kh:N9 w):Calls P f fz w fun e w'=>e = .returned (.bool true)∧Kept w w':=
 Rb (G:=A7 w) h K6 hl ha kh
end
end Go.Abs
namespace Go.Abs
open Go.Proofs
def oQ (n:Int):List D:= [.int .i64 n]
theorem af6 (n:Int):D.bI 0 0 (oQ n)=true:=rfl
theorem acD (n m:Nat) (l:List Int):D.kg n m (l.map oQ)=l.map oQ:=lz af6 n m l
attribute [go_sem] oQ acD
def af7 (op:Int):aF:=
 if op=5 then [42]else if op=6 then [47]else if op=7 then [37]else if op=8 then [43]else if op=9 then [45]else if op=10 then [60]else if op=11 then [60,61]
 else if op=12 then [62]else if op=13 then [62,61]else if op=14 then [61,61]else if op=15 then [33,61]else if op=16 then [38,38]else [124,124]
def atC (op:Int):Int:=(aa6 (af7 op)).1
def Rc:Nat→List aF
 | 0=> []
 |n+1=>Rc n++ [[UInt8.ofNat (97+n)]]
end Go.Abs
namespace Go.Abs
open Go.RowKit Go.ChangeShapes Go.WideShapes
theorem Yw {W:World} {a:Addr} {len cap:Nat} {zs:List Int} (hl:len≤cap) (hz:len≤zs.length) (hc : ∀ i,i<zs.length→W.cell? (a.add i)=some (.int .i64 (zs.getD i 0))) :
 RD (rR W) S0 (.slice .shared 1 ((zs.take len).map oQ)) (.slice (some a) len cap):=by
 by_cases h0:len=0
 ·subst h0
  exact .k6 _ _ _
 ·obtain⟨b,off,rfl,ik⟩:=Go.ints_at hc (by omega)
  have hlen:((zs.take len).map oQ).length=len:=by simp;omega
  have e:((zs.take len).map oQ).length=len:=hlen
  have key : ∀ (i:Nat) (row:List D) (j:Nat) (d:D),((zs.take len).map oQ)[i]? = some row→row[j]? = some d→(rR W).G b (off+(i*1+j))=some (.int .i64 (zs.getD i 0))∧d = .int .i64 (zs.getD i 0):=by
   intro i row j d h1 h2
   rw[List.getElem?_map,Option.map_eq_some_iff]at h1
   obtain⟨n,h1,rfl⟩:=h1
   rw[List.getElem?_take]at h1
   split at h1
   ·rename_i hi
    have hd:zs.getD i 0=n:=by rw[List.getD_eq_getElem?_getD,h1];rfl
    have nh:i<zs.length:=(List.getElem?_eq_some_iff.1 h1).1
    cases j with
    |zero=>
     simp[oQ]at h2
     subst h2
     refine⟨?_,by rw[hd]⟩
     have:=ik i nh
     show A7 W b (off+(i*1+0))=_
     unfold A7
     rw[show off+(i*1+0)=off+i by omega,this]
     rfl
    |succ j=>simp[oQ]at h2
   ·cases h1
  have:=RD.slice (M:=rR W) (s:=S0) .shared 1 ((zs.take len).map oQ) b off cap (by omega) (fun row hr=>by obtain⟨n,_,rfl⟩:=List.mem_map.1 hr;rfl)
   (fun i row j d h1 h2=>⟨_,(key i row j d h1 h2).1⟩) (fun i row j d u h1 h2 hu=>by
    obtain⟨k1,k2⟩:=key i row j d h1 h2
    rw[k1]at hu
    cases hu
    rw[k2]
    exact .int _ _) trivial
  rw[hlen]at this
  exact this
end Go.Abs
namespace Go.Abs
open Go.RowKit Go.ChangeShapes Go.WideShapes
def fa (W:World) (ds:List D) (cs:List Value):Prop:=ds.length=cs.length∧(∀ (i:Nat) (d:D) (v:Value),ds[i]? = some d→cs[i]? = some v→RD (rR W) S0 d v)∧∀ v∈cs,v.oneCell'=true
theorem fa.one {W:World} {d:D} {v:Value} (h:RD (rR W) S0 d v) (hv:v.oneCell'=true):fa W [d] [v]:=by
 refine⟨rfl,fun i d' v' h1 h2=>?_,fun u hu=>by simp at hu;subst hu;exact hv⟩
 cases i with
 |zero=>simp at h1 h2;subst h1 h2;exact h
 |succ i=>simp at h1
theorem fa.app {W:World} {ds na:List D} {cs jq:List Value} (h:fa W ds cs) (h':fa W na jq):fa W (ds++na) (cs++jq):=by
 obtain⟨a1,a2,a3⟩:=h
 obtain⟨b1,b2,b3⟩:=h'
 refine⟨by simp[a1,b1],fun i d v h1 h2=>?_,fun v hv=>?_⟩
 ·by_cases hi:i<ds.length
  ·rw [List.getElem?_append_left hi]at h1
   rw[List.getElem?_append_left (by omega)]at h2
   exact a2 i d v h1 h2
  ·rw [List.getElem?_append_right (by omega)]at h1
   rw[List.getElem?_append_right (by omega), ← a1]at h2
   exact b2 _ d v h1 h2
 ·rcases List.mem_append.1 hv with hv | hv
  ·exact a3 v hv
  ·exact b3 v hv
theorem fa.at {W:World} {ds na:List D} {cs:List Value} {o n:Nat} (h:fa W ds ((cs.drop o).take n)) (h':fa W na (cs.drop (o+n))):fa W (ds++na) (cs.drop o):=by
 have e:cs.drop o=(cs.drop o).take n++cs.drop (o+n):=by rw[← List.drop_drop,List.take_append_drop]
 rw[e]
 exact h.app h'
theorem fa.end {W:World} {cs:List Value} {o:Nat} (h:cs.length=o):fa W [] (cs.drop o):=by
 rw[← h,List.drop_length]
 exact⟨rfl,fun i d v h=>by simp at h,fun v hv=>by cases hv⟩
section
variable {H:Type} {enc:TypeId×Value→H} {P:Program} {W:World} {sp:Nat→Bool}
def structOf (P:Program) (t:TypeId):List (TypeId×Nat):=
 match P.underlying t with
 |some (.struct fs)=>fs.toList.map fun f=>(f.type,f.offset)
 |_=> []
theorem lC {t:TypeId} {l:List (TypeId×Nat)} {fuel:Nat} {cs:List Value} {x:DataW H×List MemPlace} (h:structOf P t=l) (eK:l≠ []) (ht:DataW.trod enc P W 0 sp true fuel t cs=some x) :
 ∃ n,fuel=n+1∧cs.length=P.cellsOf t∧∀ (i:Nat) (f:TypeId×Nat),l[i]? = some f→∃ y,DataW.trod enc P W 0 sp true n f.1 ((cs.drop f.2).take (P.cellsOf f.1))=some y:=by
 unfold structOf at h
 split at h
 ·rename_i fs hu
  obtain⟨xs,n,e,_,hl,hlen,hf⟩:=DataW.trod_struct hu ht
  refine⟨n,e,hl,fun i f hi=>?_⟩
  subst h
  rw[List.getElem?_map,Option.map_eq_some_iff]at hi
  obtain⟨g,hg,rfl⟩:=hi
  have B0:fs[i]? = some g:=by simpa using hg
  have hi:i<xs.length:=by rw[hlen];exact(Array.getElem?_eq_some_iff.1 B0).1
  exact⟨xs[i],by rw[hf i g B0,List.getElem?_eq_getElem hi]⟩
 ·exact absurd h.symm eK
theorem GG {t:TypeId} {l:List (TypeId×Nat)} (h:structOf P t=l) (eK:l≠ []) : ∃ fs,P.underlying t=some (.struct fs):=by
 unfold structOf at h
 split at h
 ·exact⟨_, ‹_›⟩
 ·exact absurd h.symm eK
theorem Ch {α:Type} {Q:Nat→α→Prop} : ∀ n,(∀ i,i<n→∃ y,Q i y)→∃ ys:List α,ys.length=n∧∀ i y,ys[i]? = some y→Q i y
 | 0,_=>⟨[],rfl,fun i y h=>by simp at h⟩
 | n+1,h=>by
  obtain⟨ys,h1,h2⟩:=Ch n fun i hi=>h i (by omega)
  obtain⟨y,hy⟩:=h n (by omega)
  refine⟨ys++ [y],by simp[h1],fun i z hz=>?_⟩
  by_cases hi:i<ys.length
  ·rw[List.getElem?_append_left hi]at hz;exact h2 i z hz
  ·rw [List.getElem?_append_right (by omega)]at hz
   have:i - ys.length=0:=by
    rcases Nat.eq_zero_or_pos (i - ys.length)with h|h
    ·exact h
    ·rw[List.getElem?_eq_none (by simp only[List.length_cons,List.length_nil];omega)]at hz;cases hz
   rw[this]at hz
   simp at hz
   subst hz
   have:i=n:=by omega
   subst this
   exact hy
theorem oR {α:Type} (en:α→List D) (good:α→Prop) {z:Nat} {t e:TypeId} {fuel:Nat} {cs:List Value} {x:DataW H×List MemPlace} (ht:P.underlying t=some (.slice e)) (hz:P.cellsOf e=z) (Wj:0<z) (hen : ∀ y,(en y).length=z)
 (hel : ∀ n<fuel,∀ cs x,DataW.trod enc P W 0 sp true n e cs=some x→∃ y,fa W (en y) cs∧good y) (h:DataW.trod enc P W 0 sp true fuel t cs=some x) :
 ∃ ys:List α,fa W [.slice .shared z (ys.map en)] cs∧∀ y∈ys,good y:=by
 rcases DataW.trod_slice ht h with ⟨rfl,_⟩|⟨a,len,cap,elems,rest,n,hn,rfl,_,hb,hl,hm,hlen,ik,_,_⟩
 ·exact⟨[],fa.one (.iz _ _ _ rfl trivial) rfl,fun y hy=>by cases hy⟩
 ·by_cases h0:len=0
  ·subst h0
   exact⟨[],fa.one (.k6 _ _ _) rfl,fun y hy=>by cases hy⟩
  ·obtain⟨ys,hys,ye⟩:=Ch (Q:=fun i y=>good y∧∃ jq,W.cells? 0 (a.add (i*z)) z=some jq∧fa W (en y) jq) len fun i hi=>by
    have hc:=ik i hi
    rw[List.getElem?_eq_getElem (by omega),hz,Option.bind_eq_some_iff]at hc
    obtain⟨jq,h1,h2⟩:=hc
    obtain⟨y,h3,h4⟩:=hel n (by omega) _ _ h2
    exact⟨y,h4,jq,h1,h3⟩
   have cell : ∀ i y,ys[i]? = some y→∀ (j:Nat) d,(en y)[j]? = some d→∃ v,W.cell? ((a.add (i*z)).add j)=some v∧RD (rR W) S0 d v∧v.oneCell'=true:=by
    intro i y hy j d hd
    obtain⟨_,jq,h1,h2,h3,h4⟩:=ye i y hy
    obtain⟨_,k1,k2⟩:=World.cells?_some h1
    have hj:j<z:=by rw[← hen y];exact(List.getElem?_eq_some_iff.1 hd).1
    have hv:jq[j]? = some jq[j]:=List.getElem?_eq_getElem (by omega)
    exact⟨jq[j],by rw[k2 j hj,hv],h3 j d _ hd hv,h4 _ (List.getElem_mem _)⟩
   obtain⟨b,off,spot⟩:=a
   have af8:spot=none:=by
    have hy:ys[0]? = some (ys[0]'(by omega)):=List.getElem?_eq_getElem (by omega)
    obtain⟨d,hd⟩ : ∃ d,(en (ys[0]'(by omega)))[0]? = some d:=⟨_,List.getElem?_eq_getElem (show 0<(en (ys[0]'(by omega))).length by rw[hen];exact Wj)⟩
    obtain⟨v,hv,_⟩:=cell 0 _ hy 0 _ hd
    have:=World.cell?_spot hv
    simpa[Addr.add]using this
   subst af8
   have e:(ys.map en).length=len:=by simp[hys]
   have:=RD.slice (M:=rR W) (s:=S0) .shared z (ys.map en) b off cap (by omega) (fun row hr=>by obtain⟨y,_,rfl⟩:=List.mem_map.1 hr;exact hen y)
    (fun i row j d h1 h2=>by
     rw[List.getElem?_map,Option.map_eq_some_iff]at h1
     obtain⟨y,h1,rfl⟩:=h1
     obtain⟨v,hv,_,h4⟩:=cell i y h1 j d h2
     rw[add_plain,add_plain]at hv
     refine⟨v, ?_⟩
     show A7 W b (off+(i*z+j))=_
     unfold A7
     rw[show off+(i*z+j)=off+i*z+j by omega,hv]
     simp[h4])
    (fun i row j d u h1 h2 hu=>by
     rw[List.getElem?_map,Option.map_eq_some_iff]at h1
     obtain⟨y,h1,rfl⟩:=h1
     obtain⟨v,hv,h3,h4⟩:=cell i y h1 j d h2
     rw[add_plain,add_plain]at hv
     obtain⟨hu,_⟩:=K6 _ _ _ hu
     rw[show off+(i*z+j)=off+i*z+j by omega,hv]at hu
     cases hu
     exact h3) trivial
   rw[e]at this
   refine⟨ys,fa.one this rfl,fun y hy=>?_⟩
   obtain⟨i,hi⟩:=List.getElem?_of_mem hy
   exact(ye i y hi).1
theorem Ej {t:TypeId} {fuel:Nat} {cs:List Value} {x:DataW H×List MemPlace} (ht:P.underlying t=some (.int .i64)) (h:DataW.trod enc P W 0 sp true fuel t cs=some x) : ∃ n:Int,fa W [.int .i64 n] cs∧n≤9223372036854775807∧ -9223372036854775808≤n:=by
 obtain⟨n,rfl,_,hw⟩:=DataW.trod_int ht h
 simp[Lit.wf,IntKind.min,IntKind.max,IntKind.signed,IntKind.bits]at hw
 exact⟨n,fa.one (.int _ _) rfl,by omega,by omega⟩
theorem E9 {t:TypeId} {fuel:Nat} {cs:List Value} {x:DataW H×List MemPlace} (ht:P.underlying t=some .bool) (h:DataW.trod enc P W 0 sp true fuel t cs=some x) : ∃ b:Bool,fa W [.bool b] cs:=by
 obtain⟨n,rfl,_⟩:=DataW.trod_bool ht h
 exact⟨n,fa.one (.bool _) rfl⟩
theorem vk {t:TypeId} {fuel:Nat} {cs:List Value} {x:DataW H×List MemPlace} (ht:P.underlying t=some .string) (h:DataW.trod enc P W 0 sp true fuel t cs=some x) : ∃ s:aF,fa W (encStr s) cs∧s.length≤maxLen:=by
 obtain⟨s,rfl,_,hm⟩:=DataW.trod_string ht h
 obtain⟨⟨l⟩⟩:=s
 exact⟨l,fa.one (.str l) rfl,hm⟩
theorem af9 {tE tI tN tS tK:TypeId} (hE:structOf P tE = [(tI,0),(tN,1),(tS,2),(tK,3)]) (hEc:P.cellsOf tE=4) (hI:P.underlying tI=some (.int .i64)) (hN:P.underlying tN=some (.int .i64)) (hS:P.underlying tS=some .string) (hK:P.underlying tK=some (.slice tE))
 (cI:P.cellsOf tI=1) (cN:P.cellsOf tN=1) (cS:P.cellsOf tS=1) (cK:P.cellsOf tK=1) :
 ∀ (fuel:Nat) (cs:List Value) (x:DataW H×List MemPlace),DataW.trod enc P W 0 sp true fuel tE cs=some x→∃ y:Ex,fa W (bW y) cs∧y.qY:=by
 intro fuel
 induction fuel using Nat.strongRecOn with
 | _ fuel ih=>
  intro cs x h
  obtain⟨n,rfl,hl,hf⟩:=lC hE (by simp) h
  obtain⟨y0,h0⟩:=hf 0 _ rfl
  obtain⟨y1,h1⟩:=hf 1 _ rfl
  obtain⟨y2,h2⟩:=hf 2 _ rfl
  obtain⟨y3,h3⟩:=hf 3 _ rfl
  dsimp only at h0 h1 h2 h3
  rw[cI]at h0
  rw[cN]at h1
  rw[cS]at h2
  rw[cK]at h3
  obtain⟨op,r0,_⟩:=Ej hI h0
  obtain⟨m,r1,hm,_⟩:=Ej hN h1
  obtain⟨s,r2,_⟩:=vk hS h2
  obtain⟨ks,r3,hg⟩:=oR (W:=W) bW Ex.qY hK hEc (by decide) UT (fun k hk cs x hx=>ih k (by omega) cs x hx) h3
  refine⟨⟨op,m,s,ks⟩, ?_,hm, ?_⟩
  ·have:=r0.at (r1.at (r2.at (r3.at (fa.end (by rw [hl,hEc])))))
   rw[iL]
   simpa[encStr]using this
  ·clear r3
   induction ks with
   |nil=>exact trivial
   |cons k ks ihk=>exact⟨hg k (by simp),ihk fun y hy=>hg y (by simp[hy])⟩
theorem fa.agg {ds:List D} {v:Value} (h:fa W ds v.cells.toList) (hv : ∃ vs,v = .agg vs):RD (rR W) S0 (.agg ds) v:=by
 obtain⟨vs,rfl⟩:=hv
 obtain⟨h1,h2,h3⟩:=h
 have e:(Value.agg vs).cells=vs:=rfl
 rw[e]at h1 h2 h3
 refine .agg ds vs (by simpa using h1) (fun v hv=>h3 v (by simpa using hv)) fun i d v hd hv=>h2 i d v hd (by simpa using hv)
end
end Go.Abs
namespace Go.Abs
open Go.Proofs Go.RowKit Go.ChangeShapes Go.WideShapes
section
variable {H:Type} {enc:TypeId×Value→H} {W:World} {sp:Nat→Bool}
theorem Re (fuel:Nat) (cs:List Value) (x:DataW H×List MemPlace) (h:DataW.trod enc Tryz.prog W 0 sp true fuel 50 cs=some x) : ∃ y:Ex,fa W (bW y) cs∧y.qY:=
 af9 (tE:=50) (tI:=3) (tN:=2) (tS:=9) (tK:=48) (by kernel_rfl) (by kernel_rfl) (by kernel_rfl) (by kernel_rfl) (by kernel_rfl) (by kernel_rfl) (by kernel_rfl) (by kernel_rfl) (by kernel_rfl) (by kernel_rfl) _ _ _ h
theorem Yx:Tryz.prog.underlying 22=some (.slice 9):=by kernel_rfl
theorem xO:Tryz.prog.underlying 9=some .string:=by kernel_rfl
theorem Rf:Tryz.prog.underlying 3=some (.int .i64):=by kernel_rfl
theorem Fa:Tryz.prog.underlying 4=some .bool:=by kernel_rfl
theorem A8:Tryz.prog.cellsOf 9=1:=by kernel_rfl
theorem acH:Tryz.prog.cellsOf 3=1:=by kernel_rfl
theorem Fb:Tryz.prog.cellsOf 4=1:=by kernel_rfl
theorem Fc:Tryz.prog.cellsOf 22=1:=by kernel_rfl
theorem Wq:Tryz.prog.cellsOf 50=4:=by kernel_rfl
theorem yU {fuel:Nat} {cs:List Value} {x:DataW H×List MemPlace} (h:DataW.trod enc Tryz.prog W 0 sp true fuel 22 cs=some x) : ∃ l:List aF,fa W [.slice .shared 1 (l.map encStr)] cs:=by
 obtain⟨l,h,_⟩:=oR (W:=W) encStr (fun _=>True) Yx A8 (by decide) (fun _=>rfl) (fun k hk cs x hx=>by
  obtain⟨s,hs,_⟩:=vk xO hx
  exact⟨s,hs,trivial⟩) h
 exact⟨l,h⟩
theorem acI {fuel:Nat} {cs:List Value} {x:DataW H×List MemPlace} (h:DataW.trod enc Tryz.prog W 0 sp true fuel 73 cs=some x) : ∃ y:Pm,fa W (iu y) cs:=by
 obtain⟨n,rfl,hl,hf⟩:=lC (l:= [(9,0),(4,1)]) (by kernel_rfl) (by simp) h
 have hc:Tryz.prog.cellsOf 73=2:=by kernel_rfl
 obtain⟨y0,h0⟩:=hf 0 _ rfl
 obtain⟨y1,h1⟩:=hf 1 _ rfl
 dsimp only at h0 h1
 rw[A8]at h0
 rw[Fb]at h1
 obtain⟨s,r0,_⟩:=vk xO h0
 obtain⟨b,r1⟩:=E9 Fa h1
 refine⟨⟨s,b⟩, ?_⟩
 have:=r0.at (r1.at (fa.end (by rw[hl,hc])))
 simpa[encStr,iu]using this
theorem acJ {fuel:Nat} {cs:List Value} {x:DataW H×List MemPlace} (h:DataW.trod enc Tryz.prog W 0 sp true fuel 123 cs=some x) : ∃ y:Ar,fa W (eg y) cs∧y.x.qY:=by
 obtain⟨n,rfl,hl,hf⟩:=lC (l:= [(4,0),(9,1),(50,2)]) (by kernel_rfl) (by simp) h
 have hc:Tryz.prog.cellsOf 123=6:=by kernel_rfl
 obtain⟨y0,h0⟩:=hf 0 _ rfl
 obtain⟨y1,h1⟩:=hf 1 _ rfl
 obtain⟨y2,h2⟩:=hf 2 _ rfl
 dsimp only at h0 h1 h2
 rw[Fb]at h0
 rw[A8]at h1
 rw[Wq]at h2
 obtain⟨b,r0⟩:=E9 Fa h0
 obtain⟨s,r1,_⟩:=vk xO h1
 obtain⟨e,r2,hr⟩:=Re _ _ _ h2
 refine⟨⟨b,s,e⟩, ?_,hr⟩
 have:=r0.at (r1.at (r2.at (fa.end (by rw[hl,hc]))))
 rw[iL]at this
 simpa[encStr,eg]using this
theorem yV : ∀ {l:List Sm},(∀ s∈l,s.qY)→Sm.wJ l
 | [],_=>trivial
 |s::l,h=>⟨h s (List.mem_cons_self ..),yV fun t m=>h t (List.mem_cons_of_mem _ m)⟩
theorem acK : ∀ (fuel:Nat) (cs:List Value) (x:DataW H×List MemPlace),DataW.trod enc Tryz.prog W 0 sp true fuel 54 cs=some x→∃ y:Sm,fa W (bk y) cs∧y.qY:=by
 intro fuel
 induction fuel using Nat.strongRecOn with
 |_ fuel ih=>
  intro cs x h
  obtain⟨n,rfl,hl,hf⟩:=lC (l:= [(3,0),(3,1),(22,2),(9,3),(9,4),(50,5),(4,9),(51,10),(52,11),(52,12)]) (by kernel_rfl) (by simp) h
  have hc:Tryz.prog.cellsOf 54=13:=by kernel_rfl
  have ca:Tryz.prog.cellsOf 51=1:=by kernel_rfl
  have jq:Tryz.prog.cellsOf 52=1:=by kernel_rfl
  have ua:Tryz.prog.underlying 51=some (.slice 123):=by kernel_rfl
  have us:Tryz.prog.underlying 52=some (.slice 54):=by kernel_rfl
  have ca6:Tryz.prog.cellsOf 123=6:=by kernel_rfl
  obtain⟨y0,h0⟩:=hf 0 _ rfl
  obtain⟨y1,h1⟩:=hf 1 _ rfl
  obtain⟨y2,h2⟩:=hf 2 _ rfl
  obtain⟨y3,h3⟩:=hf 3 _ rfl
  obtain⟨y4,h4⟩:=hf 4 _ rfl
  obtain⟨y5,h5⟩:=hf 5 _ rfl
  obtain⟨y6,h6⟩:=hf 6 _ rfl
  obtain⟨y7,h7⟩:=hf 7 _ rfl
  obtain⟨y8,h8⟩:=hf 8 _ rfl
  obtain⟨y9,h9⟩:=hf 9 _ rfl
  dsimp only at h0 h1 h2 h3 h4 h5 h6 h7 h8 h9
  rw[acH]at h0 h1
  rw[Fc]at h2
  rw[A8]at h3 h4
  rw[Wq]at h5
  rw[Fb]at h6
  rw[ca]at h7
  rw[jq]at h8 h9
  obtain⟨id,r0,_⟩:=Ej Rf h0
  obtain⟨kind,r1,_⟩:=Ej Rf h1
  obtain⟨labels,r2⟩:=yU h2
  obtain⟨name,r3,_⟩:=vk xO h3
  obtain⟨proc,r4,_⟩:=vk xO h4
  obtain⟨e,r5,hr⟩:=Re _ _ _ h5
  obtain⟨b,r6⟩:=E9 Fa h6
  obtain⟨args,r7,ha⟩:=oR (W:=W) eg (fun a=>a.x.qY) ua ca6 (by decide) (fun _=>rfl) (fun k hk cs x hx=>acJ hx) h7
  obtain⟨aY,r8,ht⟩:=oR (W:=W) bk Sm.qY us hc (by decide) GO (fun k hk cs x hx=>ih k (by omega) cs x hx) h8
  obtain⟨aW,r9,he⟩:=oR (W:=W) bk Sm.qY us hc (by decide) GO (fun k hk cs x hx=>ih k (by omega) cs x hx) h9
  refine⟨⟨id,kind,labels,name,proc,e,b,args,aY,aW⟩, ?_,hr,ha,yV ht,yV he⟩
  have:=r0.at (r1.at (r2.at (r3.at (r4.at (r5.at (r6.at (r7.at (r8.at (r9.at (fa.end (by rw[hl,hc])))))))))))
  rw[iL]at this
  rw[eO]
  simpa[encStr]using this
theorem acL {fuel:Nat} {cs:List Value} {x:DataW H×List MemPlace} (h:DataW.trod enc Tryz.prog W 0 sp true fuel 70 cs=some x) : ∃ y:Pc,fa W (cj y) cs∧Sm.wJ y.body:=by
 obtain⟨n,rfl,hl,hf⟩:=lC (l:= [(9,0),(68,1),(22,2),(52,3),(22,4)]) (by kernel_rfl) (by simp) h
 have hc:Tryz.prog.cellsOf 70=5:=by kernel_rfl
 have cp:Tryz.prog.cellsOf 68=1:=by kernel_rfl
 have jq:Tryz.prog.cellsOf 52=1:=by kernel_rfl
 have up:Tryz.prog.underlying 68=some (.slice 73):=by kernel_rfl
 have us:Tryz.prog.underlying 52=some (.slice 54):=by kernel_rfl
 have cp2:Tryz.prog.cellsOf 73=2:=by kernel_rfl
 have amb:Tryz.prog.cellsOf 54=13:=by kernel_rfl
 obtain⟨y0,h0⟩:=hf 0 _ rfl
 obtain⟨y1,h1⟩:=hf 1 _ rfl
 obtain⟨y2,h2⟩:=hf 2 _ rfl
 obtain⟨y3,h3⟩:=hf 3 _ rfl
 obtain⟨y4,h4⟩:=hf 4 _ rfl
 dsimp only at h0 h1 h2 h3 h4
 rw[A8]at h0
 rw[cp]at h1
 rw[Fc]at h2 h4
 rw[jq]at h3
 obtain⟨name,r0,_⟩:=vk xO h0
 obtain⟨ps,r1,_⟩:=oR (W:=W) iu (fun _=>True) up cp2 (by decide) (fun _=>rfl) (fun k hk cs x hx=>by
  obtain⟨y,hy⟩:=acI hx
  exact⟨y,hy,trivial⟩) h1
 obtain⟨vars,r2⟩:=yU h2
 obtain⟨body,r3,hb⟩:=oR (W:=W) bk Sm.qY us amb (by decide) GO (fun k hk cs x hx=>acK k cs x hx) h3
 obtain⟨fin,r4⟩:=yU h4
 refine⟨⟨name,ps,vars,body,fin⟩, ?_,yV hb⟩
 have:=r0.at (r1.at (r2.at (r3.at (r4.at (fa.end (by rw[hl,hc]))))))
 simpa[encStr,cj]using this
theorem acM {fuel:Nat} {cs:List Value} {x:DataW H×List MemPlace} (h:DataW.trod enc Tryz.prog W 0 sp true fuel 25 cs=some x) : ∃ y:Pg,fa W (cG y) cs∧y.qY:=by
 obtain⟨n,rfl,hl,hf⟩:=lC (l:= [(22,0),(23,1)]) (by kernel_rfl) (by simp) h
 have hc:Tryz.prog.cellsOf 25=2:=by kernel_rfl
 have cp:Tryz.prog.cellsOf 23=1:=by kernel_rfl
 have up:Tryz.prog.underlying 23=some (.slice 70):=by kernel_rfl
 have cp5:Tryz.prog.cellsOf 70=5:=by kernel_rfl
 obtain⟨y0,h0⟩:=hf 0 _ rfl
 obtain⟨y1,h1⟩:=hf 1 _ rfl
 dsimp only at h0 h1
 rw[Fc]at h0
 rw[cp]at h1
 obtain⟨globals,r0⟩:=yU h0
 obtain⟨procs,r1,hp⟩:=oR (W:=W) cj (fun f=>Sm.wJ f.body) up cp5 (by decide) (fun _=>rfl) (fun k hk cs x hx=>acL hx) h1
 refine⟨⟨globals,procs⟩, ?_,hp⟩
 have:=r0.at (r1.at (fa.end (by rw[hl,hc])))
 simpa[cG]using this
end
end Go.Abs
namespace Go.Abs
open Go.Proofs Go.ChangeShapes Go.WideShapes Go.ChangeAt Go.RowKit
theorem A9 {H:Type} {enc:TypeId×Value→H} {P:Program} {W:World} {sp:Nat→Bool} {t:TypeId} {ts:List TypeId} {ps:List MemPlace} : ∀ {l:List Value} {ds:List (DataW H)},DataW.TrodAll enc P W 0 sp true (t::ts) l ds ps→
 ∃ v l' d na p q,l=v::l'∧ds=d::na∧DataW.Trod enc P W 0 sp true t v d p∧DataW.TrodAll enc P W 0 sp true ts l' na q
 |v::l,d::ds,⟨p,q,h1,h2,e⟩=>⟨v,l,d,ds,p,q,rfl,rfl,h1,h2⟩
 | [],[],h=>h.elim
 | [],_::_,h=>h.elim
 |_::_,[],h=>h.elim
theorem Um {H:Type} {enc:TypeId×Value→H} {P:Program} {W:World} {sp:Nat→Bool} {ps:List MemPlace} : ∀ {l:List Value} {ds:List (DataW H)},DataW.TrodAll enc P W 0 sp true [] l ds ps→l = []∧ds = []
 | [],[],_=>⟨rfl,rfl⟩
 | [],_::_,h=>h.elim
 |_::_,ds,h=>by cases ds<;>exact h.elim
end Go.Abs
namespace Go.Proofs.YtpjadlleefgcpaaGreat.runForm
open Go.ChangeShapes Go.WideShapes Go.ChangeAt Go.RowKit Go.Abs
theorem own:ownKnob Tryz.prog.godebug=none:=by kernel_rfl
theorem kids:Kids Tryz.prog (· < Tryz.prog.types.size):=kids_rows (by kernel_rfl) (by kernel_rfl)
theorem full : ∀ {t e:TypeId},t<Tryz.prog.types.size→Tryz.prog.underlying t=some (.slice e)→0<Tryz.prog.cellsOf e:=fun {t e}=>slices_full_of Tryz.prog (by kernel_rfl) t e
theorem walk (w:World) (x0:Pg) (Fm:x0.qY) (v0:Value) (Ga:RD (rR w) S0 (.agg (cG x0)) v0) (x1:List Int) (v1:Value) (xc:RD (rR w) S0 (.slice .shared 1 (x1.map cr)) v1) (x2:Int):Calls Tryz.prog 4 #[v0,v1, .int .i64 x2] w fun e w'=>e = .returned (.bool true)∧Kept w w':=by
 refine Yv (args:= [.agg (cG x0), .slice .shared 1 (x1.map cr), .int .i64 x2]) ((Kd x0 x1 x2 S0).mono fun _ _ h=>h.1) rfl ?_ (fun _ _ h=>nomatch h)
 intro i d v h1 h2
 match i,h1,h2 with
 | 0,h1,h2=>simp at h1 h2;subst h1 h2;exact Ga
 | 1,h1,h2=>simp at h1 h2;subst h1 h2;exact xc
 | 2,h1,h2=>simp at h1 h2;subst h1 h2;exact RD.int _ _
set_option maxRecDepth 100000 in
theorem lifted (os : Os) (started : os.Started) (H : Type) (enc : TypeId × Value → H) :
   ReturnsInHanded {} Tryz.checked os 4 .any (Rows.runFormSpec.pre6 enc Tryz.prog Tryz.f4 Rows.runFormRow.domain false) (Rows.runFormSpec.post enc Tryz.prog Tryz.f4 false true false false) := by
 refine returnsInHanded_of_change (C := Tryz.checked) own started (by kernel_rfl) Tryz.func4
   (ChangeSpec.witness6 (enc := enc) (C := Tryz.checked) false ⟨#[], #[.agg #[.slice none 0 0, .slice none 0 0], .slice none 0 0, .int .i64 0], []⟩ 8 (by kernel_rfl) (by kernel_rfl) (by kernel_rfl) (by kernel_rfl)) ?_
 intro W base args ds gs before age hW la _
 have pf : ∀ (j : Nat) t v, Tryz.f4.params[j]? = some t → args[j]? = some v → Value.okWide Tryz.prog W .any base t v := age
 have hW' := hW
 obtain ⟨p, q, hA0, hV, rfl, hfz, QU⟩ := hW
 have hA : DataW.TrodAll enc Tryz.prog W 0 (fun _ => true) true Tryz.f4.params.toList args.toList ds p := hA0
 rw[Tryz.params4]at hA pf
 obtain ⟨l⟩ := args
 obtain ⟨v0, l0, d0, ds0, p0, q0, e0, e0d, V4, hA0⟩ := A9 hA
 obtain ⟨v1, l1, d1, ds1, p1, q1, e1, e1d, FQ, hA1⟩ := A9 hA0
 obtain ⟨v2, l2, d2, ds2, p2, q2, e2, e2d, hd2, hA2⟩ := A9 hA1
 obtain ⟨en, end_⟩ := Um hA2
 have el : l = [v0, v1, v2] := by rw[show l = _ from e0, e1, e2, en]
 subst el
 have ed : ds = [d0, d1, d2] := by rw[e0d, e1d, e2d, end_]
 clear e0d
 subst ed
 have hpg : ∀ (i : Nat) (v : Value), Tryz.f4.params[i]? = some 25 → (⟨[v0, v1, v2]⟩ : Array Value)[i]? = some v → ∀ {d ps}, DataW.Trod enc Tryz.prog W 0 (fun _ => true) true 25 v d ps → ∃ x : Pg, RD (rR W) S0 (.agg (cG x)) v ∧ x.qY := by
   intro i v hp hv d ps ⟨fuel, hf⟩
   obtain ⟨y, h1, h2⟩ := acM hf
   obtain ⟨fs, Dl⟩ := GG (P := Tryz.prog) (t := 25) (l := [(22, 0), (23, 1)]) (by kernel_rfl) (by simp)
   obtain ⟨cs, e, _⟩ := okWide_struct Dl (pf i 25 v (by rw[← Tryz.params4]; exact hp) hv)
   exact ⟨y, h1.agg ⟨cs, e⟩, h2⟩
 obtain ⟨x0, Ga, Fm⟩ := hpg 0 v0 (by rw[Tryz.params4]; rfl) rfl V4
 have amc : ∃ ns : List Int, RD (rR W) S0 (.slice .shared 1 (ns.map cr)) v1 := by
   obtain ⟨a0, LJ, ah8, rfl⟩ := Go.WideShapes.okWide_slice Tryz.underlying26 (pf 1 26 _ rfl rfl)
   obtain ⟨fuel, hf⟩ := FQ
   have hc : Tryz.prog.cellsOf 2 = 1 := by kernel_rfl
   rcases Go.ChangeShapes.open_ints Tryz.underlying26 Tryz.underlying2 hc hf with ⟨ng, _⟩|⟨a, len, cap, zs, ng, _, hle, _, ye, _, ik, _⟩
   · simp [Value.cells] at ng
     obtain ⟨rfl, rfl, rfl⟩ := ng
     exact ⟨[], .iz _ _ _ rfl trivial⟩
   · simp [Value.cells] at ng
     obtain ⟨rfl, rfl, rfl⟩ := ng
     exact ⟨zs.take LJ, Yw hle (by rw[ye]; split<;>omega) ik⟩
 obtain ⟨x1, xc⟩ := amc
 obtain ⟨x2, rfl, rfl, rfl, nh⟩ := open_int Tryz.underlying3 (pf 2 _ _ rfl rfl) hd2
 obtain ⟨rfl, rfl⟩ := trodVars_none hV
 refine (walk W x0 Fm v0 Ga x1 v1 xc x2).mono fun e W' ⟨he, hg⟩ =>?_
 subst he
 exact ⟨_, rfl, Ul kids full (by rw[Tryz.params4]; decide) Tryz.underlying4 (by kernel_rfl) rfl hW' rfl hg⟩
theorem over:Rows.runFormRow.holds Tryz.pinned (OpenSpec.ofChange Rows.runFormSpec):=
 OpenClaim.holds_of_wide 4 Tryz.f4 rfl rfl rfl rfl rfl rfl rfl ⟨rfl,rfl,rfl,rfl,rfl⟩ rfl rfl rfl rfl rfl (by kernel_rfl) Tryz.func4 (by kernel_rfl)
  (of_decide_eq_true (by kernel_rfl)) (by unfold Func.isWrapper;first|(rw[if_pos (by decide +kernel)];kernel_rfl)|(rw[if_neg (by decide +kernel)];exact⟨rfl,rfl⟩))
  (fun os started H enc _=>lifted os started H enc)
theorem proved:Rows.RunFormSaid:=
 over
#print axioms proved
end Go.Proofs.YtpjadlleefgcpaaGreat.runForm
