/-
  What is proved here: the statement CheckPartsSaid: whatever the arguments, the law, called, gives true, and of what was there nothing turns.
  No conditions.
-/
import Derived.Test.YtiopamakecmpkaaGreatCkP3
import Derived.KernelRfl
import Derived.RowKit3
import Derived.Test.YtiopamakecmpkaaGreatRows
import Derived.WalkKit
import Derived.ProofKit
import Derived.OpenShut
import Derived.ShutString
import Derived.ChangeMaps5
import Derived.Lib.ItoaMem
import Derived.Shelf.Strings.Builder1
import Derived.Lib.Join
import Derived.ChangeStays

set_option linter.unusedSimpArgs false
set_option linter.unusedVariables false

/-! Lex3 -/

namespace Go.Abs
set_option maxRecDepth 8000
open Go.Proofs
theorem Ty {c:UInt8} {r:ay} (h:j9 c=true):0<lB (c::r):=by simp [lB,h]
theorem MF {text:ay} (hl:text.length≤100000) {B:eU} {Q:Exit→Tm→St→Prop} {p:List bA×Int×Int} (hB:B.s=S0)
 (hQ:hZ 0 0 [(2,none),(3,some (true,2))] (.tuple [.slice .shared 4 (p.1.map dU), .agg (kB p.2)]) ⟨[],[]⟩=Q)
 {n pos:Nat} {out:List bA} (ho:out.length≤2000) (hp:pos≤text.length) (IH:rb text B Q p (n+1))
 {c:UInt8} {r:ay} (h1:text.drop pos=c::r) (hb:sw c=false) (hc:((c.toNat:Int)==35)=false) (hL:mq c=false) (hD:j9 c=true) (hn:(c::r).length<n+1) (h:il (n+1) pos (c::r) out=p) :
 gp Tryz.prog B 152 yT (jc Tryz.prog B 152 tF Q) (nF text out pos) (oc out):=by
 have hF:0<1:=Nat.zero_lt_one
 have hM:0<1:=Nat.zero_lt_one
 have hE:=(drop_cons h1).1
 have g4:=(drop_cons h1).2.2.2
 have hC:pos<4611686018427387904:=by omega
 have ez:decide ((pos:Int)≥(text.length:Int))=false:=by simp;omega
 have fC:(out.length+1)*41≤bQ:=by simp only [bQ];omega
 have bS:=GH (c::r)
 have k6:=Ty (r:=r) hD
 have rO:(c::r).length=text.length - pos:=by rw [← h1,List.length_drop]
 have AB:=GM (c::r)
 simp only [il,hb,Bool.false_eq_true, ↓reduceIte,hc,kA,hL,hD]at h
 simp only [sw,Bool.or_eq_false_iff]at hb
 generalize hK:lB (c::r)=k at h bS k6 AB
 have hlen:((c::r).take k).length=k:=by rw [List.length_take];omega
 have oD:=fun s=>Sv AB (by rw [hlen];omega) s
 simp only [hlen]at h
 have fp:((c::r).take k)[0]? = some c:=by rw [List.getElem?_take_of_lt k6];rfl
 have e2:(0:Int)≤(pos:Int)∧(pos:Int)≤((pos+k:Nat):Int)∧((pos+k:Nat):Int)≤(text.length:Int):=by omega
 have e3:(text.take (pos+k)).drop pos=(c::r).take k:=by rw [xf,h1]
 have fin:text.drop (pos+k)=(c::r).drop k:=by rw [← h1,List.drop_drop]
 have sQ:((c::r).drop k).length<n:=by rw [List.length_drop];omega
 have dn:pos+k≤text.length:=by omega
 repeat' (first
 | simp only [go_sem,hC,hE,hF,hM,ez,hb.1.1.1,hb.1.1.2,hb.1.2,hb.2,hc,hL,hD]
 | (with_reducible refine CU (gJ _ _) ?_)
 | (with_reducible refine CU (iW _ _) ?_)
 | (with_reducible refine bY (l:=3) (by with_unfolding_all rfl) ?_)
 | (with_reducible refine aH hQ ?_;simp only [aA,aB,bM,bN,go_sem,hC,hE,hF,hM];repeat' (first | exact Ok.out | with_reducible refine aJ ?_ ?_ | (simp;done))))
 refine dc 2 1 (bw.ind (ι:=ay×Nat) (fun i=>text.drop i.2=i.1∧i.2+lB i.1=pos+k) (fun i=>i.1.length)
  (fun i=>nF text out i.2) (fun i=>⟨[[.int .i64 0, .int .i64 0],[.int .i64 0, .str [], .int .i64 0, .int .i64 (pos:Int)]],[some out.length]⟩) ?_ (c::r,pos) ⟨h1,by dsimp only;omega⟩)
 rintro⟨rest,j⟩ ⟨j1,j2⟩ ZS
 dsimp only at j1 j2
 have step : ∀ d oZ,rest=d::oZ→j9 d=true→gp Tryz.prog B 152 Zy (lP (bw Tryz.prog B 152 Zy
  (jz 3 (lP (gp Tryz.prog B 152 Zz (jc Tryz.prog B 152 tF Q)) (jc Tryz.prog B 152 tF Q))))
  (jz 3 (lP (gp Tryz.prog B 152 Zz (jc Tryz.prog B 152 tF Q)) (jc Tryz.prog B 152 tF Q))))
  (nF text out j) ⟨[[.int .i64 0, .int .i64 0],[.int .i64 0, .str [], .int .i64 0, .int .i64 (pos:Int)]],[some out.length]⟩:=by
  rintro d oZ rfl hd
  obtain⟨hE,g2,ez,g5⟩:=drop_cons j1
  have hC:j<4611686018427387904:=by omega
  simp only [lB,hd, ↓reduceIte]at j2
  repeat' (first
 | simp only [go_sem,hC,hE,hF,hM,ez,hd]
 | (with_reducible refine CU (iW _ _) ?_)
 | (with_reducible first | refine bD fun hc=> ?_ | refine bE fun hc=> ?_ | refine bF (fun hc=> ?_) fun hc=> ?_) <;> (try simp only [hc,bs, ↓reduceIte]at h) <;> try simp only [hc]
 | (with_reducible refine aH hQ ?_;(try cases h);simp only [aA,aB,bM,bN,go_sem,hC,hE,hF,hM,ez,hd];repeat' (first | exact Ok.out | with_reducible refine aJ ?_ ?_ | (simp;done))))
  refine dc 2 1 (ZS (oZ,j+1) ⟨g2,by dsimp only;omega⟩ (Nat.lt_succ_self _))
 cases rest with
 | nil=>
  have ez:=drop_nil j1
  simp only [lB,Nat.add_zero]at j2
  subst j2
  by_cases hz:k > 1∧(c.toNat:Int)=48
  ·have z1:decide ((k:Int) > 1)=true:=by simp;omega
   have z2:((c.toNat:Int)==48)=true:=by simp [hz.2]
   rw [if_pos hz]at h
   dsimp only at h
   repeat' (first
 | simp only [go_sem,hC,hE,hF,hM,ez,e2,e3,hlen,fp,z1,z2]
 | (with_reducible refine bY (l:=4) (by with_unfolding_all rfl) ?_)
 | (with_reducible refine bY (l:=5) (by with_unfolding_all rfl) ?_)
 | (with_reducible first | refine bD fun hc=> ?_ | refine bE fun hc=> ?_ | refine bF (fun hc=> ?_) fun hc=> ?_) <;> (try simp only [hc,bs, ↓reduceIte]at h) <;> try simp only [hc]
 | (with_reducible refine aH hQ ?_;(try cases h);simp only [aA,aB,bM,bN,go_sem,hC,hE,hF,hM,ez,e2,e3,hlen,fp,z1,z2];repeat' (first | exact Ok.out | with_reducible refine aJ ?_ ?_ | (simp;done))))
  ·have Hq:decide ((k:Int) > 1)=false∨(decide ((k:Int) > 1)=true∧((c.toNat:Int)==48)=false):=by
    by_cases h1:k > 1
    ·right;exact⟨by simp;omega,by simp;intro h2;exact hz ⟨h1,h2⟩⟩
    ·left;simp;omega
   rw [if_neg hz]at h
   cases hw:qj 0 ((c::r).take k)with
   | none=>
    have Hr:nX ((c::r).take k)=(0,false):=by simp only [nX,hw]
    simp only [Hr]at oD
    simp only [hw]at h
    rcases Hq with z1 | ⟨z1,z2⟩
    ·repeat' (first
 | simp only [go_sem,hC,hE,hF,hM,ez,e2,e3,hlen,fp,z1]
 | (with_reducible refine CU (oD _) ?_)
 | (with_reducible refine bY (l:=4) (by with_unfolding_all rfl) ?_)
 | (with_reducible refine bY (l:=5) (by with_unfolding_all rfl) ?_)
 | (with_reducible first | refine bD fun hc=> ?_ | refine bE fun hc=> ?_ | refine bF (fun hc=> ?_) fun hc=> ?_) <;> (try simp only [hc,bs, ↓reduceIte]at h) <;> try simp only [hc]
 | (with_reducible refine aH hQ ?_;(try cases h);simp only [aA,aB,bM,bN,go_sem,hC,hE,hF,hM,ez,e2,e3,hlen,fp,z1];repeat' (first | exact Ok.out | with_reducible refine aJ ?_ ?_ | (simp;done))))
    ·repeat' (first
 | simp only [go_sem,hC,hE,hF,hM,ez,e2,e3,hlen,fp,z1,z2]
 | (with_reducible refine CU (oD _) ?_)
 | (with_reducible refine bY (l:=4) (by with_unfolding_all rfl) ?_)
 | (with_reducible refine bY (l:=5) (by with_unfolding_all rfl) ?_)
 | (with_reducible first | refine bD fun hc=> ?_ | refine bE fun hc=> ?_ | refine bF (fun hc=> ?_) fun hc=> ?_) <;> (try simp only [hc,bs, ↓reduceIte]at h) <;> try simp only [hc]
 | (with_reducible refine aH hQ ?_;(try cases h);simp only [aA,aB,bM,bN,go_sem,hC,hE,hF,hM,ez,e2,e3,hlen,fp,z1,z2];repeat' (first | exact Ok.out | with_reducible refine aJ ?_ ?_ | (simp;done))))
   | some v=>
    have Hr:nX ((c::r).take k)=(v,true):=by simp only [nX,hw]
    simp only [Hr]at oD
    simp only [hw,hlen]at h
    by_cases qB:out.length=2000
    ·have ju:((out.length:Int)==2000)=true:=by simp [qB]
     simp only [qB, ↓reduceIte]at h
     rcases Hq with z1 | ⟨z1,z2⟩
     ·repeat' (first
 | simp only [go_sem,hC,hE,hF,hM,ez,e2,e3,hlen,fp,z1,ju]
 | (with_reducible refine CU (oD _) ?_)
 | (with_reducible refine bY (l:=4) (by with_unfolding_all rfl) ?_)
 | (with_reducible refine bY (l:=5) (by with_unfolding_all rfl) ?_)
 | (with_reducible first | refine bD fun hc=> ?_ | refine bE fun hc=> ?_ | refine bF (fun hc=> ?_) fun hc=> ?_) <;> (try simp only [hc,bs, ↓reduceIte]at h) <;> try simp only [hc]
 | (with_reducible refine aH hQ ?_;(try cases h);simp only [aA,aB,bM,bN,go_sem,hC,hE,hF,hM,ez,e2,e3,hlen,fp,z1,ju];repeat' (first | exact Ok.out | with_reducible refine aJ ?_ ?_ | (simp;done))))
     ·repeat' (first
 | simp only [go_sem,hC,hE,hF,hM,ez,e2,e3,hlen,fp,z1,z2,ju]
 | (with_reducible refine CU (oD _) ?_)
 | (with_reducible refine bY (l:=4) (by with_unfolding_all rfl) ?_)
 | (with_reducible refine bY (l:=5) (by with_unfolding_all rfl) ?_)
 | (with_reducible first | refine bD fun hc=> ?_ | refine bE fun hc=> ?_ | refine bF (fun hc=> ?_) fun hc=> ?_) <;> (try simp only [hc,bs, ↓reduceIte]at h) <;> try simp only [hc]
 | (with_reducible refine aH hQ ?_;(try cases h);simp only [aA,aB,bM,bN,go_sem,hC,hE,hF,hM,ez,e2,e3,hlen,fp,z1,z2,ju];repeat' (first | exact Ok.out | with_reducible refine aJ ?_ ?_ | (simp;done))))
    ·have ju:((out.length:Int)==2000)=false:=by simp;omega
     have z7 : ∀ t:bA,(out++ [t]).length≤2000:=by intro t;simp;omega
     simp only [qB, ↓reduceIte]at h
     rcases Hq with z1 | ⟨z1,z2⟩
     ·repeat' (first
 | simp only [go_sem,hC,hE,hF,hM,ez,e2,e3,hlen,fp,z1,ju,fC]
 | (with_reducible refine CU (oD _) ?_)
 | (with_reducible refine bY (l:=4) (by with_unfolding_all rfl) ?_)
 | (with_reducible refine bY (l:=5) (by with_unfolding_all rfl) ?_)
 | (refine IH.to hB fin h sQ (z7 _) dn (Nat.lt_succ_self _) ?_ ?_ ?_ <;> ((try simp only [go_sem,hC,hE,hF,hM]);repeat' (first | exact Ok.out | with_reducible refine aJ ?_ ?_ | omega | (simp;done)));done)
 | (with_reducible first | refine bD fun hc=> ?_ | refine bE fun hc=> ?_ | refine bF (fun hc=> ?_) fun hc=> ?_) <;> (try simp only [hc,bs, ↓reduceIte]at h) <;> try simp only [hc]
 | (with_reducible refine aH hQ ?_;(try cases h);simp only [aA,aB,bM,bN,go_sem,hC,hE,hF,hM,ez,e2,e3,hlen,fp,z1,ju,fC];repeat' (first | exact Ok.out | with_reducible refine aJ ?_ ?_ | (simp;done))))
     ·repeat' (first
 | simp only [go_sem,hC,hE,hF,hM,ez,e2,e3,hlen,fp,z1,z2,ju,fC]
 | (with_reducible refine CU (oD _) ?_)
 | (with_reducible refine bY (l:=4) (by with_unfolding_all rfl) ?_)
 | (with_reducible refine bY (l:=5) (by with_unfolding_all rfl) ?_)
 | (refine IH.to hB fin h sQ (z7 _) dn (Nat.lt_succ_self _) ?_ ?_ ?_ <;> ((try simp only [go_sem,hC,hE,hF,hM]);repeat' (first | exact Ok.out | with_reducible refine aJ ?_ ?_ | omega | (simp;done)));done)
 | (with_reducible first | refine bD fun hc=> ?_ | refine bE fun hc=> ?_ | refine bF (fun hc=> ?_) fun hc=> ?_) <;> (try simp only [hc,bs, ↓reduceIte]at h) <;> try simp only [hc]
 | (with_reducible refine aH hQ ?_;(try cases h);simp only [aA,aB,bM,bN,go_sem,hC,hE,hF,hM,ez,e2,e3,hlen,fp,z1,z2,ju,fC];repeat' (first | exact Ok.out | with_reducible refine aJ ?_ ?_ | (simp;done))))
 | cons d rest=>
  obtain⟨hE,g2,ez,g5⟩:=drop_cons j1
  have hC:j<4611686018427387904:=by omega
  cases hd:j9 d
  ·simp only [lB,hd,Bool.false_eq_true, ↓reduceIte,Nat.add_zero]at j2
   subst j2
   by_cases hz:k > 1∧(c.toNat:Int)=48
   ·have z1:decide ((k:Int) > 1)=true:=by simp;omega
    have z2:((c.toNat:Int)==48)=true:=by simp [hz.2]
    rw [if_pos hz]at h
    dsimp only at h
    repeat' (first
 | simp only [go_sem,hC,hE,hF,hM,ez,hd,e2,e3,hlen,fp,z1,z2]
 | (with_reducible refine CU (iW _ _) ?_)
 | (with_reducible refine bY (l:=4) (by with_unfolding_all rfl) ?_)
 | (with_reducible refine bY (l:=5) (by with_unfolding_all rfl) ?_)
 | (with_reducible first | refine bD fun hc=> ?_ | refine bE fun hc=> ?_ | refine bF (fun hc=> ?_) fun hc=> ?_) <;> (try simp only [hc,bs, ↓reduceIte]at h) <;> try simp only [hc]
 | (with_reducible refine aH hQ ?_;(try cases h);simp only [aA,aB,bM,bN,go_sem,hC,hE,hF,hM,ez,hd,e2,e3,hlen,fp,z1,z2];repeat' (first | exact Ok.out | with_reducible refine aJ ?_ ?_ | (simp;done))))
   ·have Hq:decide ((k:Int) > 1)=false∨(decide ((k:Int) > 1)=true∧((c.toNat:Int)==48)=false):=by
     by_cases h1:k > 1
     ·right;exact⟨by simp;omega,by simp;intro h2;exact hz ⟨h1,h2⟩⟩
     ·left;simp;omega
    rw [if_neg hz]at h
    cases hw:qj 0 ((c::r).take k)with
    | none=>
     have Hr:nX ((c::r).take k)=(0,false):=by simp only [nX,hw]
     simp only [Hr]at oD
     simp only [hw]at h
     rcases Hq with z1 | ⟨z1,z2⟩
     ·repeat' (first
 | simp only [go_sem,hC,hE,hF,hM,ez,hd,e2,e3,hlen,fp,z1]
 | (with_reducible refine CU (iW _ _) ?_)
 | (with_reducible refine CU (oD _) ?_)
 | (with_reducible refine bY (l:=4) (by with_unfolding_all rfl) ?_)
 | (with_reducible refine bY (l:=5) (by with_unfolding_all rfl) ?_)
 | (with_reducible first | refine bD fun hc=> ?_ | refine bE fun hc=> ?_ | refine bF (fun hc=> ?_) fun hc=> ?_) <;> (try simp only [hc,bs, ↓reduceIte]at h) <;> try simp only [hc]
 | (with_reducible refine aH hQ ?_;(try cases h);simp only [aA,aB,bM,bN,go_sem,hC,hE,hF,hM,ez,hd,e2,e3,hlen,fp,z1];repeat' (first | exact Ok.out | with_reducible refine aJ ?_ ?_ | (simp;done))))
     ·repeat' (first
 | simp only [go_sem,hC,hE,hF,hM,ez,hd,e2,e3,hlen,fp,z1,z2]
 | (with_reducible refine CU (iW _ _) ?_)
 | (with_reducible refine CU (oD _) ?_)
 | (with_reducible refine bY (l:=4) (by with_unfolding_all rfl) ?_)
 | (with_reducible refine bY (l:=5) (by with_unfolding_all rfl) ?_)
 | (with_reducible first | refine bD fun hc=> ?_ | refine bE fun hc=> ?_ | refine bF (fun hc=> ?_) fun hc=> ?_) <;> (try simp only [hc,bs, ↓reduceIte]at h) <;> try simp only [hc]
 | (with_reducible refine aH hQ ?_;(try cases h);simp only [aA,aB,bM,bN,go_sem,hC,hE,hF,hM,ez,hd,e2,e3,hlen,fp,z1,z2];repeat' (first | exact Ok.out | with_reducible refine aJ ?_ ?_ | (simp;done))))
    | some v=>
     have Hr:nX ((c::r).take k)=(v,true):=by simp only [nX,hw]
     simp only [Hr]at oD
     simp only [hw,hlen]at h
     by_cases qB:out.length=2000
     ·have ju:((out.length:Int)==2000)=true:=by simp [qB]
      simp only [qB, ↓reduceIte]at h
      rcases Hq with z1 | ⟨z1,z2⟩
      ·repeat' (first
 | simp only [go_sem,hC,hE,hF,hM,ez,hd,e2,e3,hlen,fp,z1,ju]
 | (with_reducible refine CU (iW _ _) ?_)
 | (with_reducible refine CU (oD _) ?_)
 | (with_reducible refine bY (l:=4) (by with_unfolding_all rfl) ?_)
 | (with_reducible refine bY (l:=5) (by with_unfolding_all rfl) ?_)
 | (with_reducible first | refine bD fun hc=> ?_ | refine bE fun hc=> ?_ | refine bF (fun hc=> ?_) fun hc=> ?_) <;> (try simp only [hc,bs, ↓reduceIte]at h) <;> try simp only [hc]
 | (with_reducible refine aH hQ ?_;(try cases h);simp only [aA,aB,bM,bN,go_sem,hC,hE,hF,hM,ez,hd,e2,e3,hlen,fp,z1,ju];repeat' (first | exact Ok.out | with_reducible refine aJ ?_ ?_ | (simp;done))))
      ·repeat' (first
 | simp only [go_sem,hC,hE,hF,hM,ez,hd,e2,e3,hlen,fp,z1,z2,ju]
 | (with_reducible refine CU (iW _ _) ?_)
 | (with_reducible refine CU (oD _) ?_)
 | (with_reducible refine bY (l:=4) (by with_unfolding_all rfl) ?_)
 | (with_reducible refine bY (l:=5) (by with_unfolding_all rfl) ?_)
 | (with_reducible first | refine bD fun hc=> ?_ | refine bE fun hc=> ?_ | refine bF (fun hc=> ?_) fun hc=> ?_) <;> (try simp only [hc,bs, ↓reduceIte]at h) <;> try simp only [hc]
 | (with_reducible refine aH hQ ?_;(try cases h);simp only [aA,aB,bM,bN,go_sem,hC,hE,hF,hM,ez,hd,e2,e3,hlen,fp,z1,z2,ju];repeat' (first | exact Ok.out | with_reducible refine aJ ?_ ?_ | (simp;done))))
     ·have ju:((out.length:Int)==2000)=false:=by simp;omega
      have z7 : ∀ t:bA,(out++ [t]).length≤2000:=by intro t;simp;omega
      simp only [qB, ↓reduceIte]at h
      rcases Hq with z1 | ⟨z1,z2⟩
      ·repeat' (first
 | simp only [go_sem,hC,hE,hF,hM,ez,hd,e2,e3,hlen,fp,z1,ju,fC]
 | (with_reducible refine CU (iW _ _) ?_)
 | (with_reducible refine CU (oD _) ?_)
 | (with_reducible refine bY (l:=4) (by with_unfolding_all rfl) ?_)
 | (with_reducible refine bY (l:=5) (by with_unfolding_all rfl) ?_)
 | (refine IH.to hB fin h sQ (z7 _) dn (Nat.lt_succ_self _) ?_ ?_ ?_ <;> ((try simp only [go_sem,hC,hE,hF,hM]);repeat' (first | exact Ok.out | with_reducible refine aJ ?_ ?_ | omega | (simp;done)));done)
 | (with_reducible first | refine bD fun hc=> ?_ | refine bE fun hc=> ?_ | refine bF (fun hc=> ?_) fun hc=> ?_) <;> (try simp only [hc,bs, ↓reduceIte]at h) <;> try simp only [hc]
 | (with_reducible refine aH hQ ?_;(try cases h);simp only [aA,aB,bM,bN,go_sem,hC,hE,hF,hM,ez,hd,e2,e3,hlen,fp,z1,ju,fC];repeat' (first | exact Ok.out | with_reducible refine aJ ?_ ?_ | (simp;done))))
      ·repeat' (first
 | simp only [go_sem,hC,hE,hF,hM,ez,hd,e2,e3,hlen,fp,z1,z2,ju,fC]
 | (with_reducible refine CU (iW _ _) ?_)
 | (with_reducible refine CU (oD _) ?_)
 | (with_reducible refine bY (l:=4) (by with_unfolding_all rfl) ?_)
 | (with_reducible refine bY (l:=5) (by with_unfolding_all rfl) ?_)
 | (refine IH.to hB fin h sQ (z7 _) dn (Nat.lt_succ_self _) ?_ ?_ ?_ <;> ((try simp only [go_sem,hC,hE,hF,hM]);repeat' (first | exact Ok.out | with_reducible refine aJ ?_ ?_ | omega | (simp;done)));done)
 | (with_reducible refine aH hQ ?_;simp only [aA,aB,bM,bN,go_sem,hC,hE,hF,hM];repeat' (first | exact Ok.out | with_reducible refine aJ ?_ ?_ | (simp;done))))
  ·exact step d rest rfl hd
theorem Js {text:ay} (hl:text.length≤100000) {B:eU} {Q:Exit→Tm→St→Prop} {p:List bA×Int×Int} (hB:B.s=S0)
 (hQ:hZ 0 0 [(2,none),(3,some (true,2))] (.tuple [.slice .shared 4 (p.1.map dU), .agg (kB p.2)]) ⟨[],[]⟩=Q)
 {n pos:Nat} {out:List bA} (ho:out.length≤2000) (hp:pos≤text.length) (IH:rb text B Q p (n+1)) {rest:ay} (h1:text.drop pos=rest) (h:il (n+1) pos rest out=p) (hn:rest.length<n+1) :
 gp Tryz.prog B 152 yT (jc Tryz.prog B 152 tF Q) (nF text out pos) (oc out):=by
 cases rest with
 | nil=>exact lex_nil hl hB hQ ho hp IH h1 h
 | cons c r=>
  cases hb:sw c
  ·cases hc:((c.toNat:Int)==35)
   ·cases hL:mq c
    ·cases hD:j9 c
     ·exact Sx hl hB hQ ho hp IH h1 hb hc hL hD hn h
     ·exact MF hl hB hQ ho hp IH h1 hb hc hL hD hn h
    ·exact Sy hl hB hQ ho hp IH h1 hb hc hL hn h
   ·exact Mk hl hB hQ ho hp IH h1 hb hc hn h
  ·exact OV hl hB hQ ho hp IH h1 hb hn h
theorem aaI {text:ay} (hl:text.length≤100000) {B:eU} {Q:Exit→Tm→St→Prop} {p:List bA×Int×Int} (hB:B.s=S0)
 (hQ:hZ 0 0 [(2,none),(3,some (true,2))] (.tuple [.slice .shared 4 (p.1.map dU), .agg (kB p.2)]) ⟨[],[]⟩=Q) : ∀ N,rb text B Q p N:=by
 intro N
 induction N with
 | zero=>intro n pos rest out _ _ _ _ _ h;exact absurd h (Nat.not_lt_zero _)
 | succ N ih=>
  intro n pos rest out h1 h h2 h3 h4 h5
  cases n with
  | zero=>omega
  | succ n=>
   refine nf.wY ?_
   show gp Tryz.prog B 152 yT (jc Tryz.prog B 152 tF Q) (nF text out pos) (oc out)
   exact Js hl hB hQ h3 h4 (fun n' pos' oZ b9 a b c d e f=>ih n' pos' oZ b9 a b c d e (by omega)) h1 h h2
theorem adW (text:ay) (hl:text.length<4611686018427387904) (s:St) :
 aD Tryz.prog yK [.str text] s (.tuple [.slice .shared 4 ((fV text).1.map dU), .agg (kB (fV text).2)]) s:=by
 refine aD.pure ?_ rfl (by simp [D.ok,D.bT,Gl,Tag.ok,kB]) s
 generalize h:fV text=p
 unfold fV at h
 unfold S0
 refine aD.go Iw rfl fun B Q hB hQ=> ?_
 have⟨hC,hE,hF,hM⟩:=bL
 repeat' (first
 | simp only [go_sem,hC,hE,hF,hM]
 | (with_reducible first | refine bD fun hc=> ?_ | refine bE fun hc=> ?_ | refine bF (fun hc=> ?_) fun hc=> ?_) <;> (try simp only [hc,bs, ↓reduceIte]at h) <;> try simp only [hc]
 | (with_reducible refine aH hQ ?_;(try cases h);simp only [aA,aB,bM,bN,go_sem,hC,hE,hF,hM];repeat' (first | exact Ok.out | with_reducible refine aJ ?_ ?_ | (simp;done))))
 refine nf.once (Sem.jR ?_)
 simp only [go_sem,hC,hE,hF,hM]
 refine Sem.jR ?_
 simp only [go_sem,hC,hE,hF,hM]
 refine Sem.jR ?_
 simp only [go_sem,hC,hE,hF,hM]
 refine Sem.jR ?_
 by_cases hz:text.length > 100000
 ·have mV:decide ((text.length:Int) > 100000)=true:=by simp;omega
  rw [if_pos hz]at h
  repeat' (first
 | simp only [go_sem,hC,hE,hF,hM,mV]
 | (with_reducible first | refine bD fun hc=> ?_ | refine bE fun hc=> ?_ | refine bF (fun hc=> ?_) fun hc=> ?_) <;> (try simp only [hc,bs, ↓reduceIte]at h) <;> try simp only [hc]
 | (with_reducible refine aH hQ ?_;(try cases h);simp only [aA,aB,bM,bN,go_sem,hC,hE,hF,hM,mV];repeat' (first | exact Ok.out | with_reducible refine aJ ?_ ?_ | (simp;done))))
 ·have mV:decide ((text.length:Int) > 100000)=false:=by simp;omega
  rw [if_neg hz]at h
  have jg:text.length≤100000:=by omega
  have hQ':hZ 0 0 [(2,none),(3,some (true,2))] (.tuple [.slice .shared 4 (p.1.map dU), .agg (kB p.2)]) ⟨[],[]⟩=Q:=hQ
  repeat' (first
 | simp only [go_sem,hC,hE,hF,hM,mV]
 | (with_reducible refine aH hQ ?_;simp only [aA,aB,bM,bN,go_sem,hC,hE,hF,hM];repeat' (first | exact Ok.out | with_reducible refine aJ ?_ ?_ | (simp;done))))
  refine Sem.jR ?_
  simp only [go_sem,hC,hE,hF,hM]
  refine Sem.pf 4 4 rfl ?_
  simp only [go_sem,hC,hE,hF,hM]
  refine Sem.re _ _ 2 1 (by rw [hB];exact lI rfl) (by rw [hB];exact lI rfl) ?_ ?_ (gL (Js jg hB hQ' (out:= []) (pos:=0) (by simp) (Nat.zero_le _) (aaI jg hB hQ' _) rfl h (by simp)))
  ·(simp only [go_sem,hC,hE,hF,hM];repeat' (first | exact Ok.out | with_reducible refine aJ ?_ ?_))
  ·(simp only [go_sem,hC,hE,hF,hM];repeat' (first | exact Ok.out | with_reducible refine aJ ?_ ?_))
end Go.Abs

/-! MirParse -/

namespace Go.Abs
def tN (l:List bA):Rd:=⟨l,0,0,0,0⟩
def oW (m:Nat) (text:ay):Option (Pg×Int×Int):=
 if(fV text).2.1 != 0 then some (rI,(fV text).2)
 else(Rd.program m (tN (fV text).1)).bind fun p=>if p.2.code != 0 then some (rI,p.2.code,p.2.jk)else(p.1.vV).bind fun q=>some (q,0,0)
def atS (m:Nat) (text:ay):Option (Ex×Int×Int):=
 if(fV text).2.1 != 0 then some (iG,(fV text).2)
 else(Rd.whole m (tN (fV text).1)).bind fun x=>x.2.oK.bind fun b=>
  if b then(x.2.bad 3).bind fun r=>if !r.good then some (iG,r.code,r.jk)else some (x.1,0,0)
  else if !x.2.good then some (iG,x.2.code,x.2.jk)else some (x.1,0,0)
end Go.Abs

/-! Prs7 -/

namespace Go.Abs
set_option maxRecDepth 8000
open Go.Proofs
theorem PV {m:Nat} {r:Rd} {p:Pg×Rd} (h:Rd.program m r=some p) {s:St} {o:Nat} (ho:s.az[o]? = some (cb r)) :
 aD Tryz.prog lx [.ptr o 0] s (.agg (cB p.1)) ⟨s.az.set o (cb p.2),s.aC⟩:=by
 refine aD.jB ?_ rfl (e9 r) (e9 p.2) (by simp [D.ok,jC]) ho
 unfold Rd.program at h
 refine aD.go tG rfl fun B Q hB hQ=> ?_
 have⟨hC,hE,hF,hM⟩:=bL
 repeat' (first
 | simp only [go_sem,hC,hE,hF,hM]
 | (with_reducible refine aH hQ ?_;simp only [aA,aB,bM,bN,go_sem,hC,hE,hF,hM];repeat' (first | exact Ok.out | with_reducible refine aJ ?_ ?_ | (simp;done))))
 rw [Option.bind_eq_some_iff]at h
 obtain⟨q,h,hr⟩:=h
 refine bw.tj 2 0 1 rfl rfl ?_
 simp only [go_sem,hC,hE,hF,hM]
 refine dc 3 1 (bw.ind (ι:=Nat×List ay×Rd×Nat) (fun i=>Rd.globals m i.1 i.2.1 i.2.2.1=some q∧i.2.2.2=i.2.1.length) (fun i=>i.1)
  (fun i=> [(0, .ptr 0 0),(2, .ptr 1 0),(3, .ptr 2 0)]) (fun i=>⟨[cb i.2.2.1,[.slice .full 0 [], .slice .full 0 []],[.slice (.tok 0) 1 (i.2.1.map encStr), .slice .full 0 []]],[some i.2.2.2]⟩) ?_ (m,[],r,0) ⟨h,rfl⟩)
 rintro⟨n,l,r,k⟩ ⟨h,hk⟩ IH
 dsimp only at hk;subst hk
 cases n with
 | zero=>simp only [Rd.globals]at h;cases h
 | succ n=>
  simp only [Rd.globals]at h
  repeat' (first
 | simp only [go_sem,hC,hE,hF,hM]
 | (rw [Option.bind_eq_some_iff]at h;obtain⟨_,h1,h⟩:=h;first | (with_reducible refine CU (rN h1 (by with_unfolding_all rfl)) ?_) | (with_reducible refine CU (Jr h1 (by with_unfolding_all rfl) (by with_unfolding_all rfl)) ?_))
 | (with_reducible first | refine bD fun hc=> ?_ | refine bE fun hc=> ?_ | refine bF (fun hc=> ?_) fun hc=> ?_) <;> (try simp only [hc,bs, ↓reduceIte]at h) <;> try simp only [hc]
 | (with_reducible refine aH hQ ?_;exact lJ)
 | (cases h;replace h:=hr;clear hr;(try simp only [bs, ↓reduceIte]at h))
 | (cases h;done))
  ·refine dc 3 1 (IH (n,_,_,_) ⟨h,rfl⟩ (Nat.lt_succ_self _))
  ·refine dc 3 0 (Hp hB hQ _ h)
theorem Jt {m:Nat} {text:ay} {p:Pg×Int×Int} (h:oW m text=some p) (hl:text.length<4611686018427387904) (s:St) :
 aD Tryz.prog o6 [.str text] s (.tuple [.agg (cB p.1), .agg (kB p.2)]) s:=by
 refine aD.pure ?_ rfl (by simp [D.ok,D.bT,jC,kB]) s
 unfold oW at h
 have aaJ:=adW text hl
 generalize fV text=t at h aaJ
 unfold S0
 refine aD.go BE rfl fun B Q hB hQ=> ?_
 have⟨hC,hE,hF,hM⟩:=bL
 repeat' (first
 | simp only [go_sem,hC,hE,hF,hM,tN]
 | (rw [Option.bind_eq_some_iff]at h;obtain⟨_,h1,h⟩:=h;first | (with_reducible refine CU (PV h1 (by with_unfolding_all rfl)) ?_) | (with_reducible refine CU (S3 h1 _) ?_))
 | (with_reducible refine CU (aaJ _) ?_)
 | (with_reducible first | refine bD fun hc=> ?_ | refine bE fun hc=> ?_ | refine bF (fun hc=> ?_) fun hc=> ?_) <;> (try simp only [hc,bs, ↓reduceIte]at h) <;> try simp only [hc]
 | (with_reducible refine aH hQ ?_;(try cases h);simp only [aA,aB,bM,bN,go_sem,hC,hE,hF,hM,tN];repeat' (first | exact Ok.out | with_reducible refine aJ ?_ ?_ | (simp;done))))
end Go.Abs

/-! Room1 -/

namespace Go.Abs
set_option maxRecDepth 8000
open Go.Proofs
def aaK (n k:Int):Int:=if Int.tmod n k<0 then Int.tmod n k+k else Int.tmod n k
def adX (t:ay):Nat→ay
 | 0=> []
 | n+1=>adX t n++t
def two (i:Nat):ay:= [UInt8.ofNat (48+i / 10),UInt8.ofNat (48+i % 10)]
def aaL (ahead:ay):Nat→ay
 | 0=> []
 | n+1=>(if n=0 then aaL ahead n else aaL ahead n++ [44])++(ahead++ [97]++two n)
def aaM:Nat→ay
 | 0=> []
 | n+1=>aaM n++([112,114,111,99,32,112]++two n++ [40,41,123,125])
end Go.Abs

/-! Al4 -/

namespace Go.Abs
set_option maxRecDepth 8000
open Go.Proofs
def aaN (k:Int):List It→List Int
 | []=> []
 | i::l=>if k==0 || i.s.kind==k then i.s.id::aaN k l else aaN k l
def atT (l:List Int) (n:Int):Int:=match l[(aaK n l.length).toNat]? with | some x=>x | none=>0
def VJ (id:Int):List It→Option It
 | []=>none
 | i::l=>if i.s.id==id then some i else VJ id l
def VK (id:Int):List Pc→Option (It×ay)
 | []=>none
 | f::l=>match VJ id f.flat with | some i=>some (i,f.name) | none=>VK id l
def it0:It:=⟨DS,0,0,false⟩
def amb (r:Option (It×ay)):D:=match r with
 | some (i,nm)=> .tuple [.agg (iL i), .str nm, .bool true]
 | none=> .tuple [.agg (iL it0), .str [], .bool false]
def Pg.atU (p:Pg) (id:Int):Sm:=match VK id p.procs with | some (i,_)=>i.s | none=>DS
end Go.Abs

/-! Full1 -/

namespace Go.Abs
set_option maxRecDepth 8000
open Go.Proofs
def tO (t:ay) (n:Int):Int:=if n > 20000 then 20001 else if(t.length:Int)≥20000 - n then 20001 else n+1+t.length
mutual
def Hs:Ex→Int→Int
 | ⟨_,_,name,kids⟩,n=>Ju kids (tO name n)
def Ju:List Ex→Int→Int
 | [],n=>n
 | x::l,n=>if n≤20000 then Ju l (Hs x n)else n
end
end Go.Abs

/-! Fits1 -/

namespace Go.Abs
set_option maxRecDepth 8000
open Go.Proofs
def wH:List ay→Int→Int
 | [],n=>n
 | t::l,n=>if n≤20000 then wH l (tO t n)else n
def Jv:List Ar→Int→Int
 | [],n=>n
 | a::l,n=>if n≤20000 then Jv l (tO a.name (Hs a.x n))else n
def Jw:List Pm→Int→Int
 | [],n=>n
 | a::l,n=>if n≤20000 then Jw l (tO a.name n)else n
mutual
def aaO:Sm→Int→Int
 | ⟨_,_,labels,name,proc,x,_,args,a7,aX⟩,n=>zD aX (zD a7 (Jv args (tO proc (tO name (wH labels (Hs x n))))))
def zD:List Sm→Int→Int
 | [],n=>n
 | s::l,n=>if n≤20000 then zD l (aaO s n)else n
end
def aaP (f:Pc) (n:Int):Int:=zD f.body (Jw f.params (wH f.fin (wH f.vars (tO f.name n))))
def Jx:List Pc→Int→Int
 | [],n=>n
 | f::l,n=>if n≤20000 then Jx l (aaP f n)else n
def Pg.atV (p:Pg):Int:=Jx p.procs (wH p.globals 0)
end Go.Abs

/-! Fits2 -/

namespace Go.Abs
set_option maxRecDepth 8000
open Go.Proofs
end Go.Abs

/-! MirEq -/

namespace Go.Abs
def A0:List ay→List ay→Bool
 | [],_=>true
 | _::_,[]=>true
 | x::l,y::l'=>if !(x==y)then false else A0 l l'
def Aj (l l':List ay):Bool:=if(l.length:Int) != (l'.length:Int)then false else A0 l l'
def Ar.fa:List Ar→List Ar→Bool
 | [],_=>true
 | _::_,[]=>true
 | a::l,b::l'=>if !(a.ref==b.ref) || !(a.name==b.name) || !(Ex.beq a.x b.x)then false else Ar.fa l l'
mutual
def Sm.beq:Sm→Sm→Bool
 | ⟨id,kind,labels,name,proc,x,has,args,a7,aX⟩,⟨PW,Ck,s4,o4,oh,x',Ht,nz,ze,zf⟩=>
  if id != PW || kind != Ck || !(name==o4) || !(proc==oh) || !(has==Ht) || !(Aj labels s4) || !(Ex.beq x x') || (args.length:Int) != (nz.length:Int)then false
  else if !(Ar.fa args nz)then false
  else if(if(a7.length:Int) != (ze.length:Int)then false else Sm.fa a7 ze)then(if(aX.length:Int) != (zf.length:Int)then false else Sm.fa aX zf)else false
def Sm.fa:List Sm→List Sm→Bool
 | [],_=>true
 | _::_,[]=>true
 | s::l,t::l'=>if !(Sm.beq s t)then false else Sm.fa l l'
end
def Sm.tP (l l':List Sm):Bool:=if(l.length:Int) != (l'.length:Int)then false else Sm.fa l l'
def Pm.fa:List Pm→List Pm→Bool
 | [],_=>true
 | _::_,[]=>true
 | a::l,b::l'=>if !((a.name==b.name) && (a.ref==b.ref))then false else Pm.fa l l'
def Pc.fa:List Pc→List Pc→Bool
 | [],_=>true
 | _::_,[]=>true
 | f::l,g::l'=>
  if !(f.name==g.name) || (f.params.length:Int) != (g.params.length:Int) || !(Aj f.vars g.vars) || !(Aj f.fin g.fin) || !(Sm.tP f.body g.body)then false
  else if !(Pm.fa f.params g.params)then false else Pc.fa l l'
def Pg.beq (p q:Pg):Bool:=if !(Aj p.globals q.globals) || (p.procs.length:Int) != (q.procs.length:Int)then false else Pc.fa p.procs q.procs
theorem Et : ∀ l,A0 l l=true
 | []=>rfl
 | x::l=>by simp [A0,Et l]
theorem A1 (l:List ay):Aj l l=true:=by simp [Aj,Et]
theorem Ar.fH : ∀ l,Ar.fa l l=true
 | []=>rfl
 | x::l=>by simp [Ar.fa,Ar.fH l,Ex.beq_refl]
mutual
theorem Sm.beq_refl : ∀ s,Sm.beq s s=true
 | ⟨id,kind,labels,name,proc,x,has,args,a7,aX⟩=>by simp [Sm.beq,A1,Ex.beq_refl,Ar.fH,Sm.fH a7,Sm.fH aX]
theorem Sm.fH : ∀ l,Sm.fa l l=true
 | []=>rfl
 | x::l=>by simp [Sm.fa,Sm.beq_refl x,Sm.fH l]
end
theorem Sm.PX (l:List Sm):Sm.tP l l=true:=by simp [Sm.tP,Sm.fH]
theorem Pm.fH : ∀ l,Pm.fa l l=true
 | []=>rfl
 | x::l=>by simp [Pm.fa,Pm.fH l]
theorem Pc.fH : ∀ l,Pc.fa l l=true
 | []=>rfl
 | x::l=>by simp [Pc.fa,Pc.fH l,A1,Sm.PX,Pm.fH]
theorem Pg.beq_refl (p:Pg):Pg.beq p p=true:=by simp [Pg.beq,A1,Pc.fH]
end Go.Abs

/-! RefEq -/

namespace Go.Abs
set_option maxRecDepth 8000
open Go.Proofs
theorem u3 {l l':List ay} (hl:l.length<4611686018427387904) (s:St):aD Tryz.prog kl [.slice .shared 1 (l.map encStr), .slice .shared 1 (l'.map encStr)] s (.bool (Aj l l')) s:=by
 refine aD.pure ?_ (by simp [D.bT,D.ok,Tag.ok,eI]) rfl s
 generalize h:Aj l l'=p
 simp only [Aj]at h
 unfold S0
 refine aD.go AL rfl fun B Q hB hQ=> ?_
 have⟨hC,hE,hF,hM⟩:=bL
 repeat' (first
 | simp only [go_sem,hC,hE,hF,hM]
 | (with_reducible first | refine bD fun hc=> ?_ | refine bE fun hc=> ?_ | refine bF (fun hc=> ?_) fun hc=> ?_) <;> (try simp only [hc,bs, ↓reduceIte]at h) <;> try simp only [hc]
 | (with_reducible refine aH hQ ?_;(try cases h);simp only [aA,aB,bM,bN,go_sem,hC,hE,hF,hM];repeat' (first | exact Ok.out | with_reducible refine aJ ?_ ?_ | (simp;done))))
 have Vr:l.length=l'.length:=by
  have:((l.length:Int) != (l'.length:Int))=false:=by assumption
  simp only [bne_eq_false_iff_eq]at this
  omega
 refine dc 0 0 (bw.ind (ι:=List ay×List ay×Nat) (fun i=>l.drop i.2.2=i.1∧l'.drop i.2.2=i.2.1∧A0 i.1 i.2.1=p) (fun i=>i.1.length)
  (fun i=> [(0, .slice .shared 1 (l.map encStr)),(1, .slice .shared 1 (l'.map encStr)),(12, .int .i64 (l.length:Int)),(13, .int .i64 (i.2.2:Int))]) (fun i=>⟨[],[]⟩) ?_ (l,l',0) ⟨rfl,rfl,h⟩)
 rintro⟨r1,r2,k⟩ ⟨h1,h2,h⟩ IH
 dsimp only at h1 h2 h
 cases r1 with
 | nil=>
  have hC:=drop_nil h1
  simp only [A0]at h
  repeat' (first
 | simp only [go_sem,hC,hE,hF,hM]
 | (with_reducible first | refine bD fun hc=> ?_ | refine bE fun hc=> ?_ | refine bF (fun hc=> ?_) fun hc=> ?_) <;> (try simp only [hc,bs, ↓reduceIte]at h) <;> try simp only [hc]
 | (with_reducible refine aH hQ ?_;exact lJ)
 | (cases h;done))
 | cons a r1=>
  obtain⟨hE,g2,hC,g4⟩:=drop_cons h1
  cases r2 with
  | nil=>have:=List.drop_eq_nil_iff.1 h2;omega
  | cons b r2=>
   obtain⟨mr,b2,_,_⟩:=drop_cons h2
   have bS:k<4611686018427387904:=by omega
   simp only [A0]at h
   repeat' (first
 | simp only [go_sem,hC,hE,hF,hM,mr]
 | (with_reducible first | refine bD fun hc=> ?_ | refine bE fun hc=> ?_ | refine bF (fun hc=> ?_) fun hc=> ?_) <;> (try simp only [hc,bs, ↓reduceIte]at h) <;> try simp only [hc]
 | (with_reducible refine aH hQ ?_;(try cases h);simp only [aA,aB,bM,bN,go_sem,hC,hE,hF,hM,mr];try exact rH)
 | (cases h;done))
   refine dV 0 0 ?_ ?_ (IH (r1,r2,k+1) ⟨g2,b2,h⟩ (Nat.lt_succ_self _))
   ·(simp only [go_sem,hC,hE,hF,hM,aP bS];try exact bR)
   ·(simp only [go_sem,hC,hE,hF,hM,aP bS];try exact bR)
abbrev Dv (N:Nat):Prop:=∀ s t:Sm,s.size<N→∀ st:St,aD Tryz.prog p8 [.agg (bh s), .agg (bh t)] st (.bool (Sm.beq s t)) st
abbrev MG (N:Nat):Prop:=∀ l l':List Sm,Sm.aR l<N→∀ st:St,aD Tryz.prog km [.slice .shared 13 (l.map bh), .slice .shared 13 (l'.map bh)] st (.bool (Sm.tP l l')) st
theorem Tz {N:Nat} (hN:N<4611686018427387904) (one:Dv N):MG (N+1):=by
 intro l l' hs st
 have hl:l.length<4611686018427387904:=by have:=Sm.c9 l;omega
 have hk : ∀ a∈l,∀ b s,aD Tryz.prog p8 [.agg (bh a), .agg (bh b)] s (.bool (Sm.beq a b)) s:=fun a ha b s=>
  one a b (by have:=Sm.cd ha;omega) s
 refine aD.pure ?_ (by simp [D.bT,D.ok,Tag.ok,nB]) rfl st
 generalize h:Sm.tP l l'=p
 simp only [Sm.tP]at h
 unfold S0
 refine aD.go AN rfl fun B Q hB hQ=> ?_
 have⟨hC,hE,hF,hM⟩:=bL
 repeat' (first
 | simp only [go_sem,hC,hE,hF,hM]
 | (with_reducible first | refine bD fun hc=> ?_ | refine bE fun hc=> ?_ | refine bF (fun hc=> ?_) fun hc=> ?_) <;> (try simp only [hc,bs, ↓reduceIte]at h) <;> try simp only [hc]
 | (with_reducible refine aH hQ ?_;exact lJ)
 | (cases h;done))
 have Vr:l.length=l'.length:=by
  have:((l.length:Int) != (l'.length:Int))=false:=by assumption
  simp only [bne_eq_false_iff_eq]at this
  omega
 refine dc 0 0 (bw.ind (ι:=List Sm×List Sm×Nat) (fun i=>l.drop i.2.2=i.1∧l'.drop i.2.2=i.2.1∧Sm.fa i.1 i.2.1=p) (fun i=>i.1.length)
  (fun i=> [(0, .slice .shared 13 (l.map bh)),(1, .slice .shared 13 (l'.map bh)),(12, .int .i64 (l.length:Int)),(13, .int .i64 (i.2.2:Int))]) (fun i=>⟨[],[]⟩) ?_ (l,l',0) ⟨rfl,rfl,h⟩)
 rintro⟨r1,r2,k⟩ ⟨h1,h2,h⟩ IH
 dsimp only at h1 h2 h
 cases r1 with
 | nil=>
  have hC:=drop_nil h1
  simp only [Sm.fa]at h
  repeat' (first
 | simp only [go_sem,hC,hE,hF,hM]
 | (with_reducible first | refine bD fun hc=> ?_ | refine bE fun hc=> ?_ | refine bF (fun hc=> ?_) fun hc=> ?_) <;> (try simp only [hc,bs, ↓reduceIte]at h) <;> try simp only [hc]
 | (with_reducible refine aH hQ ?_;exact lJ)
 | (cases h;done))
 | cons a r1=>
  obtain⟨hE,g2,hC,g4⟩:=drop_cons h1
  cases r2 with
  | nil=>have:=List.drop_eq_nil_iff.1 h2;omega
  | cons b r2=>
   obtain⟨mr,b2,_,_⟩:=drop_cons h2
   have bS:k<4611686018427387904:=by omega
   have Aa:=hk a (List.mem_of_getElem? hE)
   simp only [Sm.fa]at h
   repeat' (first
 | simp only [go_sem,hC,hE,hF,hM,mr]
 | (with_reducible refine CU (Aa _ _) ?_)
 | (with_reducible first | refine bD fun hc=> ?_ | refine bE fun hc=> ?_ | refine bF (fun hc=> ?_) fun hc=> ?_) <;> (try simp only [hc,bs, ↓reduceIte]at h) <;> try simp only [hc]
 | (with_reducible refine aH hQ ?_;(try cases h);simp only [aA,aB,bM,bN,go_sem,hC,hE,hF,hM,mr];try exact rH)
 | (cases h;done))
   refine dV 0 0 ?_ ?_ (IH (r1,r2,k+1) ⟨g2,b2,h⟩ (Nat.lt_succ_self _))
   ·(simp only [go_sem,hC,hE,hF,hM,aP bS];try exact bR)
   ·(simp only [go_sem,hC,hE,hF,hM,aP bS];try exact bR)
theorem MH {N:Nat} (hN:N<4611686018427387904) (eql:MG N):Dv (N+1):=by
 rintro⟨id,kind,labels,name,proc,x,has,args,a7,aX⟩ ⟨PW,Ck,s4,o4,oh,x',Ht,nz,ze,zf⟩ hs st
 simp only [Sm.size]at hs
 refine aD.pure ?_ (by simp [D.bT,D.ok,mC]) rfl st
 have zY:=Ar.c9 args
 have hT:=fun s=>u3 (l:=labels) (l':=s4) (by omega) s
 have hX:=fun s=>GO (x:=x) (y:=x') (by omega) s
 simp only [ib]at hX
 have h1:=eql a7 ze (by omega)
 have h2:=eql aX zf (by omega)
 generalize h:Sm.beq ⟨id,kind,labels,name,proc,x,has,args,a7,aX⟩ ⟨PW,Ck,s4,o4,oh,x',Ht,nz,ze,zf⟩=p
 simp only [Sm.beq]at h
 change (if id != PW || kind != Ck || !(name==o4) || !(proc==oh) || !(has==Ht) || !(Aj labels s4) || !(Ex.beq x x') || (args.length:Int) != (nz.length:Int)then false
  else if !(Ar.fa args nz)then false else if Sm.tP a7 ze then Sm.tP aX zf else false)=p at h
 unfold S0
 refine aD.go Da rfl fun B Q hB hQ=> ?_
 have⟨hC,hE,hF,hM⟩:=bL
 repeat' (first
 | simp only [go_sem,hC,hE,hF,hM]
 | (with_reducible refine CU (hT _) ?_)
 | (with_reducible refine CU (hX _) ?_)
 | (with_reducible first | refine bD fun hc=> ?_ | refine bE fun hc=> ?_ | refine bF (fun hc=> ?_) fun hc=> ?_) <;> (try simp only [hc,bs, ↓reduceIte]at h) <;> try simp only [hc]
 | (with_reducible refine aH hQ ?_;exact lJ)
 | (cases h;done))
 have Vr:args.length=nz.length:=by
  have:((args.length:Int) != (nz.length:Int))=false:=by assumption
  simp only [bne_eq_false_iff_eq]at this
  omega
 refine dc 2 0 (bw.ind (ι:=List Ar×List Ar×Nat) (fun i=>args.drop i.2.2=i.1∧nz.drop i.2.2=i.2.1∧(if !(Ar.fa i.1 i.2.1)then false else if Sm.tP a7 ze then Sm.tP aX zf else false)=p) (fun i=>i.1.length)
  (fun i=> [(2, .ptr 0 0),(3, .ptr 1 0),(66, .int .i64 (args.length:Int)),(67, .int .i64 (i.2.2:Int))]) (fun i=>⟨[bh ⟨id,kind,labels,name,proc,x,has,args,a7,aX⟩,bh ⟨PW,Ck,s4,o4,oh,x',Ht,nz,ze,zf⟩],[]⟩) ?_ (args,nz,0) ⟨rfl,rfl,h⟩)
 rintro⟨r1,r2,k⟩ ⟨j1,j2,h⟩ IH
 dsimp only at j1 j2 h
 cases r1 with
 | nil=>
  have hC:=drop_nil j1
  simp only [Ar.fa,Bool.not_true,Bool.false_eq_true, ↓reduceIte]at h
  repeat' (first
 | simp only [go_sem,hC,hE,hF,hM]
 | (with_reducible refine CU (h1 _) ?_)
 | (with_reducible refine CU (h2 _) ?_)
 | (with_reducible first | refine bD fun hc=> ?_ | refine bE fun hc=> ?_ | refine bF (fun hc=> ?_) fun hc=> ?_) <;> (try simp only [hc,bs, ↓reduceIte]at h) <;> try simp only [hc]
 | (with_reducible refine aH hQ ?_;exact lJ)
 | (cases h;done))
 | cons a r1=>
  obtain⟨hE,g2,hC,g4⟩:=drop_cons j1
  cases r2 with
  | nil=>have:=List.drop_eq_nil_iff.1 j2;omega
  | cons b r2=>
   obtain⟨mr,b2,_,_⟩:=drop_cons j2
   have bS:k<4611686018427387904:=by omega
   have hax:a.x.size<4611686018427387904:=by have:=Ar.cd (List.mem_of_getElem? hE);omega
   have Aa:=fun s=>GO (x:=a.x) (y:=b.x) hax s
   simp only [Ar.fa]at h
   repeat' (first
 | simp only [go_sem,hC,hE,hF,hM,mr]
 | (with_reducible refine CU (Aa _) ?_)
 | (with_reducible first | refine bD fun hc=> ?_ | refine bE fun hc=> ?_ | refine bF (fun hc=> ?_) fun hc=> ?_) <;> (try simp only [hc,bs, ↓reduceIte]at h) <;> try simp only [hc]
 | (with_reducible refine aH hQ ?_;(try cases h);simp only [aA,aB,bM,bN,go_sem,hC,hE,hF,hM,mr];try exact rH)
 | (cases h;done))
   refine dV 2 0 ?_ ?_ (IH (r1,r2,k+1) ⟨g2,b2,h⟩ (Nat.lt_succ_self _))
   ·(simp only [go_sem,hC,hE,hF,hM,aP bS];try exact bR)
   ·(simp only [go_sem,hC,hE,hF,hM,aP bS];try exact bR)
theorem aaQ : ∀ N,N<4611686018427387904→Dv N∧MG N:=by
 intro N
 induction N with
 | zero=>exact fun _=>⟨fun s t h=>absurd h (Nat.not_lt_zero _),fun l l' h=>absurd h (Nat.not_lt_zero _)⟩
 | succ N ih=>
  intro h
  have:=ih (by omega)
  exact⟨MH (by omega) this.2,Tz (by omega) this.1⟩
theorem PY {l l':List Sm} (h:Sm.aR l<4611686018427387000) (st:St):aD Tryz.prog km [.slice .shared 13 (l.map bh), .slice .shared 13 (l'.map bh)] st (.bool (Sm.tP l l')) st:=
 (aaQ (Sm.aR l+1) (by omega)).2 l l' (Nat.lt_succ_self _) st
end Go.Abs

/-! RefEq2 -/

namespace Go.Abs
set_option maxRecDepth 8000
open Go.Proofs
theorem aaR {a b:Pg} (hs:a.size<1073741824) (st:St):aD Tryz.prog pC [.agg (cB a), .agg (cB b)] st (.bool (Pg.beq a b)) st:=by
 obtain⟨g,ps⟩:=a
 obtain⟨g',Hu⟩:=b
 simp only [Pg.size]at hs
 have sj:=Pc.c9 ps
 refine aD.pure ?_ (by simp [D.bT,D.ok,jC]) rfl st
 have hT:=fun s=>u3 (l:=g) (l':=g') (by omega) s
 generalize h:Pg.beq ⟨g,ps⟩ ⟨g',Hu⟩=p
 simp only [Pg.beq]at h
 unfold S0
 refine aD.go Iv rfl fun B Q hB hQ=> ?_
 have⟨hC,hE,hF,hM⟩:=bL
 repeat' (first
 | simp only [go_sem,hC,hE,hF,hM]
 | (with_reducible refine CU (hT _) ?_)
 | (with_reducible first | refine bD fun hc=> ?_ | refine bE fun hc=> ?_ | refine bF (fun hc=> ?_) fun hc=> ?_) <;> (try simp only [hc,bs, ↓reduceIte]at h) <;> try simp only [hc]
 | (with_reducible refine aH hQ ?_;exact lJ)
 | (cases h;done))
 have Vr:ps.length=Hu.length:=by
  have:((ps.length:Int) != (Hu.length:Int))=false:=by assumption
  simp only [bne_eq_false_iff_eq]at this
  omega
 refine dc 2 0 (bw.ind (ι:=List Pc×List Pc×Nat) (fun i=>ps.drop i.2.2=i.1∧Hu.drop i.2.2=i.2.1∧Pc.fa i.1 i.2.1=p) (fun i=>i.1.length)
  (fun i=> [(2, .ptr 0 0),(3, .ptr 1 0),(26, .int .i64 (ps.length:Int)),(27, .int .i64 (i.2.2:Int))]) (fun i=>⟨[cB ⟨g,ps⟩,cB ⟨g',Hu⟩],[]⟩) ?_ (ps,Hu,0) ⟨rfl,rfl,h⟩)
 rintro⟨r1,r2,k⟩ ⟨j1,j2,h⟩ IH
 dsimp only at j1 j2 h
 cases r1 with
 | nil=>
  have hC:=drop_nil j1
  simp only [Pc.fa]at h
  repeat' (first
 | simp only [go_sem,hC,hE,hF,hM]
 | (with_reducible first | refine bD fun hc=> ?_ | refine bE fun hc=> ?_ | refine bF (fun hc=> ?_) fun hc=> ?_) <;> (try simp only [hc,bs, ↓reduceIte]at h) <;> try simp only [hc]
 | (with_reducible refine aH hQ ?_;exact lJ)
 | (cases h;done))
 | cons x r1=>
  obtain⟨hE,g2,hC,g4⟩:=drop_cons j1
  cases r2 with
  | nil=>have:=List.drop_eq_nil_iff.1 j2;omega
  | cons y r2=>
   obtain⟨mr,b2,_,_⟩:=drop_cons j2
   have bS:k<4611686018427387904:=by omega
   have ep:=Pc.cd (List.mem_of_getElem? hE)
   obtain⟨name,params,vars,body,fin⟩:=x
   obtain⟨o4,wI,vars',VL,aaS⟩:=y
   simp only [Pc.size]at ep
   have h1:=fun s=>u3 (l:=vars) (l':=vars') (by omega) s
   have h2:=fun s=>u3 (l:=fin) (l':=aaS) (by omega) s
   have h3:=fun s=>PY (l:=body) (l':=VL) (by omega) s
   simp only [Pc.fa]at h
   repeat' (first
 | simp only [go_sem,hC,hE,hF,hM,mr]
 | (with_reducible refine CU (h1 _) ?_)
 | (with_reducible refine CU (h2 _) ?_)
 | (with_reducible refine CU (h3 _) ?_)
 | (with_reducible first | refine bD fun hc=> ?_ | refine bE fun hc=> ?_ | refine bF (fun hc=> ?_) fun hc=> ?_) <;> (try simp only [hc,bs, ↓reduceIte]at h) <;> try simp only [hc]
 | (with_reducible refine aH hQ ?_;(try cases h);simp only [aA,aB,bM,bN,go_sem,hC,hE,hF,hM,mr];try exact rH)
 | (cases h;done))
   have hm5:params.length=wI.length:=by
    have:((params.length:Int) != (wI.length:Int))=false:=by assumption
    simp only [bne_eq_false_iff_eq]at this
    omega
   refine dc 4 0 (bw.ind (ι:=List Pm×List Pm×Nat) (fun i=>params.drop i.2.2=i.1∧wI.drop i.2.2=i.2.1∧(if !(Pm.fa i.1 i.2.1)then false else Pc.fa r1 r2)=p) (fun i=>i.1.length)
    (fun i=> [(2, .ptr 0 0),(3, .ptr 1 0),(6, .ptr 2 0),(7, .ptr 3 0),(26, .int .i64 (ps.length:Int)),(27, .int .i64 (k:Int)),(80, .int .i64 (params.length:Int)),(81, .int .i64 (i.2.2:Int))])
    (fun i=>⟨[cB ⟨g,ps⟩,cB ⟨g',Hu⟩,cL ⟨name,params,vars,body,fin⟩,cL ⟨o4,wI,vars',VL,aaS⟩],[]⟩) ?_ (params,wI,0) ⟨rfl,rfl,h⟩)
   rintro⟨s1,s2,q⟩ ⟨i1,i2,h⟩ IHm
   dsimp only at i1 i2 h
   cases s1 with
   | nil=>
    have hC:=drop_nil i1
    simp only [Pm.fa,Bool.not_true,Bool.false_eq_true, ↓reduceIte]at h
    repeat' (first
 | simp only [go_sem,hC,hE,hF,hM]
 | (with_reducible first | refine bD fun hc=> ?_ | refine bE fun hc=> ?_ | refine bF (fun hc=> ?_) fun hc=> ?_) <;> (try simp only [hc,bs, ↓reduceIte]at h) <;> try simp only [hc]
 | (with_reducible refine aH hQ ?_;exact lJ)
 | (cases h;done))
    refine dV 2 0 ?_ ?_ (IH (r1,r2,k+1) ⟨g2,b2,h⟩ (Nat.lt_succ_self _))
    ·(simp only [go_sem,hC,hE,hF,hM,aP bS];try exact bR)
    ·(simp only [go_sem,hC,hE,hF,hM,aP bS];try exact bR)
   | cons u s1=>
    obtain⟨hE,u2,hC,u4⟩:=drop_cons i1
    cases s2 with
    | nil=>have:=List.drop_eq_nil_iff.1 i2;omega
    | cons v s2=>
     obtain⟨mr,v2,_,_⟩:=drop_cons i2
     have I0:q<4611686018427387904:=by omega
     simp only [Pm.fa]at h
     cases e1:(u.name==v.name)
     ·simp only [e1,Bool.false_and,Bool.not_false, ↓reduceIte]at h
      repeat' (first
 | simp only [go_sem,hC,hE,hF,hM,mr,ff,e1]
 | (with_reducible first | refine bD fun hc=> ?_ | refine bE fun hc=> ?_ | refine bF (fun hc=> ?_) fun hc=> ?_) <;> (try simp only [hc,bs, ↓reduceIte]at h) <;> try simp only [hc]
 | (with_reducible refine aH hQ ?_;(try cases h);simp only [aA,aB,bM,bN,go_sem,hC,hE,hF,hM,mr,ff,e1];try exact rH)
 | (cases h;done))
     ·cases e2:(u.ref==v.ref)
      ·simp only [e1,e2,Bool.and_false,Bool.not_false, ↓reduceIte]at h
       repeat' (first
 | simp only [go_sem,hC,hE,hF,hM,mr,ff,e1,e2]
 | (with_reducible first | refine bD fun hc=> ?_ | refine bE fun hc=> ?_ | refine bF (fun hc=> ?_) fun hc=> ?_) <;> (try simp only [hc,bs, ↓reduceIte]at h) <;> try simp only [hc]
 | (with_reducible refine aH hQ ?_;(try cases h);simp only [aA,aB,bM,bN,go_sem,hC,hE,hF,hM,mr,ff,e1,e2];try exact rH)
 | (cases h;done))
      ·simp only [e1,e2,Bool.and_true,Bool.not_true,Bool.false_eq_true, ↓reduceIte]at h
       repeat' (first
 | simp only [go_sem,hC,hE,hF,hM,mr,ff,e1,e2]
 | (with_reducible first | refine bD fun hc=> ?_ | refine bE fun hc=> ?_ | refine bF (fun hc=> ?_) fun hc=> ?_) <;> (try simp only [hc,bs, ↓reduceIte]at h) <;> try simp only [hc]
 | (with_reducible refine aH hQ ?_;(try cases h);simp only [aA,aB,bM,bN,go_sem,hC,hE,hF,hM,mr,ff,e1,e2];try exact rH)
 | (cases h;done))
       refine dV 4 0 ?_ ?_ (IHm (s1,s2,q+1) ⟨u2,v2,h⟩ (Nat.lt_succ_self _))
       ·(simp only [go_sem,hC,hE,hF,hM,aP I0];try exact bR)
       ·(simp only [go_sem,hC,hE,hF,hM,aP I0];try exact bR)
def u5 (n:Int):Ex:=⟨1,n,[],[]⟩
def jt (s:ay):Ex:=⟨2,0,s,[]⟩
def rj (op:Int) (a b:Ex):Ex:=⟨op,0,[],[a,b]⟩
theorem adY (n:Int) (s:St):aD Tryz.prog p7 [.int .i64 n] s (.agg (bC (u5 n))) s:=by
 refine aD.pure ?_ rfl (by simp [D.ok,gH]) s
 unfold S0
 refine aD.go Gx rfl fun B Q hB hQ=> ?_
 have⟨hC,hE,hF,hM⟩:=bL
 repeat' (first
 | simp only [go_sem,hC,hE,hF,hM,u5]
 | (with_reducible first | refine bD fun hc=> ?_ | refine bE fun hc=> ?_ | refine bF (fun hc=> ?_) fun hc=> ?_) <;> (try simp only [hc,bs, ↓reduceIte]at h) <;> try simp only [hc]
 | (with_reducible refine aH hQ ?_;simp only [aA,aB,bM,bN,go_sem,hC,hE,hF,hM,u5];repeat' (first | exact Ok.out | with_reducible refine aJ ?_ ?_ | (simp;done))))
theorem MI (t:ay) (s:St):aD Tryz.prog j7 [.str t] s (.agg (bC (jt t))) s:=by
 refine aD.pure ?_ rfl (by simp [D.ok,gH]) s
 unfold S0
 refine aD.go ES rfl fun B Q hB hQ=> ?_
 have⟨hC,hE,hF,hM⟩:=bL
 repeat' (first
 | simp only [go_sem,hC,hE,hF,hM,jt]
 | (with_reducible first | refine bD fun hc=> ?_ | refine bE fun hc=> ?_ | refine bF (fun hc=> ?_) fun hc=> ?_) <;> (try simp only [hc,bs, ↓reduceIte]at h) <;> try simp only [hc]
 | (with_reducible refine aH hQ ?_;simp only [aA,aB,bM,bN,go_sem,hC,hE,hF,hM,jt];repeat' (first | exact Ok.out | with_reducible refine aJ ?_ ?_ | (simp;done))))
theorem PZ (op:Int) (a b:Ex) (s:St):aD Tryz.prog sN [.int .i64 op, .agg (bC a), .agg (bC b)] s (.agg (bC (rj op a b))) s:=by
 refine aD.pure ?_ (by simp [D.bT,D.ok,gH]) (by simp [D.ok,gH]) s
 unfold S0
 refine aD.go Gy rfl fun B Q hB hQ=> ?_
 have⟨hC,hE,hF,hM⟩:=bL
 repeat' (first
 | simp only [go_sem,hC,hE,hF,hM,rj]
 | (with_reducible first | refine bD fun hc=> ?_ | refine bE fun hc=> ?_ | refine bF (fun hc=> ?_) fun hc=> ?_) <;> (try simp only [hc,bs, ↓reduceIte]at h) <;> try simp only [hc]
 | (with_reducible refine aH hQ ?_;simp only [aA,aB,bM,bN,go_sem,hC,hE,hF,hM,rj];repeat' (first | exact Ok.out | with_reducible refine aJ ?_ ?_ | (simp;done))))
def source:ay:= [103,108,111,98,97,108,32,103,59,10,112,114,111,99,32,109,97,105,110,40,41,32,123,10,32,118,97,114,32,118,59,10,32,118,32,61,32,50,59,10,32,103,32,61,32,112,40,51,44,32,114,101,102,32,118,41,59,10,32,112,114,105,110,116,32,118,59,10,32,112,114,105,110,116,32,103,59,10,125,10,112,114,111,99,32,112,40,120,44,32,114,101,102,32,121,41,32,123,10,32,121,32,61,32,121,32,43,32,120,59,10,32,105,102,32,40,121,32,62,32,57,41,32,123,10,32,32,103,111,116,111,32,101,59,10,32,125,10,32,114,101,116,117,114,110,32,121,59,10,101,58,32,125,10]
theorem TA (s:St):aD Tryz.prog r9 [] s (.str source) s:=by
 refine aD.pure ?_ rfl rfl s
 unfold S0
 refine aD.go BF rfl fun B Q hB hQ=> ?_
 have⟨hC,hE,hF,hM⟩:=bL
 repeat' (first
 | simp only [go_sem,hC,hE,hF,hM,source]
 | (with_reducible first | refine bD fun hc=> ?_ | refine bE fun hc=> ?_ | refine bF (fun hc=> ?_) fun hc=> ?_) <;> (try simp only [hc,bs, ↓reduceIte]at h) <;> try simp only [hc]
 | (with_reducible refine aH hQ ?_;(try cases h);simp only [aA,aB,bM,bN,go_sem,hC,hE,hF,hM,source];try exact rH)
 | (cases h;done))
def om:Pg:=⟨[[103]],[
 ⟨[109,97,105,110],[],[[118]],[
  ⟨1,1,[],[118],[],u5 2,false,[],[],[]⟩,
  ⟨2,4,[],[103],[112],iG,false,[⟨false,[],u5 3⟩,⟨true,[118],iG⟩],[],[]⟩,
  ⟨3,3,[],[],[],jt [118],false,[],[],[]⟩,
  ⟨4,3,[],[],[],jt [103],false,[],[],[]⟩],[]⟩,
 ⟨[112],[⟨[120],false⟩,⟨[121],true⟩],[],[
  ⟨5,1,[],[121],[],rj 8 (jt [121]) (jt [120]),false,[],[],[]⟩,
  ⟨6,5,[],[],[],rj 12 (jt [121]) (u5 9),false,[],[⟨7,10,[],[101],[],iG,false,[],[],[]⟩],[]⟩,
  ⟨8,9,[],[],[],jt [121],true,[],[],[]⟩],[[101]]⟩]⟩
theorem aaT (s:St):aD Tryz.prog vq [] s (.agg (cB om)) s:=by
 refine aD.pure ?_ rfl (by simp [D.ok,jC]) s
 unfold S0
 refine aD.go EO rfl fun B Q hB hQ=> ?_
 have⟨hC,hE,hF,hM⟩:=bL
 repeat' (first
 | simp only [go_sem,hC,hE,hF,hM,om]
 | (with_reducible refine CU (adY _ _) ?_)
 | (with_reducible refine CU (MI _ _) ?_)
 | (with_reducible refine CU (PZ _ _ _ _) ?_)
 | (with_reducible refine aH hQ ?_;simp only [aA,aB,Option.some.injEq,exists_eq_left',go_sem,hC,hE,hF,hM];repeat' (first | exact Ok.out | with_reducible refine aJ ?_ ?_ | (simp;done))))
 repeat' (first | exact Ok.out | with_reducible refine Wk.agg ?_ | with_reducible refine Wk.rows ?_ | with_reducible refine Wk.slice ?_ | with_reducible refine gS.cons ?_ ?_ | with_reducible refine lV.cons ?_ ?_)
end Go.Abs

/-! LawTo1 -/

namespace Go.Abs
open Go.Proofs
def Pg.as2 (p:Pg) (n:Int):ay:=match p.procs[(aaK n p.procs.length).toNat]? with | some f=>f.name | none=> []
end Go.Abs

/-! AlP -/

namespace Go.Abs
open Go.Proofs
theorem aaU:rI.kc:=⟨uS (by decide +kernel) (by decide +kernel),by decide +kernel⟩
end Go.Abs

/-! LawAl2 -/

namespace Go.Abs
open Go.Proofs
end Go.Abs

/-! SwP -/

namespace Go.Abs
section
variable {a b:ay}
end
section
variable {a b:ay} (ha:isName a=true) (hb:isName b=true)
include ha hb
end
def Pg.check (p:Pg):Int×Int:=if p.scope.1==0 then(if p.arity.1==0 then(if p.jump.1==0 then p.alias else p.jump)else p.arity)else p.scope
end Go.Abs

/-! Ck1 -/

namespace Go.Abs
set_option maxRecDepth 8000
open Go.Proofs
theorem Xl : ∀ n,n<1000000000→∀ l:List Sm,Sm.aR l<n→aD Tryz.prog jm [.slice .shared 13 (l.map bh)] S0 (.int .i64 (Sm.dB l:Int)) S0:=by
 intro n
 induction n with
 | zero=>intro _ l h;omega
 | succ n ih=>
 intro hn l hv
 have hl:=Sm.c9 l
 have hk : ∀ y∈l,(∀ s,aD Tryz.prog jm [.slice .shared 13 (y.a7.map bh)] s (.int .i64 (Sm.dB y.a7:Int)) s)∧(∀ s,aD Tryz.prog jm [.slice .shared 13 (y.aX.map bh)] s (.int .i64 (Sm.dB y.aX:Int)) s)∧
  y.fI=1+Sm.dB y.a7+Sm.dB y.aX:=fun y hy=>by
  have h1:=Sm.cd hy
  have ep:Sm.aR y.a7<y.size∧Sm.aR y.aX<y.size∧y.fI=1+Sm.dB y.a7+Sm.dB y.aX:=by
   obtain⟨_,_,_,_,_,_,_,_,_,_⟩:=y
   simp only [Sm.size];exact⟨by omega,by omega,rfl⟩
  exact⟨fun s=>(ih (by omega) y.a7 (by omega)).pure (by simp only [D.bT,D.ok,Tag.ok,nB];rfl) rfl s,fun s=>(ih (by omega) y.aX (by omega)).pure (by simp only [D.bT,D.ok,Tag.ok,nB];rfl) rfl s,ep.2.2⟩
 have pT:=jZ l
 unfold S0
 refine aD.go C9 rfl fun B Q hB hQ=> ?_
 have⟨hC,hE,hF,hM⟩:=bL
 repeat' (first
 | simp only [go_sem,hC,hE,hF,hM]
 | (with_reducible refine aH hQ ?_;simp only [aA,aB,Option.some.injEq,exists_eq_left',go_sem,hC,hE,hF,hM];repeat' (first | exact Ok.out | with_reducible refine aJ ?_ ?_ | (simp;done))))
 refine dc 0 0 (bw.ind (ι:=List Sm×Nat×Nat) (fun i=>l.drop i.2.1=i.1∧i.2.2+Sm.dB i.1=Sm.dB l+i.1.length) (fun i=>i.1.length)
  (fun i=> [(0, .slice .shared 13 (l.map bh)),(3, .int .i64 (i.2.2:Int)),(7, .slice .shared 13 (l.map bh)),(8, .int .i64 (l.length:Int)),(9, .int .i64 (i.2.1:Int))]) (fun i=>⟨[],[]⟩) ?_ (l,0,l.length) ⟨rfl,Nat.add_comm _ _⟩)
 rintro⟨rest,k,c⟩ ⟨g1,g2⟩ IH
 dsimp only at g1 g2
 cases rest with
 | nil=>
  have hC:=drop_nil g1
  simp only [Sm.dB,Nat.add_zero,List.length_nil]at g2
  subst g2
  repeat' (first
 | simp only [go_sem,hC,hE,hF,hM]
 | (with_reducible refine aH hQ ?_;simp only [aA,aB,Option.some.injEq,exists_eq_left',go_sem,hC,hE,hF,hM];repeat' (first | exact Ok.out | with_reducible refine aJ ?_ ?_ | (simp;done))))
 | cons y rest=>
  obtain⟨hE,g3,hC,g4⟩:=drop_cons g1
  obtain⟨hy1,hy2,hy3⟩:=hk y (List.mem_of_getElem? hE)
  simp only [Sm.dB,List.length_cons]at g2
  have Nv:=Sm.cd (List.mem_of_getElem? hE)
  have IV:rest.length≤l.length:=by have:=congrArg List.length g1;simp only [List.length_drop,List.length_cons]at this;omega
  have w1:IntKind.wrap .i64 ((k:Int)+1)=((k+1:Nat):Int):=by rw [dJ] <;> omega
  have w2:IntKind.wrap .i64 ((Sm.dB y.a7:Int)+(Sm.dB y.aX:Int))=((Sm.dB y.a7+Sm.dB y.aX:Nat):Int):=by rw [dJ] <;> omega
  have w3:IntKind.wrap .i64 ((c:Int)+((Sm.dB y.a7+Sm.dB y.aX:Nat):Int))=((c+(Sm.dB y.a7+Sm.dB y.aX):Nat):Int):=by rw [dJ] <;> omega
  repeat' (first
 | simp only [go_sem,hC,hE,hF,hM,w1,w2,w3]
 | (with_reducible refine CU (hy1 _) ?_)
 | (with_reducible refine CU (hy2 _) ?_)
 | (with_reducible refine aH hQ ?_;simp only [aA,aB,Option.some.injEq,exists_eq_left',go_sem,hC,hE,hF,hM];repeat' (first | exact Ok.out | with_reducible refine aJ ?_ ?_ | (simp;done))))
  refine dc 0 0 (IH (rest,k+1,c+(Sm.dB y.a7+Sm.dB y.aX)) ⟨g3,by dsimp only;omega⟩ (Nat.lt_succ_self _))
theorem Xm {l:List Sm} (h:Sm.aR l+1<1000000000) (s:St):aD Tryz.prog jm [.slice .shared 13 (l.map bh)] s (.int .i64 (Sm.dB l:Int)) s:=
 (Xl _ h l (Nat.lt_succ_self _)).pure (by simp only [D.bT,D.ok,Tag.ok,nB];rfl) rfl s
def Pc.xx:List Pc→Nat
 | []=>0
 | f::l=>Sm.dB f.body+Pc.xx l
theorem Jy : ∀ l:List Pc,Pc.xx l≤Pc.aR l
 | []=>Nat.le_refl _
 | f::l=>by
  have:=Jy l;have:=jZ f.body
  simp only [Pc.xx,Pc.aR,Pc.size];omega
theorem Xn {p:Pg} (h:p.size+1<1000000000) (s:St):aD Tryz.prog tq [.agg (cB p)] s (.int .i64 (Pc.xx p.procs:Int)) s:=by
 refine aD.pure ?_ (by simp [D.bT,D.ok,jC]) rfl s
 have hs:Pc.aR p.procs+1<1000000000:=by simp only [Pg.size]at h;omega
 have hl:=Pc.c9 p.procs
 have hcp:=Jy p.procs
 unfold S0
 refine aD.go C6 rfl fun B Q hB hQ=> ?_
 have⟨hC,hE,hF,hM⟩:=bL
 repeat' (first
 | simp only [go_sem,hC,hE,hF,hM]
 | (with_reducible refine aH hQ ?_;simp only [aA,aB,Option.some.injEq,exists_eq_left',go_sem,hC,hE,hF,hM];repeat' (first | exact Ok.out | with_reducible refine aJ ?_ ?_ | (simp;done))))
 refine dc 1 0 (bw.ind (ι:=List Pc×Nat×Nat) (fun i=>p.procs.drop i.2.1=i.1∧i.2.2+Pc.xx i.1=Pc.xx p.procs) (fun i=>i.1.length)
  (fun i=> [(1, .ptr 0 0),(3, .int .i64 (i.2.2:Int)),(7, .slice .shared 5 (p.procs.map cL)),(8, .int .i64 (p.procs.length:Int)),(9, .int .i64 (i.2.1:Int))]) (fun i=>⟨[cB p],[]⟩) ?_ (p.procs,0,0) ⟨rfl,Nat.zero_add _⟩)
 rintro⟨rest,k,c⟩ ⟨g1,g2⟩ IH
 dsimp only at g1 g2
 cases rest with
 | nil=>
  have hC:=drop_nil g1
  simp only [Pc.xx,Nat.add_zero]at g2
  subst g2
  repeat' (first
 | simp only [go_sem,hC,hE,hF,hM]
 | (with_reducible refine aH hQ ?_;simp only [aA,aB,Option.some.injEq,exists_eq_left',go_sem,hC,hE,hF,hM];repeat' (first | exact Ok.out | with_reducible refine aJ ?_ ?_ | (simp;done))))
 | cons f rest=>
  obtain⟨hE,g3,hC,g4⟩:=drop_cons g1
  have hsf:=Pc.cd (List.mem_of_getElem? hE)
  simp only [Pc.size]at hsf
  have hc:=fun s=>Xm (l:=f.body) (by omega) s
  simp only [Pc.xx]at g2
  have w1:IntKind.wrap .i64 ((k:Int)+1)=((k+1:Nat):Int):=by rw [dJ] <;> omega
  have w2:IntKind.wrap .i64 ((c:Int)+(Sm.dB f.body:Int))=((c+Sm.dB f.body:Nat):Int):=by rw [dJ] <;> omega
  repeat' (first
 | simp only [go_sem,hC,hE,hF,hM,w1,w2]
 | (with_reducible refine CU (hc _) ?_)
 | (with_reducible refine aH hQ ?_;simp only [aA,aB,Option.some.injEq,exists_eq_left',go_sem,hC,hE,hF,hM];repeat' (first | exact Ok.out | with_reducible refine aJ ?_ ?_ | (simp;done))))
  refine dc 1 0 (IH (rest,k+1,c+Sm.dB f.body) ⟨g3,by dsimp only;omega⟩ (Nat.lt_succ_self _))
theorem TB {p:Pg} (h:p.may=false):p.scope=(1,0):=by unfold Pg.scope;rw [h];rfl
theorem Cl {p:Pg} (h:p.kc) (s:St):aD Tryz.prog mZ [.agg (cB p)] s (.agg [.int .i64 p.check.1, .int .i64 p.check.2]) s:=by
 refine aD.pure ?_ (by simp [D.bT,D.ok,jC]) rfl s
 have h1:=fun s=>Pa h.S5 s
 rw [Dr]at h1
 have h2:=fun s=>tM h s
 have h3:=fun s=>G5 h s
 have h4:=fun s=>Tp h s
 have h5:=fun s=>PQ h s
 obtain⟨R,hR⟩ : ∃ R,p.check=R:=⟨_,rfl⟩
 rw [hR]
 unfold Pg.check at hR
 unfold S0
 rcases Bool.eq_false_or_eq_true p.may with b0 | b0
 case inr=>
  have e:((1:Int)==0)=false:=rfl
  rw [TB b0]at hR
  simp only [e,Bool.false_eq_true,if_false]at hR
  subst hR
  refine aD.go mU rfl fun B Q hB hQ=> ?_
  have⟨hC,hE,hF,hM⟩:=bL
  repeat' (first
 | simp only [go_sem,hC,hE,hF,hM,b0,Bool.not_false]
 | (with_reducible refine CU (h1 _) ?_)
 | (with_reducible refine aH hQ ?_;simp only [aA,aB,Option.some.injEq,exists_eq_left',go_sem,hC,hE,hF,hM];repeat' (first | exact Ok.out | with_reducible refine aJ ?_ ?_ | (simp;done))))
 rcases Bool.eq_false_or_eq_true (p.scope.1==0)with b1 | b1
 case inr=>
  simp only [b1,Bool.false_eq_true,if_false]at hR
  subst hR
  refine aD.go mU rfl fun B Q hB hQ=> ?_
  have⟨hC,hE,hF,hM⟩:=bL
  repeat' (first
 | simp only [go_sem,hC,hE,hF,hM,b0,b1,Bool.not_true]
 | (with_reducible refine CU (h1 _) ?_)
 | (with_reducible refine CU (h2 _) ?_)
 | (with_reducible refine aH hQ ?_;simp only [aA,aB,Option.some.injEq,exists_eq_left',go_sem,hC,hE,hF,hM];repeat' (first | exact Ok.out | with_reducible refine aJ ?_ ?_ | (simp;done))))
 simp only [b1,if_true]at hR
 rcases Bool.eq_false_or_eq_true (p.arity.1==0)with b2 | b2
 case inr=>
  simp only [b2,Bool.false_eq_true,if_false]at hR
  subst hR
  refine aD.go mU rfl fun B Q hB hQ=> ?_
  have⟨hC,hE,hF,hM⟩:=bL
  repeat' (first
 | simp only [go_sem,hC,hE,hF,hM,b0,b1,b2,Bool.not_true]
 | (with_reducible refine CU (h1 _) ?_)
 | (with_reducible refine CU (h2 _) ?_)
 | (with_reducible refine CU (h3 _) ?_)
 | (with_reducible refine aH hQ ?_;simp only [aA,aB,Option.some.injEq,exists_eq_left',go_sem,hC,hE,hF,hM];repeat' (first | exact Ok.out | with_reducible refine aJ ?_ ?_ | (simp;done))))
 simp only [b2,if_true]at hR
 rcases Bool.eq_false_or_eq_true (p.jump.1==0)with b3 | b3
 case inr=>
  simp only [b3,Bool.false_eq_true,if_false]at hR
  subst hR
  refine aD.go mU rfl fun B Q hB hQ=> ?_
  have⟨hC,hE,hF,hM⟩:=bL
  repeat' (first
 | simp only [go_sem,hC,hE,hF,hM,b0,b1,b2,b3,Bool.not_true]
 | (with_reducible refine CU (h1 _) ?_)
 | (with_reducible refine CU (h2 _) ?_)
 | (with_reducible refine CU (h3 _) ?_)
 | (with_reducible refine CU (h4 _) ?_)
 | (with_reducible refine aH hQ ?_;simp only [aA,aB,Option.some.injEq,exists_eq_left',go_sem,hC,hE,hF,hM];repeat' (first | exact Ok.out | with_reducible refine aJ ?_ ?_ | (simp;done))))
 simp only [b3,if_true]at hR
 subst hR
 refine aD.go mU rfl fun B Q hB hQ=> ?_
 have⟨hC,hE,hF,hM⟩:=bL
 repeat' (first
 | simp only [go_sem,hC,hE,hF,hM,b0,b1,b2,b3,Bool.not_true]
 | (with_reducible refine CU (h1 _) ?_)
 | (with_reducible refine CU (h2 _) ?_)
 | (with_reducible refine CU (h3 _) ?_)
 | (with_reducible refine CU (h4 _) ?_)
 | (with_reducible refine CU (h5 _) ?_)
 | (with_reducible refine aH hQ ?_;simp only [aA,aB,Option.some.injEq,exists_eq_left',go_sem,hC,hE,hF,hM];repeat' (first | exact Ok.out | with_reducible refine aJ ?_ ?_ | (simp;done))))
theorem P0 {p:Pg} (h:p.kc) (s:St):aD Tryz.prog q9 [.agg (cB p)] s (.bool (p.check.1==0)) s:=by
 refine aD.pure ?_ (by simp [D.bT,D.ok,jC]) rfl s
 have h1:=fun s=>Cl h s
 unfold S0
 refine aD.go EN rfl fun B Q hB hQ=> ?_
 have⟨hC,hE,hF,hM⟩:=bL
 repeat' (first
 | simp only [go_sem,hC,hE,hF,hM]
 | (with_reducible refine CU (h1 _) ?_)
 | (with_reducible refine aH hQ ?_;simp only [aA,aB,Option.some.injEq,exists_eq_left',go_sem,hC,hE,hF,hM];repeat' (first | exact Ok.out | with_reducible refine aJ ?_ ?_ | (simp;done))))
end Go.Abs

/-! Tot -/

namespace Go.Abs
def Tt {α:Type} (o:Option α) (Q:α→Prop):Prop:=∃ a,o=some a∧Q a
theorem Tt.bind {α β:Type} {o:Option α} {f:α→Option β} {Q:α→Prop} {R:β→Prop} (h:Tt o Q) (k : ∀ a,Q a→Tt (f a) R):Tt (o.bind f) R:=by
 obtain⟨a,rfl,hq⟩:=h
 exact k a hq
theorem Tt.mono {α:Type} {o:Option α} {Q R:α→Prop} (h:Tt o Q) (k : ∀ a,Q a→R a):Tt o R:=by
 obtain⟨a,e,hq⟩:=h
 exact⟨a,e,k a hq⟩
theorem Tt.some {α:Type} {a:α} {Q:α→Prop} (h:Q a):Tt (some a) Q:=⟨a,rfl,h⟩
theorem Tt.ite {α:Type} {c:Prop} [Decidable c] {a b:Option α} {Q:α→Prop} (h1:c→Tt a Q) (h2 : ¬ c→Tt b Q):Tt (if c then a else b) Q:=by
 by_cases h:c
 ·rw [if_pos h];exact h1 h
 ·rw [if_neg h];exact h2 h
structure Rd.Ok (r:Rd):Prop where
 k : ∀ t∈r.l,0≤t.kind∧t.kind≤4
 lt:r.i<r.l.length
 len:r.l.length≤2001
 last : ∀ t,r.l[r.l.length - 1]? = some t→t.kind=0
 n1:r.n≤201
structure Rd.To (r r':Rd):Prop where
 ok:r'.Ok
 l:r'.l=r.l
 i:r.i≤r'.i
 g:r'.good=true→r.good=true
 s:r.good=false→r'=r
structure Rd.kd (r r':Rd):Prop where
 to:r.To r'
 n:r'.n=r.n
theorem Rd.To.refl {r:Rd} (h:r.Ok):r.To r:=⟨h,rfl,Nat.le_refl _,id,fun _=>rfl⟩
theorem Rd.To.trans {a b c:Rd} (h:a.To b) (k:b.To c):a.To c:=
 ⟨k.ok,k.l.trans h.l,Nat.le_trans h.i k.i,fun g=>h.g (k.g g),fun g=>by have:=h.s g;subst this;exact k.s g⟩
theorem Rd.kd.refl {r:Rd} (h:r.Ok):r.kd r:=⟨.refl h,rfl⟩
theorem Rd.kd.trans {a b c:Rd} (h:a.kd b) (k:b.kd c):a.kd c:=⟨h.to.trans k.to,k.n.trans h.n⟩
theorem n4 {r:Rd} (h:r.Ok):Tt r.gi fun t=>r.l[r.i]? = some t∧0≤t.kind∧t.kind≤4∧(t.kind≠0→r.i+1<r.l.length):=by
 have hC:=h.lt
 have hE:r.l[r.i]? = some r.l[r.i]:=List.getElem?_eq_getElem hC
 have hk:=h.k _ (List.getElem_mem hC)
 refine⟨r.l[r.i], ?_,hE,hk.1,hk.2,fun hz=> ?_⟩
 ·have:r.i<4611686018427387904:=by have:=h.len;omega
  simp only [Rd.gi,vo,this, ↓reduceIte,hE,Option.bind_some,hk.1,hk.2,decide_true,Bool.and_self]
 ·rcases Nat.lt_or_ge (r.i+1) r.l.length with h1 | h1
  ·exact h1
  ·have:r.i=r.l.length - 1:=by omega
   have:=h.last r.l[r.i] (by rw [← this];exact hE)
   exact absurd this hz
theorem Rd.Ok.on {r:Rd} (h:r.Ok) (hi:r.i+1<r.l.length):({r with i:=r.i+1} : Rd).Ok:=⟨h.k,hi,h.len,h.last,h.n1⟩
theorem Rd.kd.on {r:Rd} (h:r.Ok) (hg:r.good=true) (hi:r.i+1<r.l.length):r.kd {r with i:=r.i+1}:=
 ⟨⟨h.on hi,rfl,Nat.le_succ _,fun _=>hg,fun h'=>by rw [hg]at h';cases h'⟩,rfl⟩
theorem Rd.Ok.fault {r:Rd} (h:r.Ok) (c f:Int):({r with code:=c,jk:=f} : Rd).Ok∨c=0:=by
 by_cases hc:c=0
 ·exact .inr hc
 ·exact .inl ⟨h.k,h.lt,h.len,h.last,h.n1⟩
theorem u6 {r:Rd} (h:r.Ok) {c:Int} (hc:c≠0):Tt (r.bad c) fun r'=>r.kd r'∧r'.good=false∧r'.i=r.i:=by
 unfold Rd.bad
 refine Tt.ite (fun hg=> ?_) (fun hg=> ?_)
 ·refine(n4 h).bind fun t ht=>Tt.some ?_
  have hf:({r with code:=c,jk:=t.pos} : Rd).good=false:=by simp [Rd.good,hc]
  refine⟨⟨⟨?_,rfl,Nat.le_refl _,fun h'=>(by rw [hf]at h';cases h'),fun h'=>(by rw [hg]at h';cases h')⟩,rfl⟩,hf,rfl⟩
  rcases h.fault c t.pos with h1 | h1
  ·exact h1
  ·exact absurd h1 hc
 ·have:r.good=false:=by simpa using hg
  exact Tt.some ⟨.refl h,this,rfl⟩
theorem Dw {r:Rd} (h:r.Ok) (s:ay):Tt (r.is s) fun b=>b=true→r.i+1<r.l.length:=by
 unfold Rd.is
 refine(n4 h).bind fun t ht=>Tt.some fun hb=>ht.2.2.2 ?_
 simp only [Bool.and_eq_true,Bool.or_eq_true,beq_iff_eq]at hb
 omega
theorem mW {r:Rd} (h:r.Ok) (s:ay):Tt (r.take s) fun p=>r.kd p.2∧(p.1=true→p.2.i=r.i+1∧r.good=true∧p.2.good=true)∧(p.1=false→p.2=r):=by
 unfold Rd.take
 refine Tt.ite (fun hg=> ?_) (fun hg=> ?_)
 ·exact Tt.some ⟨.refl h,by simp,by simp⟩
 ·have pW:r.good=true:=by simpa using hg
  refine(Dw h s).bind fun b hb=>Tt.ite (fun hc=>Tt.some ⟨.refl h,by simp,by simp⟩) (fun hc=>Tt.some ?_)
  have xY:b=true:=by simpa using hc
  exact⟨.on h pW (hb xY),fun _=>⟨rfl,pW,pW⟩,by simp⟩
theorem iP {r:Rd} (h:r.Ok) (s:ay):Tt (r.want s) fun r'=>r.kd r'∧(r'.good=true→r'.i=r.i+1):=by
 unfold Rd.want
 refine(mW h s).bind fun p hp=>Tt.ite (fun hc=> ?_) (fun hc=> ?_)
 ·have:p.1=false:=by simpa using hc
  have e:=hp.2.2 this
  rw [e]
  exact(u6 h (by decide)).mono fun r' hr=>⟨hr.1,fun hg=>by rw [hr.2.1]at hg;cases hg⟩
 ·have:p.1=true:=by simpa using hc
  exact Tt.some ⟨hp.1,fun _=>(hp.2.1 this).1⟩
theorem rT {r:Rd} (h:r.Ok) (room:Bool):Tt (r.name room) fun p=>r.kd p.2∧(p.2.good=true→p.2.i=r.i+1):=by
 unfold Rd.name
 refine(n4 h).bind fun t ht=>Tt.ite (fun hc=> ?_) (fun hc=>Tt.ite (fun yq=> ?_) (fun yq=> ?_))
 ·exact(u6 h (by decide)).bind fun r' hr=>Tt.some ⟨hr.1,fun hg=>by rw [hr.2.1]at hg;cases hg⟩
 ·exact(u6 h (by decide)).bind fun r' hr=>Tt.some ⟨hr.1,fun hg=>by rw [hr.2.1]at hg;cases hg⟩
 ·simp only [Bool.or_eq_true,Bool.not_eq_true',bne_iff_ne,ne_eq,not_or,Decidable.not_not]at hc
  have hg:r.good=true:=by simpa using hc.1
  exact Tt.some ⟨.on h hg (ht.2.2.2 (by omega)),fun _=>rfl⟩
def ExT (r:Rd) (p:Ex×Rd):Prop:=r.kd p.2∧(p.2.good=true→p.1.size+3+4*r.i≤4*p.2.i)
theorem tQ:iG.size=1:=rfl
theorem aaW : ∀ n:Nat,
 (∀ r:Rd,r.Ok→3*(r.l.length - r.i)+1≤n→Tt (Rd.one n r) (ExT r))∧
 (∀ (r:Rd) (k:Int),r.Ok→3*(r.l.length - r.i)+2≤n→Tt (Rd.two n k r) (ExT r))∧
 (∀ (r:Rd) (k:Int) (x:Ex),r.Ok→3*(r.l.length - r.i)+1≤n→Tt (Rd.jD n k x r) fun p=>r.kd p.2∧(p.2.good=true→p.1.size+4*r.i≤x.size+4*p.2.i)):=by
 intro n
 induction n with
 | zero=>exact⟨fun r _ h=>by omega,fun r k _ h=>by omega,fun r k x _ h=>by omega⟩
 | succ n ih=>
 obtain⟨pR,sk,wJ⟩:=ih
 refine⟨fun r h hn=> ?_,fun r k h hn=> ?_,fun r k x h hn=> ?_⟩
 ·have hC:=h.lt
  simp only [Rd.one]
  refine(n4 h).bind fun t ht=>Tt.ite (fun hg=> ?_) (fun hg=> ?_)
  ·have hg:r.good=false:=by simpa using hg
   exact Tt.some ⟨.refl h,fun h'=>by simp only [hg]at h';cases h'⟩
  have hg:r.good=true:=by simpa using hg
  refine Tt.ite (fun hk=> ?_) (fun hk=>Tt.ite (fun bS=> ?_) (fun bS=> ?_))
  ·simp only [beq_iff_eq]at hk
   refine Tt.some ⟨.on h hg (ht.2.2.2 (by omega)),fun _=> ?_⟩
   simp only [Ex.size,Ex.aR];omega
  ·simp only [beq_iff_eq]at bS
   refine Tt.some ⟨.on h hg (ht.2.2.2 (by omega)),fun _=> ?_⟩
   simp only [Ex.size,Ex.aR];omega
  refine(mW h _).bind fun p hp=>Tt.ite (fun hc=> ?_) (fun hc=> ?_)
  ·obtain⟨e1,e2,e3⟩:=hp.2.1 hc
   have hl:=hp.1.to.l
   have hi:=hp.1.to.ok.lt
   refine(sk p.2 1 hp.1.to.ok (by rw [hl,e1];rw [hl,e1]at hi;omega)).bind fun x hx=> ?_
   refine(iP hx.1.to.ok _).bind fun r2 Jz=>Tt.some ⟨hp.1.trans (hx.1.trans Jz.1),fun dn=> ?_⟩
   have:=hx.2 (Jz.1.to.g dn)
   have:=Jz.2 dn
   dsimp only
   omega
  ·have Hv:p.1=false:=by simpa using hc
   rw [hp.2.2 Hv]
   refine(mW h _).bind fun p hp=>Tt.ite (fun hc=> ?_) (fun hc=> ?_)
   ·obtain⟨e1,e2,e3⟩:=hp.2.1 hc
    have hl:=hp.1.to.l
    have hi:=hp.1.to.ok.lt
    refine(pR p.2 hp.1.to.ok (by rw [hl,e1];rw [hl,e1]at hi;omega)).bind fun x hx=>Tt.some ⟨hp.1.trans hx.1,fun dn=> ?_⟩
    have:=hx.2 dn
    simp only [Ex.size,Ex.aR]
    omega
   ·have Hv:p.1=false:=by simpa using hc
    rw [hp.2.2 Hv]
    refine(mW h _).bind fun p hp=>Tt.ite (fun hc=> ?_) (fun hc=> ?_)
    ·obtain⟨e1,e2,e3⟩:=hp.2.1 hc
     have hl:=hp.1.to.l
     have hi:=hp.1.to.ok.lt
     refine(pR p.2 hp.1.to.ok (by rw [hl,e1];rw [hl,e1]at hi;omega)).bind fun x hx=>Tt.some ⟨hp.1.trans hx.1,fun dn=> ?_⟩
     have:=hx.2 dn
     simp only [Ex.size,Ex.aR]
     omega
    ·have Hv:p.1=false:=by simpa using hc
     rw [hp.2.2 Hv]
     exact(u6 h (by decide)).bind fun r' hr=>Tt.some ⟨hr.1,fun hg=>by simp only [hr.2.1]at hg;cases hg⟩
 ·simp only [Rd.two]
  refine(pR r h (by omega)).bind fun x hx=> ?_
  have hl:=hx.1.to.l
  have hi:=hx.1.to.i
  refine(wJ x.2 k x.1 hx.1.to.ok (by rw [hl];omega)).mono fun p hp=>⟨hx.1.trans hp.1,fun hg=> ?_⟩
  have h1:=hp.2 hg
  have h2:=hx.2 (hp.1.to.g hg)
  omega
 ·have hC:=h.lt
  simp only [Rd.jD]
  refine Tt.ite (fun hg=> ?_) (fun hg=>Tt.some ⟨.refl h,fun _=>Nat.le_refl _⟩)
  refine(n4 h).bind fun t ht=>Tt.ite (fun hc=>Tt.some ⟨.refl h,fun _=>Nat.le_refl _⟩) (fun hc=> ?_)
  have hk:t.kind≠0:=fun e=>hc (by
   have:fw t=(0,0):=by simp [fw,e]
   simp [this])
  have Cm:=Rd.kd.on h hg (ht.2.2.2 hk)
  have hi:=Cm.to.ok.lt
  refine(sk _ _ Cm.to.ok (by dsimp only at hi ⊢;omega)).bind fun y hy=> ?_
  have gQ:=hy.1.to.l
  have py:=hy.1.to.i
  have hi3:=hy.1.to.ok.lt
  dsimp only at gQ py
  refine(wJ y.2 k _ hy.1.to.ok (by rw [gQ]at hi3 ⊢;omega)).mono fun p hp=>⟨Cm.trans (hy.1.trans hp.1),fun dn=> ?_⟩
  have h1:=hp.2 dn
  have h2:=hy.2 (hp.1.to.g dn)
  simp only [Ex.size,Ex.aR]at h1
  dsimp only at h2
  omega
theorem wK {n:Nat} {r:Rd} (h:r.Ok) (hn:6006≤n):Tt (Rd.whole n r) (ExT r):=by
 have hlen:=h.len
 unfold Rd.whole
 refine(n4 h).bind fun t ht=>((aaW n).2.1 r 1 h (by omega)).bind fun x hx=>Tt.ite (fun hg=> ?_) (fun hg=>Tt.some ?_)
 ·have hs:=hx.2 hg
  have hi:=hx.1.to.ok.lt
  have hl:=hx.1.to.ok.len
  have ep:x.1.size<4611686018427387904:=by omega
  simp only [yJ,ep, ↓reduceIte,Option.bind_some]
  refine Tt.ite (fun hd=>Tt.some ?_) (fun hd=>Tt.some hx)
  have hf:({x.2 with code:=4,jk:=t.pos} : Rd).good=false:=rfl
  refine⟨⟨⟨?_,hx.1.to.l,hx.1.to.i,fun h'=>(by rw [hf]at h';cases h'),fun h'=> ?_⟩,hx.1.n⟩,fun h'=>by rw [hf]at h';cases h'⟩
  ·rcases hx.1.to.ok.fault 4 t.pos with h1 | h1
   ·exact h1
   ·cases h1
  ·have:=hx.1.to.s h'
   rw [this]at hg
   rw [hg]at h'
   cases h'
 ·exact hx
end Go.Abs

/-! Tot2 -/

namespace Go.Abs
theorem wL {α:Type} {k:Nat} {l:List α} {x:α} (h:l.length≤5000) (hk:k≤1000):Tt (push k l x) fun l'=>l'=l++ [x]:=by
 have:(l.length+1)*k≤bQ:=by
  have h1:(l.length+1)*k≤5001*1000:=Nat.mul_le_mul (by omega) hk
  simp only [bQ];omega
 simp only [push,this, ↓reduceIte]
 exact Tt.some rfl
theorem JA : ∀ (n:Nat) (l:List ay) (dL:Int) (r:Rd),r.Ok→l.length≤r.i→r.l.length - r.i≤n+1→0<n→
 Tt (Rd.names n l dL r) fun p=>r.kd p.2∧p.1.length≤p.2.i+1∧(p.2.good=true→p.1.length+r.i≤l.length+p.2.i)∧(p.2.good=true→p.1.length≤p.2.i):=by
 intro n
 induction n with
 | zero=>intro l dL r _ _ _ h;omega
 | succ n ih=>
  intro l dL r h hl hn _
  have hC:=h.lt
  have hlen:=h.len
  simp only [Rd.names]
  refine Tt.ite (fun hg=> ?_) (fun hg=>Tt.some ⟨.refl h,Nat.le_succ_of_le hl,fun _=>Nat.le_refl _,fun _=>hl⟩)
  refine(rT h _).bind fun p hp=>(wL (by omega) (by decide)).bind fun l' jg=> ?_
  subst jg
  refine(mW hp.1.to.ok _).bind fun q hq=>Tt.ite (fun hc=> ?_) (fun hc=> ?_)
  ·have Cn:q.1=false:=by simpa using hc
   rw [hq.2.2 Cn]
   refine(iP hp.1.to.ok _).bind fun r' ur=>Tt.some ⟨hp.1.trans ur.1, ?_,fun dn=> ?_,fun dn=> ?_⟩
   ·have:=hp.1.to.i;have:=ur.1.to.i;simp;omega
   ·have:=hp.2 (ur.1.to.g dn);have:=ur.2 dn;simp;omega
   ·have:=hp.2 (ur.1.to.g dn);have:=ur.2 dn;simp;omega
  ·have hqt:q.1=true:=by simpa using hc
   obtain⟨e1,e2,e3⟩:=hq.2.1 hqt
   have YA:=hp.2 e2
   have sy:=hp.1.to.l
   have gQ:=hq.1.to.l
   have hi:=hq.1.to.ok.lt
   rw [gQ,sy]at hi
   refine(ih (l++ [p.1]) dL q.2 hq.1.to.ok (by simp;omega) (by rw [gQ,sy];omega) (by omega)).mono fun x hx=>⟨hp.1.trans (hq.1.trans hx.1),hx.2.1,fun dn=> ?_,hx.2.2.2⟩
   have:=hx.2.2.1 dn
   simp at this
   omega
theorem JB {r:Rd} (h:r.Ok) (s:ay):Tt (r.ahead s) fun b=>b=true→r.i+2<r.l.length∧r.good=true:=by
 have hlen:=h.len
 unfold Rd.ahead
 refine Tt.ite (fun hg=> ?_) (fun hg=>Tt.some (by simp))
 refine(n4 h).bind fun t ht=>Tt.ite (fun hk=> ?_) (fun hk=>Tt.some (by simp))
 have h1:=ht.2.2.2 (by simp only [beq_iff_eq]at hk;omega)
 have hE:r.l[r.i+1]? = some r.l[r.i+1]:=List.getElem?_eq_getElem h1
 have hi:r.i+1<4611686018427387904:=by omega
 simp only [vo,hi, ↓reduceIte,hE,Option.bind_some]
 refine Tt.some fun hb=>⟨?_,hg⟩
 rcases Nat.lt_or_ge (r.i+2) r.l.length with h2 | h2
 ·exact h2
 ·have:r.i+1=r.l.length - 1:=by omega
  have:=h.last r.l[r.i+1] (by rw [← this];exact hE)
  simp [this]at hb
theorem TC : ∀ (n:Nat) (l:List ay) (r:Rd),r.Ok→l.length≤r.i→r.l.length - r.i≤n+1→0<n→
 Tt (Rd.labels n l r) fun p=>r.kd p.2∧p.2.good=r.good∧p.1.length*2+r.i≤l.length*2+p.2.i:=by
 intro n
 induction n with
 | zero=>intro l r _ _ _ h;omega
 | succ n ih=>
  intro l r h hl hn _
  have hC:=h.lt
  have hlen:=h.len
  simp only [Rd.labels]
  refine(JB h _).bind fun b hb=>Tt.ite (fun hc=> ?_) (fun hc=>Tt.some ⟨.refl h,rfl,Nat.le_refl _⟩)
  obtain⟨h2,hg⟩:=hb hc
  refine(n4 h).bind fun t ht=>(wL (by omega) (by decide)).bind fun l' jg=> ?_
  subst jg
  have nQ:({r with i:=r.i+2} : Rd).Ok:=⟨h.k,h2,h.len,h.last,h.n1⟩
  have Ea:r.kd {r with i:=r.i+2}:=⟨⟨nQ,rfl,by dsimp only;omega,fun _=>hg,fun h'=>by rw [hg]at h';cases h'⟩,rfl⟩
  refine(ih (l++ [t.text]) {r with i:=r.i+2} nQ (by simp;omega) (by dsimp only;omega) (by omega)).mono fun p hp=>⟨Ea.trans hp.1,hp.2.1, ?_⟩
  have:=hp.2.2
  simp at this ⊢
  omega
theorem TD {r:Rd} (h:r.Ok):Tt r.nT fun b=>b=true→r.i+1<r.l.length:=by
 unfold Rd.nT
 refine(n4 h).bind fun t ht=>Tt.some fun hb=>ht.2.2.2 fun hk=> ?_
 simp [hk]at hb
theorem JC {r:Rd} (h:r.Ok) (s:ay):Tt (r.other s) fun b=>b=true→r.good=true:=by
 unfold Rd.other
 exact Tt.ite (fun hg=>(Dw h s).bind fun b hb=>Tt.some fun _=>hg) (fun hg=>Tt.some (by simp))
theorem Ar.pH (l:List Ar) (a:Ar):Ar.aR (l++ [a])=Ar.aR l+(1+a.x.size):=by
 induction l with
 | nil=>simp [Ar.aR]
 | cons b l ih=>simp only [List.cons_append,Ar.aR,ih];omega
theorem Sm.pH (l:List Sm) (a:Sm):Sm.aR (l++ [a])=Sm.aR l+(1+a.size):=by
 induction l with
 | nil=>simp [Sm.aR]
 | cons b l ih=>simp only [List.cons_append,Sm.aR,ih];omega
theorem Pc.pH (l:List Pc) (a:Pc):Pc.aR (l++ [a])=Pc.aR l+(1+a.size):=by
 induction l with
 | nil=>simp [Pc.aR]
 | cons b l ih=>simp only [List.cons_append,Pc.aR,ih];omega
theorem Xo {m:Nat} (hm:6006≤m) : ∀ (n:Nat) (l:List Ar) (r:Rd),r.Ok→l.length≤r.i→r.l.length - r.i≤n+1→0<n→
 Tt (Rd.jx m n l r) fun p=>r.kd p.2∧(p.2.good=true→Ar.aR p.1+8*r.i≤Ar.aR l+8*p.2.i):=by
 intro n
 induction n with
 | zero=>intro l r _ _ _ h;omega
 | succ n ih=>
  intro l r h hl hn _
  have hC:=h.lt
  have hlen:=h.len
  simp only [Rd.jx]
  refine Tt.ite (fun hg=> ?_) (fun hg=>Tt.some ⟨.refl h,fun _=>Nat.le_refl _⟩)
  have rest : ∀ (a:Ar) (r1:Rd),r.kd r1→(r1.good=true→a.x.size+1+8*r.i≤8*r1.i∧r.i<r1.i)→
   Tt ((push 81 l a).bind fun l=>(r1.take [44]).bind fun c=>if !c.1 then some (l,c.2)else Rd.jx m n l c.2) fun p=>r.kd p.2∧(p.2.good=true→Ar.aR p.1+8*r.i≤Ar.aR l+8*p.2.i):=by
   intro a r1 h1 hs
   refine(wL (by omega) (by decide)).bind fun l' jg=> ?_
   subst jg
   refine(mW h1.to.ok _).bind fun q hq=>Tt.ite (fun hc=> ?_) (fun hc=> ?_)
   ·have Cn:q.1=false:=by simpa using hc
    rw [hq.2.2 Cn]
    refine Tt.some ⟨h1,fun dn=> ?_⟩
    have:=hs dn
    rw [Ar.pH]
    dsimp only
    omega
   ·have hqt:q.1=true:=by simpa using hc
    obtain⟨e1,e2,e3⟩:=hq.2.1 hqt
    have h2:=hs e2
    have sy:=h1.to.l
    have gQ:=hq.1.to.l
    have hi:=hq.1.to.ok.lt
    rw [gQ,sy]at hi
    refine(ih (l++ [a]) q.2 hq.1.to.ok (by simp;omega) (by rw [gQ,sy];omega) (by omega)).mono fun x hx=>⟨h1.trans (hq.1.trans hx.1),fun dn=> ?_⟩
    have:=hx.2 dn
    rw [Ar.pH]at this
    omega
  refine(mW h _).bind fun p hp=>Tt.ite (fun hc=> ?_) (fun hc=> ?_)
  ·obtain⟨e1,e2,e3⟩:=hp.2.1 hc
   refine(rT hp.1.to.ok _).bind fun x hx=>rest _ _ (hp.1.trans hx.1) fun dn=> ?_
   have:=hx.2 dn
   simp only [tQ]
   omega
  ·have Hv:p.1=false:=by simpa using hc
   rw [hp.2.2 Hv]
   refine(wK h hm).bind fun x hx=>rest _ _ hx.1 fun dn=> ?_
   have:=hx.2 dn
   dsimp only
   omega
def StT (r:Rd) (p:Sm×Rd):Prop:=r.kd p.2∧(p.2.good=true→p.1.size+1+8*r.i≤8*p.2.i)
theorem lG (id kind:Int) (labels:List ay) (name proc:ay) (x:Ex) (has:Bool) (args:List Ar) (a7 aX:List Sm) :
 Sm.size ⟨id,kind,labels,name,proc,x,has,args,a7,aX⟩=1+labels.length+x.size+Ar.aR args+Sm.aR a7+Sm.aR aX:=by simp only [Sm.size]
theorem P2 {m:Nat} (hm:6006≤m) {name proc:ay} {r:Rd} (h:r.Ok):Tt (Rd.call m name proc r) (StT r):=by
 unfold Rd.call
 refine(iP h _).bind fun r1 h1=>(JC h1.1.to.ok _).bind fun b hb=>Tt.ite (fun hc=> ?_) (fun hc=> ?_)
 ·have hlen:=h1.1.to.ok.len
  refine(Xo hm m [] r1 h1.1.to.ok (Nat.zero_le _) (by omega) (by omega)).bind fun q hq=>(iP hq.1.to.ok _).bind fun r2 h2=>(iP h2.1.to.ok _).bind fun r3 h3=>Tt.some ⟨h1.1.trans (hq.1.trans (h2.1.trans h3.1)),fun dn=> ?_⟩
  have g2:=h3.1.to.g dn
  have gq:=h2.1.to.g g2
  have g1:=hq.1.to.g gq
  have a1:=h1.2 g1
  have a2:=h2.2 g2
  have a3:=h3.2 dn
  have a4:=hq.2 gq
  simp only [lG,tQ,Ar.aR,Sm.aR,List.length_nil]at a4 ⊢
  omega
 ·refine(iP h1.1.to.ok _).bind fun r2 h2=>(iP h2.1.to.ok _).bind fun r3 h3=>Tt.some ⟨h1.1.trans (h2.1.trans h3.1),fun dn=> ?_⟩
  have g2:=h3.1.to.g dn
  have a1:=h1.2 (h2.1.to.g g2)
  have a2:=h2.2 g2
  have a3:=h3.2 dn
  simp only [lG,tQ,Ar.aR,Sm.aR,List.length_nil]
  omega
theorem Xp {m:Nat} (hm:6006≤m) {r:Rd} (h:r.Ok):Tt (Rd.named m r) (StT r):=by
 unfold Rd.named
 refine(rT h _).bind fun x hx=>(Dw hx.1.to.ok _).bind fun b hb=>Tt.ite (fun hc=> ?_) (fun hc=> ?_)
 ·refine(P2 hm hx.1.to.ok).mono fun p hp=>⟨hx.1.trans hp.1,fun dn=> ?_⟩
  have:=hp.2 dn
  have:=hx.1.to.i
  omega
 ·refine(iP hx.1.to.ok _).bind fun r1 h1=>(JB h1.1.to.ok _).bind fun b2 Us=>Tt.ite (fun hc=> ?_) (fun hc=> ?_)
  ·refine(rT h1.1.to.ok _).bind fun y hy=>(P2 hm hy.1.to.ok).mono fun p hp=>⟨hx.1.trans (h1.1.trans (hy.1.trans hp.1)),fun dn=> ?_⟩
   have:=hp.2 dn
   have:=hx.1.to.i
   have:=h1.1.to.i
   have:=hy.1.to.i
   omega
  ·refine(wK h1.1.to.ok hm).bind fun y hy=>(iP hy.1.to.ok _).bind fun r2 h2=>Tt.some ⟨hx.1.trans (h1.1.trans (hy.1.trans h2.1)),fun dn=> ?_⟩
   have gy:=h2.1.to.g dn
   have a1:=h2.2 dn
   have a2:=hy.2 gy
   have a3:=h1.1.to.i
   have a4:=hx.1.to.i
   simp only [lG,Ar.aR,Sm.aR,List.length_nil]
   omega
theorem Xq {m:Nat} (hm:6006≤m) (word:ay) {r:Rd} (h:r.Ok):Tt (Rd.plain m word r) fun p=>r.kd p.2∧(p.2.good=true→p.1.size+8*r.i≤2+8*p.2.i):=by
 unfold Rd.plain
 have z : ∀ (k:Int) (nm:ay) (b:Bool),Sm.size ⟨0,k,[],nm,[],iG,b,[],[],[]⟩=2:=fun k nm b=>by simp only [lG,tQ,Ar.aR,Sm.aR,List.length_nil]
 refine Tt.ite (fun _=>Tt.some ⟨.refl h,fun _=>by rw [z];dsimp only;omega⟩) (fun _=>Tt.ite (fun _=>Tt.some ⟨.refl h,fun _=>by rw [z];dsimp only;omega⟩) (fun _=>Tt.ite (fun _=> ?_) (fun _=>Tt.ite (fun _=> ?_) (fun _=>Tt.ite (fun _=> ?_) (fun _=>Tt.ite (fun _=> ?_) (fun _=> ?_))))))
 ·refine(Dw h _).bind fun b hb=>Tt.ite (fun hc=> ?_) (fun hc=>Tt.some ⟨.refl h,fun _=>by rw [z];dsimp only;omega⟩)
  refine(wK h hm).bind fun x hx=>Tt.some ⟨hx.1,fun dn=> ?_⟩
  have:=hx.2 dn
  simp only [lG,Ar.aR,Sm.aR,List.length_nil]
  omega
 ·refine(rT h _).bind fun x hx=>Tt.some ⟨hx.1,fun dn=> ?_⟩
  have:=hx.1.to.i
  rw [z];dsimp only;omega
 ·refine(rT h _).bind fun x hx=>Tt.some ⟨hx.1,fun dn=> ?_⟩
  have:=hx.1.to.i
  rw [z];dsimp only;omega
 ·refine(wK h hm).bind fun x hx=>Tt.some ⟨hx.1,fun dn=> ?_⟩
  have:=hx.2 dn
  simp only [lG,Ar.aR,Sm.aR,List.length_nil]
  omega
 ·exact Tt.some ⟨.refl h,fun _=>by simp only [DS,lG,tQ,Ar.aR,Sm.aR,List.length_nil];omega⟩
theorem P3 {m:Nat} (hm:6006≤m) {r:Rd} (h:r.Ok):Tt (Rd.head m r) fun p=>r.kd p.2∧(p.2.good=true→p.1.size+4*r.i≤4*p.2.i):=by
 unfold Rd.head
 refine(iP h _).bind fun r1 h1=>(wK h1.1.to.ok hm).bind fun x hx=>(iP hx.1.to.ok _).bind fun r2 h2=>Tt.some ⟨h1.1.trans (hx.1.trans h2.1),fun dn=> ?_⟩
 have gx:=h2.1.to.g dn
 have:=hx.2 gx
 have:=h2.2 dn
 have:=h1.1.to.i
 dsimp only
 omega
end Go.Abs

/-! Tot3 -/

namespace Go.Abs
theorem aaY {n:Int} (h1 : -1000000<n) (h2:n<1000000):Gn n=some (n+1):=by
 simp only [Gn];rw [if_pos (by omega)]
theorem adZ {n:Nat} (h:n≤201):inc n=some (n+1):=by
 simp only [inc];rw [if_pos (by omega)]
structure qE (r r':Rd):Prop where
 to:r.To r'
 n:r'.good=true→r'.n≤200
theorem Rd.kd.q {r r':Rd} (h:r.kd r') (hn:r.good=true→r.n≤200):qE r r':=⟨h.to,fun g=>by rw [h.n];exact hn (h.to.g g)⟩
theorem qE.trans {a b c:Rd} (h:qE a b) (k:qE b c):qE a c:=⟨h.to.trans k.to,k.n⟩
def VM (r:Rd) (p:(List Sm×List ay)×Rd):Prop:=qE r p.2∧(p.2.good=true→Sm.aR p.1.1+p.1.2.length+8*r.i≤8*p.2.i)
theorem Xr {m:Nat} (hm:6006≤m) : ∀ n:Nat,
 (∀ (r:Rd) (nest:Int),r.Ok→r.n≤200→r.good=true→ -100000<nest→nest<100000 - n→5*(r.l.length - r.i)+1≤n→Tt (Rd.stmt m n nest r) fun p=>qE r p.2∧(p.2.good=true→p.1.size+1+8*r.i≤8*p.2.i))∧
 (∀ (r:Rd) (nest:Int) (body:Bool) (out:List Sm),r.Ok→(r.good=true→r.n≤200)→out.length≤r.i→ -100000<nest→nest<100000 - n→5*(r.l.length - r.i)+2≤n→
  Tt (Rd.fE m n nest body out r) fun p=>qE r p.2∧(p.2.good=true→Sm.aR p.1.1+p.1.2.length+8*r.i≤Sm.aR out+8*p.2.i))∧
 (∀ (r:Rd) (nest:Int) (body:Bool),r.Ok→(r.good=true→r.n≤200)→ -100000<nest→nest<100000 - n→5*(r.l.length - r.i)+3≤n→Tt (Rd.rows m n nest body r) (VM r))∧
 (∀ (r:Rd) (nest:Int),r.Ok→(r.good=true→r.n≤200)→ -100000<nest→nest<100000 - n→5*(r.l.length - r.i)+4≤n→Tt (Rd.block m n nest r) fun p=>qE r p.2∧(p.2.good=true→Sm.aR p.1+8*r.i≤8*p.2.i))∧
 (∀ (r:Rd) (nest:Int),r.Ok→(r.good=true→r.n≤200)→ -100000<nest→nest<100000 - n→5*(r.l.length - r.i)+5≤n→Tt (Rd.choice m n nest r) fun p=>qE r p.2∧(p.2.good=true→p.1.size+8*r.i≤2+8*p.2.i)):=by
 intro n
 induction n with
 | zero=>exact⟨fun r k _ _ _ _ _ h=>by omega,fun r k b o _ _ _ _ _ h=>by omega,fun r k b _ _ _ _ h=>by omega,fun r k _ _ _ _ h=>by omega,fun r k _ _ _ _ h=>by omega⟩
 | succ n ih=>
 obtain⟨pR,sk,wJ,ih4,ih5⟩:=ih
 refine⟨fun r nest h fB hg k6 bS hn=> ?_,fun r nest body out h fB Ka k6 bS hn=> ?_,fun r nest body h fB k6 bS hn=> ?_,fun r nest h fB k6 bS hn=> ?_,fun r nest h fB k6 bS hn=> ?_⟩
 ·have hC:=h.lt
  simp only [Rd.stmt]
  refine(TD h).bind fun b hb=>Tt.ite (fun hc=> ?_) (fun hc=> ?_)
  ·exact(u6 h (by decide)).bind fun r' hr=>Tt.some ⟨hr.1.q fun _=>fB,fun hg=>by rw [hr.2.1]at hg;cases hg⟩
  have hi1:=hb (by simpa using hc)
  rw [adZ h.n1,Option.bind_some]
  have nQ:({r with n:=r.n+1} : Rd).Ok:=⟨h.k,h.lt,h.len,h.last,by dsimp only;omega⟩
  have Ea:r.To {r with n:=r.n+1}:=⟨nQ,rfl,Nat.le_refl _,fun h'=>h',fun h'=>by rw [hg]at h';cases h'⟩
  refine Tt.ite (fun yq=> ?_) (fun yq=> ?_)
  ·exact(u6 nQ (by decide)).bind fun r' hr=>Tt.some ⟨⟨Ea.trans hr.1.to,fun hg=>by rw [hr.2.1]at hg;cases hg⟩,fun hg=>by rw [hr.2.1]at hg;cases hg⟩
  have hk:r.n+1≤200:=by
   simp only [Bool.or_eq_true,decide_eq_true_eq,not_or]at yq
   omega
  refine(n4 nQ).bind fun t ht=>Tt.ite (fun IW=> ?_) (fun IW=> ?_)
  ·refine(Xp hm nQ).mono fun p hp=>⟨⟨Ea.trans hp.1.to,fun _=>by rw [hp.1.n];exact hk⟩,fun dn=> ?_⟩
   have:=hp.2 dn
   dsimp only at this
   omega
  have MK:({r with n:=r.n+1,i:=r.i+1} : Rd).Ok:=⟨h.k,hi1,h.len,h.last,by dsimp only;omega⟩
  have TE:r.To {r with n:=r.n+1,i:=r.i+1}:=⟨MK,rfl,Nat.le_succ _,fun h'=>h',fun h'=>by rw [hg]at h';cases h'⟩
  refine Tt.ite (fun hc4=> ?_) (fun hc4=>Tt.ite (fun hc5=> ?_) (fun hc5=> ?_))
  ·refine(ih5 _ nest MK (fun _=>hk) k6 (by omega) (by dsimp only;omega)).mono fun p hp=>⟨⟨TE.trans hp.1.to,hp.1.n⟩,fun dn=> ?_⟩
   have:=hp.2 dn
   dsimp only at this
   omega
  ·refine(P3 hm MK).bind fun x hx=> ?_
   have hl:=hx.1.to.l
   have hi:=hx.1.to.i
   have hl3:=hx.1.to.ok.lt
   dsimp only at hl hi
   refine(ih4 x.2 nest hx.1.to.ok (fun _=>by rw [hx.1.n];exact hk) k6 (by omega) (by rw [hl]at hl3 ⊢;omega)).bind fun b hb=>Tt.some ⟨⟨TE.trans (hx.1.to.trans hb.1.to),hb.1.n⟩,fun dn=> ?_⟩
   have a1:=hb.2 dn
   have a2:=hx.2 (hb.1.to.g dn)
   simp only [lG,Ar.aR,Sm.aR,List.length_nil]
   dsimp only at a2
   omega
  ·refine(Xq hm _ MK).bind fun s hs=>(iP hs.1.to.ok _).bind fun r2 h2=>Tt.some ⟨⟨TE.trans (hs.1.to.trans h2.1.to),fun _=>by rw [h2.1.n,hs.1.n];exact hk⟩,fun dn=> ?_⟩
   have a1:=h2.2 dn
   have a2:=hs.2 (h2.1.to.g dn)
   dsimp only at a2 ⊢
   omega
 ·have hC:=h.lt
  have hlen:=h.len
  simp only [Rd.fE]
  refine Tt.ite (fun hg=> ?_) (fun hg=>Tt.some ⟨⟨.refl h,fB⟩,fun pW=>absurd pW hg⟩)
  refine(TC m [] r h (Nat.zero_le _) (by omega) (by omega)).bind fun l hl=> ?_
  have sy:=hl.1.to.l
  have gQ:=hl.1.to.i
  have hl3:=hl.2.2
  have hl4:=hl.1.to.ok.lt
  have hlg:l.2.good=true:=by rw [hl.2.1];exact hg
  have hln:l.2.n≤200:=by rw [hl.1.n];exact fB hg
  simp only [List.length_nil,Nat.zero_mul,Nat.zero_add]at hl3
  rw [sy]at hl4
  refine(Dw hl.1.to.ok _).bind fun b hb=>Tt.ite (fun hc=> ?_) (fun hc=> ?_)
  ·have xY:b=true:=by simp only [Bool.and_eq_true]at hc;exact hc.1
   have Cm:=Rd.kd.on hl.1.to.ok hlg (hb xY)
   refine Tt.some ⟨(hl.1.trans Cm).q fB,fun dn=> ?_⟩
   dsimp only
   omega
  ·refine(pR l.2 nest hl.1.to.ok hln hlg k6 (by omega) (by rw [sy];omega)).bind fun s hs=>(wL (by omega) (by decide)).bind fun b9 lH=> ?_
   subst lH
   have hq:qE r s.2:=(hl.1.q fB).trans hs.1
   cases hgs:s.2.good with
   | false=>
    cases n with
    | zero=>omega
    | succ n=>
     have e:Rd.fE m (n+1) nest body (out++ [{s.1 with labels:=l.1}]) s.2=some (([],[]),s.2):=by
      simp only [Rd.fE,hgs,Bool.false_eq_true, ↓reduceIte]
     rw [e]
     exact Tt.some ⟨hq,fun pW=>by rw [hgs]at pW;cases pW⟩
   | true=>
    have a1:=hs.2 hgs
    have Bi:=hs.1.to.l
    have DG:=hs.1.to.ok.lt
    rw [Bi,sy]at DG
    refine(sk s.2 nest body _ hs.1.to.ok hs.1.n (by simp;omega) k6 (by omega) (by rw [Bi,sy];omega)).mono fun p hp=>⟨hq.trans hp.1,fun dn=> ?_⟩
    have a2:=hp.2 dn
    rw [Sm.pH]at a2
    have a3:Sm.size ⟨s.1.id,s.1.kind,l.1,s.1.name,s.1.proc,s.1.x,s.1.has,s.1.args,s.1.a7,s.1.aX⟩≤s.1.size+l.1.length:=by
     obtain⟨s1,s2⟩:=s
     cases s1
     simp only [Sm.size]
     omega
    omega
 ·simp only [Rd.rows]
  refine(sk r nest body [] h fB (Nat.zero_le _) k6 (by omega) (by omega)).mono fun p hp=>⟨hp.1,fun dn=> ?_⟩
  have:=hp.2 dn
  simp only [Sm.aR]at this
  omega
 ·have hC:=h.lt
  simp only [Rd.block]
  refine(iP h _).bind fun r1 h1=> ?_
  have hl:=h1.1.to.l
  have hi:=h1.1.to.i
  have gQ:=h1.1.to.ok.lt
  rw [hl]at gQ
  rw [aaY (by omega) (by omega),Option.bind_some]
  refine(wJ r1 (nest+1) false h1.1.to.ok (h1.1.q fB).n (by omega) (by omega) (by rw [hl];omega)).bind fun p hp=>Tt.some ⟨(h1.1.q fB).trans hp.1,fun dn=> ?_⟩
  have:=hp.2 dn
  dsimp only
  omega
 ·have hC:=h.lt
  simp only [Rd.choice]
  refine(P3 hm h).bind fun x hx=> ?_
  have hl:=hx.1.to.l
  have hi:=hx.1.to.i
  have gQ:=hx.1.to.ok.lt
  rw [hl]at gQ
  refine(ih4 x.2 nest hx.1.to.ok (hx.1.q fB).n k6 (by omega) (by rw [hl];omega)).bind fun t ht=>(mW ht.1.to.ok _).bind fun q hq=>Tt.ite (fun hc=> ?_) (fun hc=> ?_)
  ·have aa3:=ht.1.to.l
   have auw:=ht.1.to.i
   have hq1:=hq.1.to.l
   have I0:=hq.1.to.i
   have hq3:=hq.1.to.ok.lt
   rw [hq1,aa3,hl]at hq3
   refine(ih4 q.2 nest hq.1.to.ok (hq.1.q ht.1.n).n k6 (by omega) (by rw [hq1,aa3,hl];omega)).bind fun e he=>Tt.some ⟨(hx.1.q fB).trans (ht.1.trans ((hq.1.q ht.1.n).trans he.1)),fun dn=> ?_⟩
   have g1:=he.1.to.g dn
   have g2:=hq.1.to.g g1
   have g3:=ht.1.to.g g2
   have a1:=he.2 dn
   have a2:=ht.2 g2
   have a3:=hx.2 g3
   simp only [lG,Ar.aR,List.length_nil]
   omega
  ·have Cn:q.1=false:=by simpa using hc
   rw [hq.2.2 Cn]
   refine Tt.some ⟨(hx.1.q fB).trans ht.1,fun dn=> ?_⟩
   have a2:=ht.2 dn
   have a3:=hx.2 (ht.1.to.g dn)
   simp only [lG,Ar.aR,Sm.aR,List.length_nil]
   omega
theorem aa4 {m n:Nat} (hm:6006≤m) {r:Rd} {body:Bool} (h:r.Ok) (fB:r.good=true→r.n≤200) (hn:10010≤n) (wx:n≤90000):Tt (Rd.rows m n 1 body r) (VM r):=by
 have:=h.len
 exact(Xr hm n).2.2.1 r 1 body h fB (by omega) (by omega) (by omega)
theorem TF : ∀ (n:Nat) (l:List Pm) (r:Rd),r.Ok→l.length≤r.i→r.l.length - r.i≤n+1→0<n→
 Tt (Rd.params n l r) fun p=>r.kd p.2∧(p.2.good=true→p.1.length+r.i≤l.length+p.2.i):=by
 intro n
 induction n with
 | zero=>intro l r _ _ _ h;omega
 | succ n ih=>
  intro l r h hl hn _
  have hC:=h.lt
  have hlen:=h.len
  simp only [Rd.params]
  refine Tt.ite (fun hg=> ?_) (fun hg=>Tt.some ⟨.refl h,fun _=>Nat.le_refl _⟩)
  refine(mW h _).bind fun q hq=>(rT hq.1.to.ok _).bind fun x hx=>(wL (by omega) (by decide)).bind fun l' jg=> ?_
  subst jg
  have hqi:=hq.1.to.i
  refine(mW hx.1.to.ok _).bind fun c hc=>Tt.ite (fun Br=> ?_) (fun Br=> ?_)
  ·have xX:c.1=false:=by simpa using Br
   rw [hc.2.2 xX]
   refine Tt.some ⟨hq.1.trans hx.1,fun dn=> ?_⟩
   have:=hx.2 dn
   simp;omega
  ·have hct:c.1=true:=by simpa using Br
   obtain⟨e1,e2,e3⟩:=hc.2.1 hct
   have h2:=hx.2 e2
   have l1:=hq.1.to.l
   have l2:=hx.1.to.l
   have l3:=hc.1.to.l
   have hi:=hc.1.to.ok.lt
   rw [l3,l2,l1]at hi
   refine(ih _ c.2 hc.1.to.ok (by simp;omega) (by rw [l3,l2,l1];omega) (by omega)).mono fun p hp=>⟨hq.1.trans (hx.1.trans (hc.1.trans hp.1)),fun dn=> ?_⟩
   have:=hp.2 dn
   simp at this
   omega
theorem aa5 {m:Nat} (hm:6006≤m) : ∀ (n:Nat) (l:List ay) (r:Rd),r.Ok→l.length≤r.i→r.l.length - r.i+1≤n→
 Tt (Rd.vars m n l r) fun p=>r.kd p.2∧(p.2.good=true→p.1.length+r.i≤l.length+p.2.i):=by
 intro n
 induction n with
 | zero=>intro l r _ _ h;omega
 | succ n ih=>
  intro l r h hl hn
  have hC:=h.lt
  have hlen:=h.len
  simp only [Rd.vars]
  refine(mW h _).bind fun q hq=>Tt.ite (fun hc=> ?_) (fun hc=> ?_)
  ·obtain⟨e1,e2,e3⟩:=hq.2.1 hc
   have l1:=hq.1.to.l
   have hi:=hq.1.to.ok.lt
   rw [l1]at hi
   refine(JA m l 16 q.2 hq.1.to.ok (by omega) (by rw [l1];omega) (by omega)).bind fun x hx=> ?_
   have l2:=hx.1.to.l
   have i2:=hx.1.to.i
   have py:=hx.1.to.ok.lt
   rw [l2,l1]at py
   cases oS:x.2.good with
   | false=>
    cases n with
    | zero=>omega
    | succ n=>
     have e:Rd.vars m (n+1) x.1 x.2=some (x.1,x.2):=by
      simp only [Rd.vars,Rd.take,oS,Bool.not_false, ↓reduceIte,Option.bind_some,Bool.false_eq_true]
     rw [e]
     exact Tt.some ⟨hq.1.trans hx.1,fun pW=>by rw [oS]at pW;cases pW⟩
   | true=>
    refine(ih x.1 x.2 hx.1.to.ok (hx.2.2.2 oS) (by rw [l2,l1];omega)).mono fun p hp=>⟨hq.1.trans (hx.1.trans hp.1),fun dn=> ?_⟩
    have a1:=hp.2 dn
    have a2:=hx.2.2.1 oS
    omega
  ·have Cn:q.1=false:=by simpa using hc
   rw [hq.2.2 Cn]
   exact Tt.some ⟨.refl h,fun _=>Nat.le_refl _⟩
theorem JD {m:Nat} (hm:10010≤m) (Ad:m≤90000) {name:ay} {ps:List Pm} {r:Rd} (h:r.Ok) (fB:r.good=true→r.n≤200) :
 Tt (Rd.lQ m name ps r) fun p=>qE r p.2∧(p.2.good=true→p.1.size+8*r.i≤1+ps.length+8*p.2.i):=by
 have hlen:=h.len
 unfold Rd.lQ
 refine(aa5 (by omega) m [] r h (Nat.zero_le _) (by omega)).bind fun v hv=>(aa4 (by omega) hv.1.to.ok (hv.1.q fB).n hm Ad).bind fun b hb=>Tt.some ⟨(hv.1.q fB).trans hb.1,fun dn=> ?_⟩
 have a1:=hb.2 dn
 have a2:=hv.2 (hb.1.to.g dn)
 have a3:=hv.1.to.i
 simp only [Pc.size,List.length_nil]at a2 ⊢
 omega
theorem aa6 {m:Nat} (hm:10010≤m) (Ad:m≤90000) {r:Rd} (h:r.Ok) (fB:r.good=true→r.n≤200) :
 Tt (Rd.proc m r) fun p=>qE r p.2∧(p.2.good=true→p.1.size+1+8*r.i≤8*p.2.i):=by
 have hlen:=h.len
 unfold Rd.proc
 refine(rT h _).bind fun x hx=>(iP hx.1.to.ok _).bind fun r1 h1=>(JC h1.1.to.ok _).bind fun b hb=>Tt.ite (fun hc=> ?_) (fun hc=> ?_)
 ·have l1:=h1.1.to.ok.len
  refine(TF m [] r1 h1.1.to.ok (Nat.zero_le _) (by omega) (by omega)).bind fun q hq=>(iP hq.1.to.ok _).bind fun r2 h2=>(iP h2.1.to.ok _).bind fun r3 h3=> ?_
  have q3:qE r r3:=(hx.1.q fB).trans ((h1.1.q (hx.1.q fB).n).trans ((hq.1.q (h1.1.q (hx.1.q fB).n).n).trans ((h2.1.q (hq.1.q (h1.1.q (hx.1.q fB).n).n).n).trans (h3.1.q (h2.1.q (hq.1.q (h1.1.q (hx.1.q fB).n).n).n).n))))
  refine(JD hm Ad h3.1.to.ok q3.n).mono fun p hp=>⟨q3.trans hp.1,fun dn=> ?_⟩
  have g3:=hp.1.to.g dn
  have g2:=h3.1.to.g g3
  have gq:=h2.1.to.g g2
  have g1:=hq.1.to.g gq
  have gx:=h1.1.to.g g1
  have a0:=hx.2 gx
  have a1:=h1.2 g1
  have a2:=hq.2 gq
  have a3:=h2.2 g2
  have a4:=h3.2 g3
  have a5:=hp.2 dn
  simp only [List.length_nil]at a2
  omega
 ·refine(iP h1.1.to.ok _).bind fun r2 h2=>(iP h2.1.to.ok _).bind fun r3 h3=> ?_
  have q3:qE r r3:=(hx.1.q fB).trans ((h1.1.q (hx.1.q fB).n).trans ((h2.1.q (h1.1.q (hx.1.q fB).n).n).trans (h3.1.q (h2.1.q (h1.1.q (hx.1.q fB).n).n).n)))
  refine(JD hm Ad h3.1.to.ok q3.n).mono fun p hp=>⟨q3.trans hp.1,fun dn=> ?_⟩
  have g3:=hp.1.to.g dn
  have g2:=h3.1.to.g g3
  have g1:=h2.1.to.g g2
  have gx:=h1.1.to.g g1
  have a0:=hx.2 gx
  have a1:=h1.2 g1
  have a3:=h2.2 g2
  have a4:=h3.2 g3
  have a5:=hp.2 dn
  simp only [List.length_nil]at a5
  omega
theorem P4 {m:Nat} (hm:6006≤m) : ∀ (n:Nat) (l:List ay) (r:Rd),r.Ok→l.length≤r.i→r.l.length - r.i+1≤n→
 Tt (Rd.globals m n l r) fun p=>r.kd p.2∧(p.2.good=true→p.1.length+r.i≤l.length+p.2.i):=by
 intro n
 induction n with
 | zero=>intro l r _ _ h;omega
 | succ n ih=>
  intro l r h hl hn
  have hC:=h.lt
  have hlen:=h.len
  simp only [Rd.globals]
  refine(mW h _).bind fun q hq=>Tt.ite (fun hc=> ?_) (fun hc=> ?_)
  ·obtain⟨e1,e2,e3⟩:=hq.2.1 hc
   have l1:=hq.1.to.l
   have hi:=hq.1.to.ok.lt
   rw [l1]at hi
   refine(JA m l 16 q.2 hq.1.to.ok (by omega) (by rw [l1];omega) (by omega)).bind fun x hx=> ?_
   have l2:=hx.1.to.l
   have i2:=hx.1.to.i
   have py:=hx.1.to.ok.lt
   rw [l2,l1]at py
   cases oS:x.2.good with
   | false=>
    cases n with
    | zero=>omega
    | succ n=>
     have e:Rd.globals m (n+1) x.1 x.2=some (x.1,x.2):=by
      simp only [Rd.globals,Rd.take,oS,Bool.not_false, ↓reduceIte,Option.bind_some,Bool.false_eq_true]
     rw [e]
     exact Tt.some ⟨hq.1.trans hx.1,fun pW=>by rw [oS]at pW;cases pW⟩
   | true=>
    refine(ih x.1 x.2 hx.1.to.ok (hx.2.2.2 oS) (by rw [l2,l1];omega)).mono fun p hp=>⟨hq.1.trans (hx.1.trans hp.1),fun dn=> ?_⟩
    have a1:=hp.2 dn
    have a2:=hx.2.2.1 oS
    omega
  ·have Cn:q.1=false:=by simpa using hc
   rw [hq.2.2 Cn]
   exact Tt.some ⟨.refl h,fun _=>Nat.le_refl _⟩
theorem TG {r:Rd} (h:r.Ok):Tt r.rK fun b=>b=true→r.good=true∧r.i+1<r.l.length:=by
 unfold Rd.rK
 exact Tt.ite (fun hg=>(Dw h _).mono fun b hb xY=>⟨hg,hb xY⟩) (fun hg=>Tt.some (by simp))
theorem TH {r:Rd} (h:r.Ok):Tt r.oK fun b=>b=true→r.good=true:=by
 unfold Rd.oK
 exact Tt.ite (fun hg=>(n4 h).bind fun t _=>Tt.some fun _=>hg) (fun hg=>Tt.some (by simp))
theorem Xs {m:Nat} (hm:10010≤m) (Ad:m≤90000) : ∀ (n:Nat) (l:List Pc) (r:Rd),r.Ok→(r.good=true→r.n≤200)→l.length≤r.i→r.l.length - r.i+1≤n→
 Tt (Rd.procs m n l r) fun p=>qE r p.2∧(p.2.good=true→Pc.aR p.1+8*r.i≤Pc.aR l+8*p.2.i):=by
 intro n
 induction n with
 | zero=>intro l r _ _ _ h;omega
 | succ n ih=>
  intro l r h fB hl hn
  have hC:=h.lt
  have hlen:=h.len
  simp only [Rd.procs]
  have tail : ∀ r1:Rd,r1.Ok→(r1.good=true→r1.n≤200)→∀ l1:List Pc,Tt (r1.oK.bind fun b=>if b then(r1.bad 3).bind fun r=>some (l1,r)else some (l1,r1)) fun p=>qE r1 p.2∧(p.2.good=true→Pc.aR p.1+8*r1.i≤Pc.aR l1+8*p.2.i):=by
   intro r1 sA Jz l1
   refine(TH sA).bind fun b hb=>Tt.ite (fun hc=> ?_) (fun hc=>Tt.some ⟨(Rd.kd.refl sA).q Jz,fun _=>Nat.le_refl _⟩)
   exact(u6 sA (by decide)).bind fun r' hr=>Tt.some ⟨hr.1.q Jz,fun hg=>by rw [hr.2.1]at hg;cases hg⟩
  refine(TG h).bind fun b hb=>Tt.ite (fun hc=> ?_) (fun hc=>tail r h fB l)
  obtain⟨hg,hi1⟩:=hb hc
  refine Tt.ite (fun yq=> ?_) (fun yq=> ?_)
  ·exact(u6 h (by decide)).bind fun r' hr=>Tt.some ⟨hr.1.q fB,fun hg=>by rw [hr.2.1]at hg;cases hg⟩
  have Cm:=Rd.kd.on h hg hi1
  refine(aa6 hm Ad Cm.to.ok (Cm.q fB).n).bind fun x hx=>(wL (by omega) (by decide)).bind fun l' jg=> ?_
  subst jg
  have hq:=(Cm.q fB).trans hx.1
  have l2:=hx.1.to.l
  have i2:=hx.1.to.i
  have py:=hx.1.to.ok.lt
  dsimp only at l2 i2
  rw [l2]at py
  cases oS:x.2.good with
  | false=>
   cases n with
   | zero=>omega
   | succ n=>
    have e:Rd.procs m (n+1) (l++ [x.1]) x.2=some (l++ [x.1],x.2):=by
     simp only [Rd.procs,Rd.rK,Rd.oK,oS, ↓reduceIte,Option.bind_some,Bool.false_eq_true]
    rw [e]
    exact Tt.some ⟨hq,fun pW=>by rw [oS]at pW;cases pW⟩
  | true=>
   have a0:=hx.2 oS
   dsimp only at a0
   refine(ih (l++ [x.1]) x.2 hx.1.to.ok hx.1.n (by simp;omega) (by rw [l2];omega)).mono fun p hp=>⟨hq.trans hp.1,fun dn=> ?_⟩
   have a1:=hp.2 dn
   rw [Pc.pH]at a1
   omega
theorem P5 {m:Nat} (hm:10010≤m) (Ad:m≤90000) {r:Rd} (h:r.Ok) (h0:r.i=0) (hn:r.n=0):Tt (Rd.program m r) fun p=>qE r p.2∧(p.2.good=true→p.1.size≤1+9*p.2.i):=by
 have hlen:=h.len
 unfold Rd.program
 have fB:r.good=true→r.n≤200:=fun _=>by omega
 refine(P4 (by omega) m [] r h (Nat.zero_le _) (by omega)).bind fun g hg=> ?_
 have l1:=hg.1.to.l
 refine(Xs hm Ad m [] g.2 hg.1.to.ok (hg.1.q fB).n (Nat.zero_le _) (by rw [l1];omega)).bind fun q hq=>Tt.some ⟨(hg.1.q fB).trans hq.1,fun dn=> ?_⟩
 have a1:=hq.2 dn
 have a2:=hg.2 (hq.1.to.g dn)
 have a3:=hq.1.to.i
 simp only [Pg.size,Pc.aR,List.length_nil]at a1 a2 ⊢
 omega
def xy (t:bA):Prop:=1≤t.kind∧t.kind≤4
theorem Xt {pos:Nat} {s:ay} {t:bA} (h:kA pos s = .inl t):xy t:=by
 cases s with
 | nil=>simp only [kA]at h;cases h
 | cons c r=>
  simp only [kA]at h
  split at h
  ·split at h
   ·cases h
   ·cases h;simp only [xy];split <;> omega
  ·split at h
   ·split at h
    ·cases h
    ·split at h
     ·cases h;simp [xy]
     ·cases h
   ·split at h
    ·cases h
    ·cases h;simp [xy]
theorem Xu : ∀ (n pos:Nat) (s:ay) (out:List bA),s.length<n→out.length≤2000→(∀ t∈out,xy t)→
 (il n pos s out).2.1=0→∃ l e,(il n pos s out).1=l++ [e]∧e.kind=0∧l.length≤2000∧∀ t∈l,xy t:=by
 intro n
 induction n with
 | zero=>intro pos s out h;omega
 | succ n ih=>
  intro pos s out hn ho nQ h
  cases s with
  | nil=>exact⟨out,⟨0,[],0,pos⟩,by simp [il],rfl,ho,nQ⟩
  | cons c r=>
   simp only [List.length_cons]at hn
   simp only [il]at h ⊢
   split
   ·rename_i hb
    rw [if_pos hb]at h
    exact ih _ _ _ (by omega) ho nQ h
   ·rename_i hb
    rw [if_neg hb]at h
    split
    ·rename_i hc
     rw [if_pos hc]at h
     have vf:0<ij (c::r):=by
      have:((c.toNat:Int) != 10)=true:=by simp only [beq_iff_eq]at hc;simp [hc]
      simp [ij,this]
     exact ih _ _ _ (by rw [List.length_drop,List.length_cons];omega) ho nQ h
    ·rename_i hc
     rw [if_neg hc]at h
     cases ht:kA pos (c::r)with
     | inr e=>
      simp only [ht]at h
      exfalso
      have:e=2∨e=4:=by
       simp only [kA]at ht
       repeat' split at ht
       all_goals first | (cases ht;simp;done) | cases ht
      omega
     | inl t=>
      simp only [ht]at h ⊢
      split
      ·rename_i h2
       rw [if_pos h2]at h
       cases h
      ·rename_i h2
       rw [if_neg h2]at h
       have vf:0<t.text.length:=by
        have : ∀ s:ay,t.text=s→0<s.length→0<t.text.length:=fun s e h=>by rw [e];exact h
        simp only [kA]at ht
        cases hL:mq c
        ·simp only [hL,Bool.false_eq_true, ↓reduceIte]at ht
         cases hD:j9 c
         ·simp only [hD,Bool.false_eq_true, ↓reduceIte]at ht
          split at ht
          ·cases ht
          ·cases ht;simp only [List.length_take,List.length_cons];omega
         ·have k0:0<lB (c::r):=by simp [lB,hD]
          simp only [hD, ↓reduceIte]at ht
          split at ht
          ·cases ht
          ·split at ht
           ·cases ht;simp only [List.length_take,List.length_cons];omega
           ·cases ht
        ·have k0:0<gm (c::r):=by simp [gm,hL]
         simp only [hL, ↓reduceIte]at ht
         split at ht
         ·cases ht
         ·cases ht;simp only [List.length_take,List.length_cons];omega
       refine ih _ _ _ (by rw [List.length_drop,List.length_cons];omega) (by simp;omega) ?_ h
       intro t' nw
       rcases List.mem_append.1 nw with h3 | h3
       ·exact nQ t' h3
       ·simp at h3;subst h3;exact Xt ht
theorem P6 {text:ay} (h:(fV text).2.1=0):(tN (fV text).1).Ok:=by
 unfold fV at h ⊢
 split at h
 ·cases h
 ·rename_i hl
  rw [if_neg hl]
  obtain⟨l,e,h1,h2,h3,h4⟩:=Xu _ 0 text [] (Nat.lt_succ_self _) (Nat.zero_le _) (by simp) h
  rw [h1]
  refine⟨fun t ht=> ?_,by simp [tN],by simp [tN];omega,fun t ht=> ?_,by simp [tN]⟩
  ·simp only [tN]at ht
   rcases List.mem_append.1 ht with h5 | h5
   ·have:=h4 t h5;simp only [xy]at this;omega
   ·simp at h5;subst h5;omega
  ·simp only [tN,List.length_append,List.length_singleton,Nat.add_sub_cancel]at ht
   rw [List.getElem?_append_right (Nat.le_refl _)]at ht
   simp at ht
   subst ht
   exact h2
def Fp:Nat:=20000
mutual
theorem Sm.TI (b:Bool) (n:Nat) : ∀ s:Sm,(Sm.num b n s).1.size=s.size
 | ⟨id,kind,labels,name,proc,x,has,args,a7,aX⟩=>by
  simp only [Sm.num,Sm.size,Sm.n5 b _ a7,Sm.n5 b _ aX]
theorem Sm.n5 (b:Bool) (n:Nat) : ∀ l:List Sm,Sm.aR (Sm.cR b n l).1=Sm.aR l
 | []=>rfl
 | s::l=>by simp only [Sm.cR,Sm.aR,Sm.TI b _ s,Sm.n5 b _ l]
end
theorem Pc.n5 : ∀ (n:Nat) (l:List Pc),Pc.aR (Pc.cR n l)=Pc.aR l
 | n,[]=>rfl
 | n,f::l=>by simp only [Pc.cR,Pc.aR,Pc.size,Sm.n5,Pc.n5 _ l]
theorem Pg.IJ (p:Pg):p.number.size=p.size:=by simp only [Pg.number,Pg.size,Pc.n5]
theorem TJ (text:ay):Tt (oW Fp text) fun p=>p.1.size<100000:=by
 unfold oW
 refine Tt.ite (fun hz=>Tt.some (by simp [rI,Pg.size,Pc.aR])) (fun hz=> ?_)
 have h0:(fV text).2.1=0:=by simpa using hz
 have nQ:=P6 h0
 refine(P5 (by decide) (by decide) nQ rfl rfl).bind fun p hp=>Tt.ite (fun _=>Tt.some (by simp [rI,Pg.size,Pc.aR])) (fun hc=> ?_)
 have hg:p.2.good=true:=by simpa [Rd.good]using hc
 have hs:=hp.2 hg
 have hi:=hp.1.to.ok.lt
 have hl:=hp.1.to.ok.len
 have:p.1.size<1073741824:=by omega
 simp only [Pg.vV,this, ↓reduceIte,Option.bind_some]
 refine Tt.some ?_
 rw [Pg.IJ]
 omega
end Go.Abs

/-! Parsed2 -/

namespace Go.Abs
open Go.Proofs
theorem Hw:oW Fp source=some (om,0,0):=by kernel_rfl
theorem MM:source.length<4611686018427387904:=by simp [source]
theorem Eu:Nat.ble (om.size+1) 1000=true:=by kernel_rfl
theorem MN:om.size<1073741824:=Nat.lt_of_lt_of_le (Nat.le_of_ble_eq_true Eu) (Nat.le_of_ble_eq_true rfl)
end Go.Abs

/-! RefLex2 -/

namespace Go.Abs
set_option maxRecDepth 8000
open Go.Proofs
def amc:Int→ay→Int
 | n,[]=>n
 | n,c::r=>amc (n*10+((c.toNat:Int) - 48)) r
def amd:bA:=⟨0,[],0,0⟩
def auy (x:bA ⊕ Int):bA×Int:=
 match x with
 | .inl t=>(t,0)
 | .inr e=>(amd,e)
end Go.Abs

/-! RefLex3 -/

namespace Go.Abs
set_option maxRecDepth 8000
open Go.Proofs
end Go.Abs

/-! Ref4 -/

namespace Go.Abs
set_option maxRecDepth 8000
open Go.Proofs
def xA (s:ay):ay:=s.take (min s.length 100100)
theorem ad0 (text:ay) (s:St):aD Tryz.prog wZ [.str text] s (.str (xA text)) s:=by
 refine aD.pure ?_ rfl rfl s
 have e:(if(100100:Int)<(text.length:Int)then(100100:Int)else(text.length:Int))=((min text.length 100100:Nat):Int):=by split <;> omega
 have e1:(0:Int)≤((min text.length 100100:Nat):Int)∧((min text.length 100100:Nat):Int)≤(text.length:Int):=by omega
 unfold S0
 refine aD.go Gt rfl fun B Q hB hQ=> ?_
 have⟨hC,hE,hF,hM⟩:=bL
 repeat' (first
 | simp only [go_sem,hC,hE,hF,hM,e,e1,xA,Bool.false_eq_true]
 | (with_reducible first | refine bD fun hc=> ?_ | refine bE fun hc=> ?_ | refine bF (fun hc=> ?_) fun hc=> ?_) <;> (try simp only [hc,bs, ↓reduceIte]at h) <;> try simp only [hc]
 | (with_reducible refine aH hQ ?_;simp only [aA,aB,bM,bN,go_sem,hC,hE,hF,hM,e,e1,xA,Bool.false_eq_true];repeat' (first | exact Ok.out | with_reducible refine aJ ?_ ?_ | (simp;done))))
theorem Hx (text:ay):(xA text).length<4611686018427387904:=by
 simp only [xA,List.length_take];omega
end Go.Abs

/-! Ref5 -/

namespace Go.Abs
set_option maxRecDepth 8000
open Go.Proofs
def Rd.atd (n:Nat) (l:List ay) (dL:Int) (r:Rd):Option (List ay×Rd):=
 (r.take [44]).bind fun q=>if !q.1 then(q.2.want [59]).bind fun r=>some (l,r)else Rd.names n l dL q.2
def aa7 (s:ay):Bool:=s == [105,102] || s == [119,104,105,108,101] || s == [98,114,101,97,107] || s == [99,111,110,116,105,110,117,101] || s == [114,101,116,117,114,110] || s == [103,111,116,111] || s == [114,101,97,100] || s == [112,114,105,110,116]
def Rd.VN (m:Nat) (r:Rd):Option (List Ar×Rd):=
 (r.want [40]).bind fun r=>(r.take [41]).bind fun q=>
  if q.1 then some ([],q.2)
  else if q.2.good then(Rd.jx m m [] q.2).bind fun x=>(x.2.want [41]).bind fun r=>some (x.1,r)
  else some ([],q.2)
end Go.Abs

/-! Ref6 -/

namespace Go.Abs
set_option maxRecDepth 8000
open Go.Proofs
def Rd.qm (m:Nat) (name:ay) (r:Rd):Option (Sm×Rd):=
 (r.isO [40]).bind fun b=>
  if b then(Rd.VN m r).bind fun q=>some (⟨0,4,[],[],name,iG,false,q.1,[],[]⟩,q.2)
  else(r.want [61]).bind fun r=>(r.ahead [40]).bind fun b=>
   if b then(r.name true).bind fun y=>(Rd.VN m y.2).bind fun q=>some (⟨0,4,[],name,y.1,iG,false,q.1,[],[]⟩,q.2)
   else(Rd.whole m r).bind fun y=>some (⟨0,1,[],name,[],y.1,false,[],[],[]⟩,y.2)
def auz (p:Sm×Rd):Option (Sm×Rd):=(p.2.want [59]).bind fun r=>some (p.1,r)
end Go.Abs

/-! MirNum -/

namespace Go.Abs
def Pt {α:Type} (o:Option α) (Q:α→Prop):Prop:=∀ a,o=some a→Q a
theorem Pt.bind {α β:Type} {o:Option α} {f:α→Option β} {Q:α→Prop} {R:β→Prop} (h:Pt o Q) (k : ∀ a,Q a→Pt (f a) R):Pt (o.bind f) R:=by
 intro b hb
 rw [Option.bind_eq_some_iff]at hb
 obtain⟨a,h1,h2⟩:=hb
 exact k a (h a h1) b h2
theorem Pt.any {α β:Type} {o:Option α} {f:α→Option β} {R:β→Prop} (k : ∀ a,Pt (f a) R):Pt (o.bind f) R:=by
 intro b hb
 rw [Option.bind_eq_some_iff]at hb
 obtain⟨a,h1,h2⟩:=hb
 exact k a b h2
theorem Pt.some {α:Type} {a:α} {Q:α→Prop} (h:Q a):Pt (some a) Q:=fun b hb=>by cases hb;exact h
theorem Pt.none {α:Type} {Q:α→Prop} : Pt (none:Option α) Q:=fun b hb=>by cases hb
theorem Pt.ite {α:Type} {c:Prop} [Decidable c] {a b:Option α} {Q:α→Prop} (h1:c→Pt a Q) (h2 : ¬ c→Pt b Q):Pt (if c then a else b) Q:=by
 by_cases h:c
 ·rw [if_pos h];exact h1 h
 ·rw [if_neg h];exact h2 h
theorem Pt.mono {α:Type} {o:Option α} {Q R:α→Prop} (h:Pt o Q) (k : ∀ a,Q a→R a):Pt o R:=fun a ha=>k a (h a ha)
structure ey (a b:Rd):Prop where
 l:b.l=a.l
 n:b.n=a.n
 g:b.good=true→a.good=true
theorem ey.refl (r:Rd):ey r r:=⟨rfl,rfl,id⟩
theorem ey.i {a b:Rd} (h:ey a b) (k:Nat):ey a {b with i:=k}:=⟨h.l,h.n,h.g⟩
theorem ey.f {a b:Rd} (h:ey a b) (hg:b.good=true) (c f:Int):ey a {b with code:=c,jk:=f}:=⟨h.l,h.n,fun _=>h.g hg⟩
theorem Fq {r0 r:Rd} (h:ey r0 r) (c:Int):Pt (r.bad c) (ey r0):=by
 unfold Rd.bad
 exact Pt.ite (fun hg=>Pt.any fun t=>Pt.some (h.f hg _ _)) (fun _=>Pt.some h)
theorem mg {r0 r:Rd} (h:ey r0 r) (s:ay):Pt (r.take s) (fun p=>ey r0 p.2):=by
 unfold Rd.take
 exact Pt.ite (fun hg=>Pt.some h) (fun _=>Pt.any fun b=>Pt.ite (fun _=>Pt.some h) (fun _=>Pt.some (h.i _)))
theorem iQ {r0 r:Rd} (h:ey r0 r) (s:ay):Pt (r.want s) (ey r0):=by
 unfold Rd.want
 exact(mg h s).bind fun p hp=>Pt.ite (fun _=>Fq hp _) (fun _=>Pt.some hp)
theorem rU {r0 r:Rd} (h:ey r0 r) (room:Bool):Pt (r.name room) (fun p=>ey r0 p.2):=by
 unfold Rd.name
 exact Pt.any fun t=>Pt.ite (fun _=>(Fq h _).bind fun r hr=>Pt.some hr) (fun _=>Pt.ite (fun _=>(Fq h _).bind fun r hr=>Pt.some hr) (fun _=>Pt.some (h.i _)))
theorem aa8 {r0:Rd} : ∀ n:Nat,(∀ r:Rd,ey r0 r→Pt (Rd.one n r) (fun p=>ey r0 p.2))∧(∀ (r:Rd) (k:Int),ey r0 r→Pt (Rd.two n k r) (fun p=>ey r0 p.2))∧
 (∀ (r:Rd) (k:Int) (x:Ex),ey r0 r→Pt (Rd.jD n k x r) (fun p=>ey r0 p.2)):=by
 intro n
 induction n with
 | zero=>exact⟨fun r _=>by simp only [Rd.one];exact Pt.none,fun r k _=>by simp only [Rd.two];exact Pt.none,fun r k x _=>by simp only [Rd.jD];exact Pt.none⟩
 | succ n ih=>
  obtain⟨pR,sk,wJ⟩:=ih
  refine⟨fun r h=> ?_,fun r k h=> ?_,fun r k x h=> ?_⟩
  ·simp only [Rd.one]
   refine Pt.any fun t=>Pt.ite (fun _=>Pt.some h) fun _=>Pt.ite (fun _=>Pt.some (h.i _)) fun _=>Pt.ite (fun _=>Pt.some (h.i _)) fun _=> ?_
   refine(mg h _).bind fun p hp=>Pt.ite (fun _=>(sk _ _ hp).bind fun x hx=>(iQ hx _).bind fun r hr=>Pt.some hr) fun _=> ?_
   refine(mg hp _).bind fun p hp=>Pt.ite (fun _=>(pR _ hp).bind fun x hx=>Pt.some hx) fun _=> ?_
   refine(mg hp _).bind fun p hp=>Pt.ite (fun _=>(pR _ hp).bind fun x hx=>Pt.some hx) fun _=> ?_
   exact(Fq hp _).bind fun r hr=>Pt.some hr
  ·simp only [Rd.two]
   exact(pR _ h).bind fun x hx=>wJ _ _ _ hx
  ·simp only [Rd.jD]
   exact Pt.ite (fun _=>Pt.any fun t=>Pt.ite (fun _=>Pt.some h) fun _=>(sk _ _ (h.i _)).bind fun y hy=>wJ _ _ _ hy) (fun _=>Pt.some h)
theorem wM {n:Nat} {r0 r:Rd} (h:ey r0 r):Pt (Rd.whole n r) (fun p=>ey r0 p.2):=by
 unfold Rd.whole
 exact Pt.any fun t=>((aa8 n).2.1 _ _ h).bind fun x hx=>Pt.ite (fun hg=>Pt.any fun d=>Pt.ite (fun _=>Pt.some (hx.f hg _ _)) fun _=>Pt.some hx) fun _=>Pt.some hx
theorem JE {dL:Int} {r0:Rd} : ∀ (n:Nat) (l:List ay) (r:Rd),ey r0 r→Pt (Rd.names n l dL r) (fun p=>ey r0 p.2):=by
 intro n
 induction n with
 | zero=>intro l r _;simp only [Rd.names];exact Pt.none
 | succ n ih=>
  intro l r h
  simp only [Rd.names]
  exact Pt.ite (fun _=>(rU h _).bind fun p hp=>Pt.any fun l=>(mg hp _).bind fun q hq=>Pt.ite (fun _=>(iQ hq _).bind fun r hr=>Pt.some hr) fun _=>ih _ _ hq) fun _=>Pt.some h
theorem TK {r0:Rd} : ∀ (n:Nat) (l:List ay) (r:Rd),ey r0 r→Pt (Rd.labels n l r) (fun p=>ey r0 p.2):=by
 intro n
 induction n with
 | zero=>intro l r _;simp only [Rd.labels];exact Pt.none
 | succ n ih=>
  intro l r h
  simp only [Rd.labels]
  exact Pt.any fun b=>Pt.ite (fun _=>Pt.any fun t=>Pt.any fun l=>ih _ _ (h.i _)) fun _=>Pt.some h
theorem Xv {m:Nat} {r0:Rd} : ∀ (n:Nat) (l:List Ar) (r:Rd),ey r0 r→Pt (Rd.jx m n l r) (fun p=>ey r0 p.2):=by
 intro n
 induction n with
 | zero=>intro l r _;simp only [Rd.jx];exact Pt.none
 | succ n ih=>
  intro l r h
  simp only [Rd.jx]
  refine Pt.ite (fun _=>(mg h _).bind fun p hp=>Pt.ite (fun _=> ?_) fun _=> ?_) fun _=>Pt.some h
  ·exact(rU hp _).bind fun x hx=>Pt.any fun l=>(mg hx _).bind fun c hc=>Pt.ite (fun _=>Pt.some hc) fun _=>ih _ _ hc
  ·exact(wM hp).bind fun x hx=>Pt.any fun l=>(mg hx _).bind fun c hc=>Pt.ite (fun _=>Pt.some hc) fun _=>ih _ _ hc
def SmK (r0:Rd) (p:Sm×Rd):Prop:=ey r0 p.2∧p.1.a7 = []∧p.1.aX = []
theorem P7 {m:Nat} {name proc:ay} {r0 r:Rd} (h:ey r0 r):Pt (Rd.call m name proc r) (SmK r0):=by
 unfold Rd.call
 refine(iQ h _).bind fun r hr=>Pt.any fun b=>Pt.ite (fun _=> ?_) fun _=> ?_
 ·exact(Xv _ _ _ hr).bind fun q hq=>(iQ hq _).bind fun r hr=>(iQ hr _).bind fun r hr=>Pt.some ⟨hr,rfl,rfl⟩
 ·exact(iQ hr _).bind fun r hr=>(iQ hr _).bind fun r hr=>Pt.some ⟨hr,rfl,rfl⟩
theorem Xw {m:Nat} {r0 r:Rd} (h:ey r0 r):Pt (Rd.named m r) (SmK r0):=by
 unfold Rd.named
 refine(rU h _).bind fun x hx=>Pt.any fun b=>Pt.ite (fun _=>P7 hx) fun _=>(iQ hx _).bind fun r hr=>Pt.any fun b=>Pt.ite (fun _=> ?_) fun _=> ?_
 ·exact(rU hr _).bind fun y hy=>P7 hy
 ·exact(wM hr).bind fun y hy=>(iQ hy _).bind fun r hr=>Pt.some ⟨hr,rfl,rfl⟩
theorem Xx {m:Nat} {word:ay} {r0 r:Rd} (h:ey r0 r):Pt (Rd.plain m word r) (SmK r0):=by
 unfold Rd.plain
 refine Pt.ite (fun _=>Pt.some ⟨h,rfl,rfl⟩) fun _=>Pt.ite (fun _=>Pt.some ⟨h,rfl,rfl⟩) fun _=>Pt.ite (fun _=>Pt.any fun b=>Pt.ite (fun _=>(wM h).bind fun x hx=>Pt.some ⟨hx,rfl,rfl⟩) fun _=>Pt.some ⟨h,rfl,rfl⟩) fun _=> ?_
 refine Pt.ite (fun _=>(rU h _).bind fun x hx=>Pt.some ⟨hx,rfl,rfl⟩) fun _=>Pt.ite (fun _=>(rU h _).bind fun x hx=>Pt.some ⟨hx,rfl,rfl⟩) fun _=>Pt.ite (fun _=>(wM h).bind fun x hx=>Pt.some ⟨hx,rfl,rfl⟩) fun _=>Pt.some ⟨h,rfl,rfl⟩
theorem P8 {m:Nat} {r0 r:Rd} (h:ey r0 r):Pt (Rd.head m r) (fun p=>ey r0 p.2):=by
 unfold Rd.head
 exact(iQ h _).bind fun r hr=>(wM hr).bind fun x hx=>(iQ hx _).bind fun r hr=>Pt.some hr
theorem Sm.Hy (b:Bool) (s:Sm) : ∀ (l:List Sm) (n:Nat),Sm.cR b n (l++ [s])=((Sm.cR b n l).1++ [(Sm.num b (Sm.cR b n l).2 s).1],(Sm.num b (Sm.cR b n l).2 s).2)
 | [],n=>by simp only [List.nil_append,Sm.cR]
 | x::l,n=>by simp only [List.cons_append,Sm.cR,Sm.Hy b s l]
theorem Sm.MO (b:Bool) (n:Nat) (l:List ay) : ∀ s:Sm,Sm.num b n {s with labels:=l} = ({(Sm.num b n s).1 with labels:=l},(Sm.num b n s).2)
 | ⟨_,_,_,_,_,_,_,_,_,_⟩=>by simp only [Sm.num]
theorem Sm.Hz (b:Bool) (n:Nat) : ∀ s:Sm,s.a7 = []→s.aX = []→(Sm.num b n s).2=n+1
 | ⟨_,_,_,_,_,_,_,_,_,_⟩,h1,h2=>by dsimp only at h1 h2;subst h1;subst h2;simp only [Sm.num,Sm.cR]
structure lK (r:Rd) (k:Nat) (r':Rd):Prop where
 l:r'.l=r.l
 g:r'.good=true→r.good=true
 n:r'.good=true→k=r'.n
 le:r'.good=true→r.n≤200→r'.n≤200
theorem VO (r:Rd) {c:Int} (hc:c≠0):Pt (r.bad c) (fun r'=>r'.l=r.l∧r'.good=false):=by
 unfold Rd.bad
 refine Pt.ite (fun hg=>Pt.any fun t=>Pt.some ⟨rfl, ?_⟩) (fun hg=>Pt.some ⟨rfl,by simpa using hg⟩)
 simpa using hc
theorem lK.bad {r r':Rd} {k:Nat} (h:r'.l=r.l∧r'.good=false):lK r k r':=by
 have e : ¬ r'.good=true:=by rw [h.2];decide
 exact⟨h.1,fun g=>(e g).elim,fun g=>(e g).elim,fun g=>(e g).elim⟩
theorem lK.keep {r a b:Rd} {k:Nat} (h:lK r k a) (e:ey a b):lK r k b:=
 ⟨e.l.trans h.l,fun g=>h.g (e.g g),fun g=>(h.n (e.g g)).trans e.n.symm,fun g hn=>by rw [e.n];exact h.le (e.g g) hn⟩
theorem lK.trans {r a b:Rd} {k j:Nat} (h:lK r k a) (e:lK a j b):lK r j b:=
 ⟨e.l.trans h.l,fun g=>h.g (e.g g),e.n,fun g hn=>e.le g (h.le (e.g g) hn)⟩
theorem lK.refl (r:Rd):lK r r.n r:=⟨rfl,id,fun _=>rfl,fun _ h=>h⟩
theorem Xy {m:Nat} : ∀ n:Nat,
 (∀ (nest:Int) (body:Bool) (r:Rd),Pt (Rd.rows m n nest body r) fun p=>lK r (Sm.cR true r.n p.1.1).2 p.2)∧
 (∀ (nest:Int) (body:Bool) (out:List Sm) (r0 r:Rd),lK r0 (Sm.cR true r0.n out).2 r→Pt (Rd.fE m n nest body out r) fun p=>lK r0 (Sm.cR true r0.n p.1.1).2 p.2)∧
 (∀ (nest:Int) (r:Rd),Pt (Rd.stmt m n nest r) fun p=>lK r (Sm.num true r.n p.1).2 p.2)∧
 (∀ (nest:Int) (r:Rd),Pt (Rd.block m n nest r) fun p=>lK r (Sm.cR true r.n p.1).2 p.2)∧
 (∀ (nest:Int) (r:Rd),Pt (Rd.choice m n nest r) fun p=>lK r (Sm.cR true (Sm.cR true r.n p.1.a7).2 p.1.aX).2 p.2):=by
 intro n
 induction n with
 | zero=>
  refine⟨fun _ _ r=> ?_,fun _ _ _ _ r _=> ?_,fun _ r=> ?_,fun _ r=> ?_,fun _ r=> ?_⟩
  ·simp only [Rd.rows];exact Pt.none
  ·simp only [Rd.fE];exact Pt.none
  ·simp only [Rd.stmt];exact Pt.none
  ·simp only [Rd.block];exact Pt.none
  ·simp only [Rd.choice];exact Pt.none
 | succ n ih=>
  obtain⟨i1,i2,i3,i4,i5⟩:=ih
  refine⟨fun nest body r=> ?_,fun nest body out r0 r h=> ?_,fun nest r=> ?_,fun nest r=> ?_,fun nest r=> ?_⟩
  ·simp only [Rd.rows]
   exact i2 _ _ _ _ _ ⟨rfl,id,fun _=>rfl,fun _ h=>h⟩
  ·simp only [Rd.fE]
   refine Pt.ite (fun hg=> ?_) (fun hg=> ?_)
   ·refine(TK m [] r (ey.refl r)).bind fun l hl=>Pt.any fun b=>Pt.ite (fun _=>Pt.some (h.keep (hl.i _))) fun _=> ?_
    refine(i3 nest l.2).bind fun s hs=> ?_
    refine Pt.bind (Q:=fun l'=>l'=out++ [{s.1 with labels:=l.1}]) (fun a ha=>(fG ha).2) fun l' e=> ?_
    subst e
    refine i2 _ _ _ _ _ ?_
    rw [Sm.Hy,Sm.MO]
    have h2:=h.keep hl
    refine⟨hs.l.trans h2.l,fun g=>h2.g (hs.g g),fun g=> ?_,fun g hn=>hs.le g (h2.le (hs.g g) hn)⟩
    rw [h2.n (hs.g g)]
    exact hs.n g
   ·have hg:r.good=false:=by simpa using hg
    exact Pt.some (lK.bad ⟨h.l,hg⟩)
  ·simp only [Rd.stmt]
   refine Pt.any fun b=>Pt.ite (fun _=>(VO r (by decide)).bind fun r' hr=>Pt.some (lK.bad hr)) fun _=> ?_
   refine Pt.bind (Q:=fun k=>k=r.n+1) (fun a ha=>(Gm ha).2) fun k e=> ?_
   subst e
   refine Pt.ite (fun _=>(VO _ (by decide)).bind fun r' hr=>Pt.some (lK.bad hr)) fun hl=> ?_
   have hk:r.n+1≤200:=by
    simp only [Bool.or_eq_true,decide_eq_true_eq,not_or]at hl
    omega
   have h0 : ∀ j,lK r (r.n+1) {r with i:=j,n:=r.n+1}:=fun j=>⟨rfl,id,fun _=>rfl,fun _ _=>hk⟩
   refine Pt.any fun t=>Pt.ite (fun _=> ?_) fun _=>Pt.ite (fun _=> ?_) fun _=>Pt.ite (fun _=> ?_) fun _=> ?_
   ·refine(Xw (ey.refl _)).mono fun p hp=> ?_
    rw [Sm.Hz true _ _ hp.2.1 hp.2.2]
    exact(h0 r.i).keep hp.1
   ·refine(i5 nest _).mono fun p hp=> ?_
    obtain⟨⟨_,_,_,_,_,_,_,_,_,_⟩,r'⟩:=p
    simp only [Sm.num]
    exact(h0 _).trans hp
   ·refine(P8 (ey.refl _)).bind fun x hx=>(i4 nest x.2).bind fun b hb=>Pt.some ?_
    simp only [Sm.num,Sm.cR]
    have e:=hx.n
    dsimp only at e
    rw [← e]
    exact((h0 _).keep hx).trans hb
   ·refine(Xx (ey.refl _)).bind fun s hs=>(iQ hs.1 _).bind fun r' hr=>Pt.some ?_
    rw [Sm.Hz true _ _ hs.2.1 hs.2.2]
    exact(h0 _).keep hr
  ·simp only [Rd.block]
   refine(iQ (ey.refl r) _).bind fun r1 hr=>Pt.any fun k=>(i1 k false r1).bind fun p hp=>Pt.some ?_
   rw [← hr.n]
   exact((lK.refl r).keep hr).trans hp
  ·simp only [Rd.choice]
   refine(P8 (ey.refl r)).bind fun x hx=>(i4 nest x.2).bind fun t ht=>(mg (ey.refl t.2) _).bind fun q hq=>Pt.ite (fun _=> ?_) fun _=> ?_
   ·refine(i4 nest q.2).bind fun e he=>Pt.some ?_
    dsimp only
    have h1:=(((lK.refl r).keep hx).trans ht).keep hq
    have h2:=h1.trans he
    refine⟨h2.l,h2.g,fun g=> ?_,h2.le⟩
    have e1:=he.n g
    have e2:=h1.n (he.g g)
    rw [hx.n]at e2
    rw [e2]
    exact e1
   ·refine Pt.some ?_
    dsimp only [Sm.cR]
    rw [← hx.n]
    exact(((lK.refl r).keep hx).trans ht).keep hq
end Go.Abs

/-! Ref7 -/

namespace Go.Abs
set_option maxRecDepth 8000
open Go.Proofs
def cN (r:Rd):D:=match r.good with | true=> .int .i64 r.n | false=> .junk
instance (r:Rd):Cell (cN r):=by
 unfold cN
 cases r.good
 ·exact inferInstanceAs (Cell .junk)
 ·exact inferInstanceAs (Cell (.int .i64 _))
def stD (g:Bool) (v:Sm):List D:=match g with | true=>bh v | false=> [.junk, .junk, .junk, .junk, .junk, .junk, .junk, .junk, .junk, .junk, .junk, .junk, .junk]
def TW (l:List bA):Prop:=∀ t∈l,t.kind=4→aa7 t.text=false
abbrev atg (m n:Nat):Prop:=∀ {k:Int} {z:D} [Cell z] {r r1:Rd} {p:(List Sm×List ay)×Rd},r.want [123] = some r1→Rd.rows m n k false r1=some p→TW r.l→(r1.good=true→z = .int .i64 r1.n)→(r1.good=true→r1.n≤200)→
 ∀ {s:St} {o:Nat},s.az[o]? = some (uK z r)→
 aD Tryz.prog CP [.ptr o 0, .int .i64 k, .bool false] s (.tuple [.slice .shared 13 ((Sm.cR true r1.n p.1.1).1.map bh), .slice .shared 1 (p.1.2.map encStr)]) ⟨s.az.set o (uK (cN p.2) p.2),s.aC⟩
abbrev amv (m n:Nat):Prop:=∀ {nest:Int} {labels:List ay} {r:Rd} {p:Sm×Rd},Rd.stmt m n nest r=some p→r.good=true→TW r.l→r.n≤200→
 ∀ {s:St} {o:Nat},s.az[o]? = some (uK (.int .i64 r.n) r)→
 aD Tryz.prog EL [.ptr o 0, .slice .shared 1 (labels.map encStr), .int .i64 nest] s (.agg (stD p.2.good (Sm.num true r.n {p.1 with labels:=labels}).1)) ⟨s.az.set o (uK (cN p.2) p.2),s.aC⟩
end Go.Abs

/-! Ref8 -/

namespace Go.Abs
set_option maxRecDepth 8000
open Go.Proofs
end Go.Abs

/-! Ref9 -/

namespace Go.Abs
set_option maxRecDepth 8000
open Go.Proofs
def Rd.atW (m:Nat) (r:Rd):Option (Pc×Rd):=
 (r.name true).bind fun x=>(x.2.want [40]).bind fun r=>(r.take [41]).bind fun q=>
  if q.1 then(q.2.want [123]).bind fun r=>Rd.lQ m x.1 [] r
  else if q.2.good then(Rd.params m [] q.2).bind fun y=>(y.2.want [41]).bind fun r=>(r.want [123]).bind fun r=>Rd.lQ m x.1 y.1 r
  else Rd.lQ m x.1 [] q.2
end Go.Abs

/-! Ref10 -/

namespace Go.Abs
set_option maxRecDepth 8000
open Go.Proofs
def Pc.fI (n:Nat):List Pc→Nat
 | []=>n
 | f::l=>Pc.fI (Sm.cR true n f.body).2 l
end Go.Abs

/-! Glue2 -/

namespace Go.Abs
def M0:Map:=⟨fun _ _=>none,fun _=>(0, .any),fun _=>none⟩
def Kept (w w':World):Prop:=w.keptBut w' (fun _=>False)∧∀ a:Addr,a.block<w.heap.size→w'.frozen? a=w.frozen? a
theorem Kept.frame {w w':World} (h:Kept w w') (may:MemPlace→Prop):w.keptBut w' may:=World.keptBut_mono (fun _ f=>f.elim) h.1
theorem Ext.abb {M M':Map} {s':St} {w w':World} (e:Ext M S0 w M' s' w'):Kept w w':=by
 have hh : ∀ b,b<w.heap.size→w'.heap[b]? = w.heap[b]? :=fun b hb=>
  e.kept b hb (fun o ho=>by simp [S0]at ho) (fun t c z hl=>by obtain⟨n,hn⟩:=hl;simp [S0]at hn)
 refine⟨⟨e.os,e.output,fun i hi=> ?_⟩,fun a ha=> ?_⟩
 ·rw [hh i hi]
  exact(World.keptBut_refl w (fun _=>False)).2.2 i hi
 ·simp only [World.frozen?,hh _ ha]
theorem ame (G:Nat→Nat→Option Value) (w:World) (h : ∀ b o v,G b o=some v→w.cell? ⟨b,o,none⟩=some v∧v.oneCell'=true):Rel ⟨G,fun _=>(0, .any),fun _=>none⟩ S0 w:=
 ⟨h,fun o ds e=>by simp [S0]at e,fun o ho=>by simp [S0]at ho,fun o o' ho=>by simp [S0]at ho,fun t n e=>by simp [S0]at e,
  fun t b c z o hl=>by obtain⟨n,hn⟩:=hl;simp [S0]at hn,fun t t' b c z c' z' hl=>by obtain⟨n,hn⟩:=hl;simp [S0]at hn⟩
def MP (w:World):Prop:=∀ g cs,X7 g=some cs→∃ T fr,w.heap[g]? = some (.cells cs T fr)
theorem ad2 (G:Nat→Nat→Option Value) {w:World} (h:MP w):Laid ⟨G,fun _=>(0, .any),fun _=>none⟩ S0 w:=
 fun g cs hg=>⟨h g cs hg,fun o ho=>by simp [S0]at ho,fun t c z hl=>by obtain⟨n,hn⟩:=hl;simp [S0]at hn⟩
theorem P9 {P:Program} {f:FuncId} {args:List D} {fD:Array Value} {w:World} {G:Nat→Nat→Option Value} (h:dT P f args S0 fun d _=>d = .bool true)
 (hG : ∀ b o v,G b o=some v→w.cell? ⟨b,o,none⟩=some v∧v.oneCell'=true) (hl:fD.size=args.length)
 (ha : ∀ (i:Nat) (d:D) (v:Value),args[i]? = some d→fD[i]? = some v→RD ⟨G,fun _=>(0, .any),fun _=>none⟩ S0 d v) (kH:MP w) :
 Calls P f fD w fun e w'=>e = .returned (.bool true)∧Kept w w':=by
 refine(h _ w fD (ame G w hG) (ad2 G kH) hl ha).mono fun e w' hw=> ?_
 obtain⟨M',d,v,s',rfl,rfl,he,_,hv⟩:=hw
 rw [hv.mA]
 exact⟨rfl,he.abb⟩
section
variable {P:Program} {H:Type} {enc:TypeId×Value→H}
theorem HA {f:Func} {s:ChangeSpec} {apart fresh handsOn again:Bool} {W W':World} {args:Array Value} {v:Value} {ds gs:List (DataW H)} {before pa pv:List MemPlace}
 (hW:DataW.Whole enc P f.params.toList s.vars apart W args.toList ds gs before)
 (abd : ∀ (b:Nat) (sp:Nat→Bool) (hd:Bool),DataW.TrodAll enc P W' b sp hd f.resultTypes.toList (v.resultList f.resultTypes.size) (s.fn H (ds++gs)).results [])
 (E9 : ∀ sp:Nat→Bool,(∀ p∈before,sp p.block=true)→DataW.TrodAll enc P W' 0 sp true f.params.toList args.toList (s.fn H (ds++gs)).args pa)
 (Co : ∀ sp:Nat→Bool,(∀ p∈before,sp p.block=true)→DataW.TrodVars enc P W' sp s.vars (s.fn H (ds++gs)).vars pv)
 (sB:before=pa++pv) (hk:Kept W W')
 (nQ : ∀ (j:Nat) (t:TypeId) (r:Value),f.resultTypes[j]? = some t→(v.resultList f.resultTypes.size)[j]? = some r→Value.okWide P W' .any 0 t r) :
 s.post enc P f apart fresh handsOn again W args v W':=by
 have hC : ∀ p∈before,p.block<W.heap.size:=fun p hp=>hW.lt p hp
 have hold : ∀ p∈before,(fun b=>decide (b<W.heap.size)) p.block=true:=fun p hp=>by simpa using hC p hp
 refine⟨ds,gs,before,[],pa,pv,hW,abd _ _ _,E9 _ hold,Co _ hold,World.keptBut_mono (fun p hp=>⟨hp, ?_⟩) (hk.frame (· ∈before)),fun _=> ?_⟩
 ·rw [sB,List.mem_append]at hp
  exact Or.inr hp
 ·obtain⟨_,_,_,_,_,hz,hn⟩:=hW
  refine⟨nQ,_,_,([]++pa)++pv,⟨[]++pa,pv,ChangeShapes.trodAll_append (E9 _ (fun _ _=>rfl)) (abd _ _ _),Co _ (fun _ _=>rfl),rfl, ?_, ?_⟩, ?_⟩
  ·intro b off hp
   have ny:MemPlace.cell b off∈before:=by rw [sB];simpa using hp
   rw [hk.2 _ (hC _ ny)]
   exact hz b off ny
  ·intro ha
   have:=hn ha
   rw [sB]at this
   simpa using this
  ·intro p hp _
   rw [sB]
   simpa using hp
end
end Go.Abs

/-! LawAll -/

namespace Go.Abs
open Go.Proofs
def NW (t:bA):Prop:=t.kind=4→aa7 t.text=false
end Go.Abs

/-! Ck2 -/

namespace Go.Abs
set_option maxRecDepth 8000
open Go.Proofs
def qq (p:Pg) (c jk:Int):Pg×Int×Int:=if c==0 then(if p.check.1==0 then(p,0,0)else(rI,p.check))else(rI,c,jk)
theorem JF {T:ay} {p:Pg} {c jk:Int} (h:oW Fp T=some (p,c,jk)) (hm:c=0→p.may=true∧jk=0) (hp:p.size<100000) (hl:T.length<4611686018427387904) (s:St) :
 aD Tryz.prog pY [.str T] s (.tuple [.agg (cB (qq p c jk).1), .agg (kB (qq p c jk).2)]) s:=by
 refine aD.pure ?_ rfl (by simp [D.bT,D.ok,jC,kB]) s
 have h1:=fun s=>Jt h hl s
 have e0:cB rI = [.slice .shared 1 [], .slice .shared 5 []]:=rfl
 unfold S0
 unfold qq
 have b0:(c != 0) = !(c==0):=rfl
 rcases Bool.eq_false_or_eq_true (c==0)with b1 | b1
 case inr=>
  simp only [b1,Bool.false_eq_true,if_false]
  rw [b1]at b0
  refine aD.go qQ rfl fun B Q hB hQ=> ?_
  have⟨hC,hE,hF,hM⟩:=bL
  repeat' (first
 | simp only [go_sem,hC,hE,hF,hM,b1,b0,Bool.not_false,kB,e0]
 | (with_reducible refine CU (h1 _) ?_)
 | (with_reducible refine aH hQ ?_;simp only [aA,aB,Option.some.injEq,exists_eq_left',go_sem,hC,hE,hF,hM];repeat' (first | exact Ok.out | with_reducible refine aJ ?_ ?_ | (simp;done))))
 have hc:c=0:=by simpa using b1
 subst hc
 obtain⟨MQ,hf⟩:=hm rfl
 subst hf
 have ho:p.kc:=⟨uS MQ (by omega),by omega⟩
 have h2:=fun s=>Cl ho s
 have b3:(p.check.1 != 0) = !(p.check.1==0):=rfl
 simp only [b1,if_true]
 rcases Bool.eq_false_or_eq_true (p.check.1==0)with b2 | b2
 case inr=>
  simp only [b2,Bool.false_eq_true,if_false]
  rw [b2]at b3
  refine aD.go qQ rfl fun B Q hB hQ=> ?_
  have⟨hC,hE,hF,hM⟩:=bL
  repeat' (first
 | simp only [go_sem,hC,hE,hF,hM,b1,b3,Bool.not_false,kB,e0]
 | (with_reducible refine CU (h1 _) ?_)
 | (with_reducible refine CU (h2 _) ?_)
 | (with_reducible refine aH hQ ?_;simp only [aA,aB,Option.some.injEq,exists_eq_left',go_sem,hC,hE,hF,hM];repeat' (first | exact Ok.out | with_reducible refine aJ ?_ ?_ | (simp;done))))
 simp only [b2,if_true]
 rw [b2]at b3
 refine aD.go qQ rfl fun B Q hB hQ=> ?_
 have⟨hC,hE,hF,hM⟩:=bL
 repeat' (first
 | simp only [go_sem,hC,hE,hF,hM,b1,b3,Bool.not_true,kB]
 | (with_reducible refine CU (h1 _) ?_)
 | (with_reducible refine CU (h2 _) ?_)
 | (with_reducible refine aH hQ ?_;simp only [aA,aB,Option.some.injEq,exists_eq_left',go_sem,hC,hE,hF,hM];repeat' (first | exact Ok.out | with_reducible refine aJ ?_ ?_ | (simp;done))))
theorem Ak:om.check=(0,0):=by decide +kernel
theorem Qa:Pc.xx om.procs=8:=by decide +kernel
theorem Qb:rI.check=(5,0):=by decide +kernel
theorem Qc (s:St):aD Tryz.prog pX [] s (.bool true) s:=by
 refine aD.pure ?_ rfl rfl s
 have ep:=MN
 have Nu:om.size<100000:=by have:=Nat.le_of_ble_eq_true Eu;omega
 have MQ:om.may=true:=by decide +kernel
 have ho:om.kc:=⟨uS MQ (by omega),by omega⟩
 have h1:=fun s=>JF Hw (fun _=>⟨MQ,rfl⟩) Nu MM s
 have e:qq om 0 0=(om,0,0):=by unfold qq;rw [Ak];rfl
 rw [e]at h1
 have h2:=fun s=>P0 ho s
 rw [Ak]at h2
 have h3:=fun s=>Xn (p:=om) (by omega) s
 rw [Qa]at h3
 have z0:((0:Int)==0)=true:=rfl
 have z8:(((8:Nat):Int)==8)=true:=rfl
 have z5:((5:Int)==5)=true:=rfl
 have h4':=fun s=>(Cl aaU s).O4 (d:= .agg [.slice .full 0 [], .slice .full 0 []]) (Wk.agg (.cons (Wk.nil _ _ _) (.cons (Wk.nil _ _ _) .nil)))
 simp only [Qb]at h4'
 unfold S0
 refine aD.go zI rfl fun B Q hB hQ=> ?_
 have⟨hC,hE,hF,hM⟩:=bL
 repeat' (first
 | simp only [go_sem,hC,hE,hF,hM,z0,z8,z5,kB]
 | (with_reducible refine CU (TA _) ?_)
 | (with_reducible refine CU (aaT _) ?_)
 | (with_reducible refine CU (h1 _) ?_)
 | (with_reducible refine CU (h2 _) ?_)
 | (with_reducible refine CU (h3 _) ?_)
 | (with_reducible refine CU (h4' _) ?_)
 | (with_reducible refine aH hQ ?_;simp only [aA,aB,Option.some.injEq,exists_eq_left',go_sem,hC,hE,hF,hM];repeat' (first | exact Ok.out | with_reducible refine aJ ?_ ?_ | (simp;done))))
end Go.Abs

/-! MayLaw -/

namespace Go.Abs
def mh (l:List bA):Prop:=∀ t∈l,(t.kind=1→isName t.text=true)∧(t.kind=2→0≤t.n)
def GK {α:Type} (r:Rd) (o:Option (α×Rd)) (Q:α→Prop):Prop:=∀ p,o=some p→p.2.l=r.l∧(p.2.good=true→r.good=true∧Q p.1)
def VP (r:Rd) (o:Option Rd):Prop:=∀ p,o=some p→p.l=r.l∧(p.good=true→r.good=true)
theorem GK.bind {α β:Type} {r:Rd} {o:Option (α×Rd)} {f:α×Rd→Option (β×Rd)} {Q:α→Prop} {R:β→Prop} (h:GK r o Q) (k : ∀ a q,q.l=r.l→(q.good=true→r.good=true∧Q a)→GK q (f (a,q)) R):GK r (o.bind f) R:=by
 intro p hp
 rw [Option.bind_eq_some_iff]at hp
 obtain⟨⟨a,q⟩,h1,h2⟩:=hp
 obtain⟨e,g⟩:=h _ h1
 obtain⟨e2,g2⟩:=k a q e g _ h2
 exact⟨e2.trans e,fun hg=>⟨(g (g2 hg).1).1,(g2 hg).2⟩⟩
theorem VP.bind {β:Type} {r:Rd} {o:Option Rd} {f:Rd→Option (β×Rd)} {R:β→Prop} (h:VP r o) (k : ∀ q,q.l=r.l→(q.good=true→r.good=true)→GK q (f q) R):GK r (o.bind f) R:=by
 intro p hp
 rw [Option.bind_eq_some_iff]at hp
 obtain⟨q,h1,h2⟩:=hp
 obtain⟨e,g⟩:=h _ h1
 obtain⟨e2,g2⟩:=k q e g _ h2
 exact⟨e2.trans e,fun hg=>⟨g (g2 hg).1,(g2 hg).2⟩⟩
theorem GK.ask {α β:Type} {r:Rd} {o:Option α} {f:α→Option (β×Rd)} {R:β→Prop} (k : ∀ a,o=some a→GK r (f a) R):GK r (o.bind f) R:=by
 intro p hp
 rw [Option.bind_eq_some_iff]at hp
 obtain⟨a,h1,h2⟩:=hp
 exact k a h1 _ h2
theorem GK.ret {α:Type} {r:Rd} {a:α} {Q:α→Prop} (h:r.good=true→Q a):GK r (some (a,r)) Q:=fun p hp=>by cases hp;exact⟨rfl,fun g=>⟨g,h g⟩⟩
theorem GK.on {α:Type} {r:Rd} {a:α} {Q:α→Prop} (i:Nat) (h:r.good=true→Q a):GK r (some (a,{r with i:=i})) Q:=fun p hp=>by cases hp;exact⟨rfl,fun g=>⟨g,h g⟩⟩
theorem GK.kE {α:Type} {r:Rd} {Q:α→Prop} : GK r (none:Option (α×Rd)) Q:=fun p hp=>by cases hp
theorem GK.ite {α:Type} {r:Rd} {c:Prop} [Decidable c] {a b:Option (α×Rd)} {Q:α→Prop} (h1:c→GK r a Q) (h2 : ¬ c→GK r b Q):GK r (if c then a else b) Q:=by
 by_cases h:c
 ·rw [if_pos h];exact h1 h
 ·rw [if_neg h];exact h2 h
theorem GK.mono {α:Type} {r:Rd} {o:Option (α×Rd)} {Q R:α→Prop} (h:GK r o Q) (k : ∀ a,Q a→R a):GK r o R:=fun p hp=>⟨(h p hp).1,fun g=>⟨((h p hp).2 g).1,k _ ((h p hp).2 g).2⟩⟩
theorem GK.from {α:Type} {r s:Rd} {o:Option (α×Rd)} {Q:α→Prop} (h:GK s o Q) (hl:s.l=r.l) (hg:s.good=r.good):GK r o Q:=fun p hp=>⟨(h p hp).1.trans hl,fun g=>⟨hg ▸ ((h p hp).2 g).1,((h p hp).2 g).2⟩⟩
theorem Fs {r:Rd} {c:Int} (hc:c≠0) : ∀ p,r.bad c=some p→p.l=r.l∧p.good=false:=by
 intro p hp
 unfold Rd.bad at hp
 split at hp
 ·rw [Option.bind_eq_some_iff]at hp
  obtain⟨t,_,hp⟩:=hp
  cases hp
  exact⟨rfl,by simpa [Rd.good]using hc⟩
 ·rename_i h
  cases hp
  exact⟨rfl,by simpa using h⟩
theorem tR {α:Type} {r:Rd} {c:Int} (hc:c≠0) (a:α) (Q:α→Prop):GK r ((r.bad c).bind fun r=>some (a,r)) Q:=by
 intro p hp
 rw [Option.bind_eq_some_iff]at hp
 obtain⟨q,h1,h2⟩:=hp
 obtain⟨e,g⟩:=Fs hc q h1
 cases h2
 exact⟨e,fun h=>by rw [g]at h;cases h⟩
theorem kn (r:Rd) (s:ay):GK r (r.take s) fun _=>True:=by
 unfold Rd.take
 exact GK.ite (fun _=>GK.ret fun _=>trivial) fun _=>GK.ask fun b _=>GK.ite (fun _=>GK.ret fun _=>trivial) fun _=>GK.on _ fun _=>trivial
theorem gP (r:Rd) (s:ay):VP r (r.want s):=by
 intro p hp
 unfold Rd.want at hp
 rw [Option.bind_eq_some_iff]at hp
 obtain⟨⟨b,q⟩,h1,h2⟩:=hp
 obtain⟨e,g⟩:=kn r s _ h1
 dsimp only at e g h2
 split at h2
 ·obtain⟨e2,g2⟩:=Fs (by decide) p h2
  exact⟨e2.trans e,fun h=>by rw [g2]at h;cases h⟩
 ·cases h2
  exact⟨e,fun h=>(g h).1⟩
theorem zE {r:Rd} (hT:mh r.l) {t:bA} (h:r.gi=some t):(t.kind=1→isName t.text=true)∧(t.kind=2→0≤t.n):=hT t (List.mem_of_getElem? (mD h).2.1)
theorem pI {r:Rd} (hT:mh r.l) (room:Bool):GK r (r.name room) fun s=>isName s=true∧room=true:=by
 unfold Rd.name
 refine GK.ask fun t ht=>GK.ite (fun _=>tR (by decide) _ _) fun hk=>GK.ite (fun _=>tR (by decide) _ _) fun hr=>GK.on _ fun _=>⟨?_,by simpa using hr⟩
 simp only [Bool.or_eq_true,Bool.not_eq_true',not_or,bne_iff_ne,ne_eq,Decidable.not_not]at hk
 exact(zE hT ht).1 hk.2
theorem abe (t:bA):(fw t).1=0∨5≤(fw t).1∧(fw t).1≤17:=by
 have key : ∀ {c:Prop} [Decidable c] {a b:Int×Int},(a.1=0∨5≤a.1∧a.1≤17)→(b.1=0∨5≤b.1∧b.1≤17)→((if c then a else b).1=0∨5≤(if c then a else b).1∧(if c then a else b).1≤17):=by
  intro c _ a b h1 h2
  by_cases h:c
  ·rw [if_pos h];exact h1
  ·rw [if_neg h];exact h2
 unfold fw
 refine key (by simp) (key (by simp) (key (by simp) (key (by simp) (key (by simp) (key (by simp) (key (by simp) (key (by simp) (key (by simp) (key (by simp) (key (by simp) (key (by simp) (key (by simp) (key (by simp) (by simp))))))))))))))
theorem TL {n:Int} (h:0≤n):Ex.form ⟨1,n,[],[]⟩=true:=by
 have:decide (n<0)=false:=by simp;omega
 simp [Ex.form,Ex.lf,iO,this]
theorem Qd {s:ay} (h:isName s=true):Ex.form ⟨2,0,s,[]⟩=true:=by
 cases s with
 | nil=>simp [isName]at h
 | cons c r=>simp [Ex.form,Ex.lf,iO,h]
theorem Qe {op:Int} (ho:op=3∨op=4) {x:Ex} (h:x.form=true):Ex.form ⟨op,0,[],[x]⟩=true:=by
 rcases ho with rfl | rfl <;> simp [Ex.form,Ex.lf,iO,h]
theorem abf {op:Int} (ho:5≤op∧op≤17) {x y:Ex} (h:x.form=true) (k:y.form=true):Ex.form ⟨op,0,[],[x,y]⟩=true:=by
 have e1:(op==1)=false:=by simp;omega
 have e2:(op==2)=false:=by simp;omega
 have e3:(op==3)=false:=by simp;omega
 have e4:(op==4)=false:=by simp;omega
 have e5:decide (op≥5)=true:=by simp;omega
 have e6:decide (op≤17)=true:=by simp;omega
 simp [Ex.form,Ex.lf,iO,e1,e2,e3,e4,e5,e6,h,k]
theorem XA : ∀ n:Nat,(∀ r:Rd,mh r.l→GK r (Rd.one n r) fun x=>x.form=true)∧(∀ (r:Rd) (k:Int),mh r.l→GK r (Rd.two n k r) fun x=>x.form=true)∧
 (∀ (r:Rd) (k:Int) (x:Ex),mh r.l→(r.good=true→x.form=true)→GK r (Rd.jD n k x r) fun x=>x.form=true):=by
 intro n
 induction n with
 | zero=>exact⟨fun r _=>by simp only [Rd.one];exact GK.kE,fun r k _=>by simp only [Rd.two];exact GK.kE,fun r k x _ _=>by simp only [Rd.jD];exact GK.kE⟩
 | succ n ih=>
  obtain⟨pR,sk,wJ⟩:=ih
  refine⟨fun r hT=> ?_,fun r k hT=> ?_,fun r k x hT hx=> ?_⟩
  ·simp only [Rd.one]
   refine GK.ask fun t ht=>GK.ite (fun hg=>GK.ret fun g=>by rw [g]at hg;cases hg) fun _=>GK.ite (fun hk=>GK.on _ fun _=>TL ((zE hT ht).2 (by simpa using hk))) fun _=>
    GK.ite (fun hk=>GK.on _ fun _=>Qd ((zE hT ht).1 (by simpa using hk))) fun _=> ?_
   refine(kn r _).bind fun b q e g=>GK.ite (fun _=> ?_) fun _=> ?_
   ·refine(sk q 1 (e ▸ hT)).bind fun x s e2 g2=> ?_
    exact(gP s _).bind fun u e3 g3=>GK.ret fun gu=>(g2 (g3 gu)).2
   refine(kn q _).bind fun b q2 e2 g2=>GK.ite (fun _=> ?_) fun _=> ?_
   ·exact(pR q2 (by rw [e2,e];exact hT)).bind fun x s e3 g3=>GK.ret fun gs=>Qe (.inl rfl) (g3 gs).2
   refine(kn q2 _).bind fun b q3 e3 g3=>GK.ite (fun _=> ?_) fun _=>tR (by decide) _ _
   exact(pR q3 (by rw [e3,e2,e];exact hT)).bind fun x s e4 g4=>GK.ret fun gs=>Qe (.inr rfl) (g4 gs).2
  ·simp only [Rd.two]
   exact(pR r hT).bind fun x s e g=>wJ s k x (e ▸ hT) fun gs=>(g gs).2
  ·simp only [Rd.jD]
   refine GK.ite (fun _=>GK.ask fun t ht=>GK.ite (fun _=>GK.ret hx) fun kO=> ?_) fun _=>GK.ret hx
   have amf:5≤(fw t).1∧(fw t).1≤17:=by
    rcases abe t with h | h
    ·simp [h]at kO
    ·exact h
   refine GK.from (s:= {r with i:=r.i+1}) ?_ rfl rfl
   exact GK.bind (f:=fun y=>Rd.jD n k ⟨(fw t).1,0,[],[x,y.1]⟩ y.2) (sk _ _ hT) fun y s e g=>wJ s k _ (by rw [e];exact hT) fun gs=>abf amf (hx (g gs).1) (g gs).2
theorem tS {n:Nat} {r:Rd} (hT:mh r.l):GK r (Rd.whole n r) fun x=>x.may=true:=by
 unfold Rd.whole
 refine GK.ask fun t _=>((XA n).2.1 r 1 hT).bind fun x s e g=>GK.ite (fun hg=> ?_) fun hg=>GK.ret fun gs=>absurd gs hg
 refine GK.ask fun d hd=>GK.ite (fun _=> ?_) fun hd2=>GK.ret fun gs=> ?_
 ·intro p hp
  cases hp
  exact⟨rfl,fun h=>by cases h⟩
 ·unfold yJ at hd
  split at hd
  ·cases hd
   unfold Ex.may
   have hd3:x.depth≤20:=by simp only [decide_eq_true_eq]at hd2;omega
   have:decide (((min x.depth 21:Nat):Int)≤20)=true:=by simp only [decide_eq_true_eq];omega
   rw [this,(g gs).2];rfl
  ·cases hd
theorem tT {t:ay} (h:isName t=true) : ∀ {l:List ay},bX l=true→bX (l++ [t])=true
 | [],_=>by simp [bX,h]
 | s::l,hl=>by
  simp only [bX,List.cons_append]at hl ⊢
  split at hl
  ·cases hl
  ·rename_i hs
   rw [if_neg hs]
   exact tT h hl
theorem HC {dL:Int} : ∀ (n:Nat) (l:List ay) (r:Rd),mh r.l→(r.good=true→bX l=true∧(l.length:Int)≤dL)→GK r (Rd.names n l dL r) fun l=>bX l=true∧(l.length:Int)≤dL:=by
 intro n
 induction n with
 | zero=>intro l r _ _;simp only [Rd.names];exact GK.kE
 | succ n ih=>
  intro l r hT h
  simp only [Rd.names]
  refine GK.ite (fun _=>(pI hT _).bind fun s q e g=>GK.ask fun l2 gQ=> ?_) fun _=>GK.ret h
  have e2:=(fG gQ).2
  have h2:q.good=true→bX l2=true∧(l2.length:Int)≤dL:=by
   intro gq
   obtain⟨g0,h3,h4⟩:=g gq
   simp only [decide_eq_true_eq]at h4
   rw [e2]
   exact⟨tT h3 (h g0).1,by simp;omega⟩
  refine(kn q _).bind fun b q2 e3 g3=>GK.ite (fun _=>(gP q2 _).bind fun u e4 g4=>GK.ret fun gu=>h2 (g3 (g4 gu)).1) fun _=> ?_
  exact ih _ _ (by rw [e3,e];exact hT) fun gq2=>h2 (g3 gq2).1
theorem Qf : ∀ (n:Nat) (l:List ay) (r:Rd),mh r.l→bX l=true→GK r (Rd.labels n l r) fun l=>bX l=true:=by
 intro n
 induction n with
 | zero=>intro l r _ _;simp only [Rd.labels];exact GK.kE
 | succ n ih=>
  intro l r hT h
  simp only [Rd.labels]
  refine GK.ask fun b hb=>GK.ite (fun xY=> ?_) fun _=>GK.ret fun _=>h
  refine GK.ask fun t ht=>GK.ask fun l2 gQ=> ?_
  have hk:t.kind=1:=by
   subst xY
   unfold Rd.ahead at hb
   split at hb
   ·rw [ht,Option.bind_some]at hb
    split at hb
    ·rename_i hk;simpa using hk
    ·cases hb
   ·cases hb
  refine GK.from (s:= {r with i:=r.i+2}) ?_ rfl rfl
  refine ih _ _ hT ?_
  rw [(fG gQ).2]
  exact tT ((zE hT ht).1 hk) h
theorem A3 {a:Ar} (h:a.may=true) : ∀ {l:List Ar},Ar.cY l=true→Ar.cY (l++ [a])=true
 | [],_=>by simp [Ar.cY,h]
 | s::l,hl=>by
  simp only [Ar.cY,List.cons_append]at hl ⊢
  split at hl
  ·cases hl
  ·rename_i hs
   rw [if_neg hs]
   exact A3 h hl
theorem XB {s:ay} (h:isName s=true):Ar.may ⟨true,s,iG⟩=true:=by simp [Ar.may,h,Ex.none,iG]
theorem XC {x:Ex} (h:x.may=true):Ar.may ⟨false,[],x⟩=true:=by simp [Ar.may,h]
theorem TN {m:Nat} : ∀ (n:Nat) (l:List Ar) (r:Rd),mh r.l→(r.good=true→Ar.cY l=true)→GK r (Rd.jx m n l r) fun l=>Ar.cY l=true:=by
 intro n
 induction n with
 | zero=>intro l r _ _;simp only [Rd.jx];exact GK.kE
 | succ n ih=>
  intro l r hT h
  simp only [Rd.jx]
  refine GK.ite (fun _=>(kn r _).bind fun b q e g=>GK.ite (fun _=> ?_) fun _=> ?_) fun _=>GK.ret h
  ·refine(pI (e ▸ hT) _).bind fun s q2 e2 g2=>GK.ask fun l2 gQ=> ?_
   refine(kn q2 _).bind fun c q3 e3 g3=> ?_
   have h3:q3.good=true→Ar.cY l2=true:=fun gg=>by
    rw [(fG gQ).2]
    obtain⟨g4,h5,_⟩:=g2 (g3 gg).1
    exact A3 (XB h5) (h (g g4).1)
   exact GK.ite (fun _=>GK.ret h3) fun _=>ih _ _ (by rw [e3,e2,e];exact hT) h3
  ·refine(tS (e ▸ hT)).bind fun s q2 e2 g2=>GK.ask fun l2 gQ=> ?_
   refine(kn q2 _).bind fun c q3 e3 g3=> ?_
   have h3:q3.good=true→Ar.cY l2=true:=fun gg=>by
    rw [(fG gQ).2]
    obtain⟨g4,h5⟩:=g2 (g3 gg).1
    exact A3 (XC h5) (h (g g4).1)
   exact GK.ite (fun _=>GK.ret h3) fun _=>ih _ _ (by rw [e3,e2,e];exact hT) h3
end Go.Abs

/-! MayLaw2 -/

namespace Go.Abs
def xZ (s:Sm):Prop:=∀ L,bX L=true→({s with labels:=L} : Sm).one=true
theorem xB:iG.none=true:=rfl
theorem Ev {s:ay} (h:isName s=true):(s == [])=false:=by cases s;simp [isName]at h;rfl
theorem HD {id:Int} {name proc:ay} {args:List Ar} (hp:isName proc=true) (hn:name = []∨isName name=true) (ha:Ar.cY args=true):xZ ⟨id,4,[],name,proc,iG,false,args,[],[]⟩:=by
 intro L hL
 rcases hn with rfl | hn
 ·simp [Sm.one,Sm.lC,Sm.hasName,Sm.gV,hL,xB,Ev hp,hp,ha]
 ·simp [Sm.one,Sm.lC,Sm.hasName,Sm.gV,hL,xB,Ev hp,hp,ha,hn]
theorem MR {id:Int} {name:ay} {x:Ex} (hn:isName name=true) (hx:x.may=true):xZ ⟨id,1,[],name,[],x,false,[],[],[]⟩:=by
 intro L hL
 simp [Sm.one,Sm.lC,Sm.hasName,Sm.gV,hL,hn,hx,Ar.cY]
theorem Qg {id k:Int} (hk:k=2∨k=10) {name:ay} (hn:isName name=true):xZ ⟨id,k,[],name,[],iG,false,[],[],[]⟩:=by
 intro L hL
 rcases hk with rfl | rfl <;> simp [Sm.one,Sm.lC,Sm.hasName,Sm.gV,hL,hn,xB,Ar.cY]
theorem Qh {id:Int} {x:Ex} (hx:x.may=true):xZ ⟨id,3,[],[],[],x,false,[],[],[]⟩:=by
 intro L hL
 simp [Sm.one,Sm.lC,Sm.hasName,Sm.gV,hL,hx,Ar.cY]
theorem A4 {id k:Int} (hk:k=7∨k=8∨k=9):xZ ⟨id,k,[],[],[],iG,false,[],[],[]⟩:=by
 intro L hL
 rcases hk with rfl | rfl | rfl <;> simp [Sm.one,Sm.lC,Sm.hasName,Sm.gV,hL,xB,Ar.cY]
theorem MS {id:Int} {x:Ex} (hx:x.may=true):xZ ⟨id,9,[],[],[],x,true,[],[],[]⟩:=by
 intro L hL
 simp [Sm.one,Sm.lC,Sm.hasName,Sm.gV,hL,hx,Ar.cY]
theorem Qi {id:Int} {x:Ex} {a7 aX:List Sm} (hx:x.may=true):xZ ⟨id,5,[],[],[],x,false,[],a7,aX⟩:=by
 intro L hL
 simp [Sm.one,Sm.lC,Sm.hasName,Sm.gV,hL,hx,Ar.cY]
theorem Qj {id:Int} {x:Ex} {a7:List Sm} (hx:x.may=true):xZ ⟨id,6,[],[],[],x,false,[],a7,[]⟩:=by
 intro L hL
 simp [Sm.one,Sm.lC,Sm.hasName,Sm.gV,hL,hx,Ar.cY]
theorem JG {m:Nat} {name proc:ay} {r:Rd} (hT:mh r.l) (hn:r.good=true→isName proc=true∧(name = []∨isName name=true)):GK r (Rd.call m name proc r) fun s=>xZ s∧s.a7 = []∧s.aX = []:=by
 unfold Rd.call
 refine(gP r _).bind fun q e g=>GK.ask fun b _=>GK.ite (fun _=> ?_) fun _=> ?_
 ·refine(TN _ _ q (e ▸ hT) fun _=>rfl).bind fun a s e2 g2=> ?_
  refine(gP s _).bind fun u e3 g3=>(gP u _).bind fun v e4 g4=>GK.ret fun gv=> ?_
  obtain⟨g5,h5⟩:=g2 (g3 (g4 gv))
  obtain⟨h6,h7⟩:=hn (g g5)
  exact⟨HD h6 h7 h5,rfl,rfl⟩
 ·refine(gP q _).bind fun u e3 g3=>(gP u _).bind fun v e4 g4=>GK.ret fun gv=> ?_
  obtain⟨h6,h7⟩:=hn (g (g3 (g4 gv)))
  exact⟨HD h6 h7 rfl,rfl,rfl⟩
theorem TP {m:Nat} {r:Rd} (hT:mh r.l):GK r (Rd.named m r) fun s=>xZ s∧s.a7 = []∧s.aX = []:=by
 unfold Rd.named
 refine(pI hT _).bind fun a q e g=>GK.ask fun b _=>GK.ite (fun _=> ?_) fun _=> ?_
 ·exact JG (by rw [e];exact hT) fun gq=>⟨(g gq).2.1, .inl rfl⟩
 refine(gP q _).bind fun u e2 g2=>GK.ask fun b _=>GK.ite (fun _=> ?_) fun _=> ?_
 ·refine(pI (by rw [e2,e];exact hT) _).bind fun c s e3 g3=>JG (by rw [e3,e2,e];exact hT) fun gs=> ?_
  obtain⟨g4,h4,_⟩:=g3 gs
  exact⟨h4, .inr (g (g2 g4)).2.1⟩
 ·refine(tS (by rw [e2,e];exact hT)).bind fun c s e3 g3=>(gP s _).bind fun v e4 g4=>GK.ret fun gv=> ?_
  obtain⟨g5,h5⟩:=g3 (g4 gv)
  exact⟨MR (g (g2 g5)).2.1 h5,rfl,rfl⟩
def Ft (s:ay):Bool:=s == [98,114,101,97,107] || s == [99,111,110,116,105,110,117,101] || s == [114,101,116,117,114,110] || s == [103,111,116,111] || s == [114,101,97,100] || s == [112,114,105,110,116]
theorem TQ {m:Nat} {word:ay} (hw:Ft word=true) {r:Rd} (hT:mh r.l):GK r (Rd.plain m word r) fun s=>xZ s∧s.a7 = []∧s.aX = []:=by
 unfold Rd.plain
 refine GK.ite (fun _=>GK.ret fun _=>⟨A4 (.inl rfl),rfl,rfl⟩) fun h1=>GK.ite (fun _=>GK.ret fun _=>⟨A4 (.inr (.inl rfl)),rfl,rfl⟩) fun h2=>GK.ite (fun _=> ?_) fun h3=> ?_
 ·refine GK.ask fun b _=>GK.ite (fun _=> ?_) fun _=>GK.ret fun _=>⟨A4 (.inr (.inr rfl)),rfl,rfl⟩
  exact(tS hT).bind fun a s e g=>GK.ret fun gs=>⟨MS (g gs).2,rfl,rfl⟩
 refine GK.ite (fun _=>(pI hT _).bind fun a s e g=>GK.ret fun gs=>⟨Qg (.inr rfl) (g gs).2.1,rfl,rfl⟩) fun h4=>GK.ite (fun _=>(pI hT _).bind fun a s e g=>GK.ret fun gs=>⟨Qg (.inl rfl) (g gs).2.1,rfl,rfl⟩) fun h5=>GK.ite (fun _=> ?_) fun h6=> ?_
 ·exact(tS hT).bind fun a s e g=>GK.ret fun gs=>⟨Qh (g gs).2,rfl,rfl⟩
 ·exfalso
  simp only [Ft,Bool.or_eq_true]at hw
  rcases hw with ((((hw | hw) | hw) | hw) | hw) | hw
  ·exact h1 hw
  ·exact h2 hw
  ·exact h3 hw
  ·exact h4 hw
  ·exact h5 hw
  ·exact h6 hw
theorem JH {m:Nat} {r:Rd} (hT:mh r.l):GK r (Rd.head m r) fun x=>x.may=true:=by
 unfold Rd.head
 refine(gP r _).bind fun q e g=>(tS (by rw [e];exact hT)).bind fun x s e2 g2=>(gP s _).bind fun u e3 g3=>GK.ret fun gu=>(g2 (g3 gu)).2
mutual
def Sm.tU (d:Int):Sm→Prop
 | ⟨id,kind,labels,name,proc,x,has,args,a7,aX⟩=>(⟨id,kind,labels,name,proc,x,has,args,a7,aX⟩:Sm).one=true∧d≤12∧Sm.pj (d+1) a7∧Sm.pj (d+1) aX
def Sm.pj (d:Int):List Sm→Prop
 | []=>True
 | s::l=>s.tU d∧Sm.pj d l
end
theorem Sm.Qk (d:Int) (s:Sm):s.tU d↔s.one=true∧d≤12∧Sm.pj (d+1) s.a7∧Sm.pj (d+1) s.aX:=by cases s;simp only [Sm.tU]
theorem Sm.HE {d:Int} {s:Sm} (h:s.tU d) : ∀ {l:List Sm},Sm.pj d l→Sm.pj d (l++ [s])
 | [],_=>⟨h,trivial⟩
 | t::l,hl=>⟨hl.1,Sm.HE h hl.2⟩
def xC (d:Int) (s:Sm):Prop:=∀ L,bX L=true→({s with labels:=L} : Sm).tU d
theorem xC.of {d:Int} {s:Sm} (h:xZ s) (hd:d≤12) (h1:Sm.pj (d+1) s.a7) (h2:Sm.pj (d+1) s.aX):xC d s:=fun L hL=>(Sm.Qk _ _).2 ⟨h L hL,hd,h1,h2⟩
theorem TR {m:Nat} : ∀ n:Nat,
 (∀ (nest:Int) (body:Bool) (r:Rd),mh r.l→GK r (Rd.rows m n nest body r) fun p=>Sm.pj nest p.1∧bX p.2=true)∧
 (∀ (nest:Int) (body:Bool) (out:List Sm) (r:Rd),mh r.l→(r.good=true→Sm.pj nest out)→GK r (Rd.fE m n nest body out r) fun p=>Sm.pj nest p.1∧bX p.2=true)∧
 (∀ (nest:Int) (r:Rd),mh r.l→GK r (Rd.stmt m n nest r) fun s=>xC nest s)∧
 (∀ (nest:Int) (r:Rd),mh r.l→GK r (Rd.block m n nest r) fun l=>Sm.pj (nest+1) l)∧
 (∀ (nest:Int) (r:Rd),nest≤12→mh r.l→GK r (Rd.choice m n nest r) fun s=>xC nest s):=by
 intro n
 induction n with
 | zero=>
  refine⟨fun _ _ r _=> ?_,fun _ _ _ r _ _=> ?_,fun _ r _=> ?_,fun _ r _=> ?_,fun _ r _ _=> ?_⟩
  ·simp only [Rd.rows];exact GK.kE
  ·simp only [Rd.fE];exact GK.kE
  ·simp only [Rd.stmt];exact GK.kE
  ·simp only [Rd.block];exact GK.kE
  ·simp only [Rd.choice];exact GK.kE
 | succ n ih=>
  obtain⟨i1,i2,i3,i4,i5⟩:=ih
  refine⟨fun nest body r hT=> ?_,fun nest body out r hT ho=> ?_,fun nest r hT=> ?_,fun nest r hT=> ?_,fun nest r wy hT=> ?_⟩
  ·simp only [Rd.rows]
   exact i2 _ _ _ _ hT fun _=>trivial
  ·simp only [Rd.fE]
   refine GK.ite (fun _=> ?_) fun hg=>GK.ret fun g=>absurd g hg
   refine(Qf m [] r hT rfl).bind fun ls q e g=>GK.ask fun b _=>GK.ite (fun _=>GK.on _ fun gq=>⟨ho (g gq).1,(g gq).2⟩) fun _=> ?_
   refine(i3 nest q (by rw [e];exact hT)).bind fun s u e2 g2=>GK.ask fun o2 h2=>i2 _ _ _ u (by rw [e2,e];exact hT) fun gu=> ?_
   obtain⟨g3,h3⟩:=g2 gu
   obtain⟨g4,h4⟩:=g g3
   rw [(fG h2).2]
   exact Sm.HE (h3 _ h4) (ho g4)
  ·simp only [Rd.stmt]
   refine GK.ask fun b hb=>GK.ite (fun _=>tR (by decide) _ _) fun xY=>GK.ask fun k hk=> ?_
   refine GK.from (s:= {r with n:=k}) ?_ rfl rfl
   refine GK.ite (fun _=>tR (by decide) _ _) fun hl=> ?_
   have wy:nest≤12:=by
    simp only [Bool.or_eq_true,decide_eq_true_eq,not_or]at hl;omega
   refine GK.ask fun t ht=>GK.ite (fun _=>(TP (r:= {r with n:=k}) hT).mono fun s hs=>xC.of hs.1 wy (by rw [hs.2.1];trivial) (by rw [hs.2.2];trivial)) fun k6=> ?_
   refine GK.from (s:= {r with n:=k,i:=r.i+1}) ?_ rfl rfl
   refine GK.ite (fun _=>i5 _ _ wy hT) fun hif=>GK.ite (fun _=> ?_) fun hwh=> ?_
   ·refine GK.bind (JH (r:= {r with n:=k,i:=r.i+1}) hT) fun x s e g=> ?_
    refine GK.bind (i4 nest s (by rw [e];exact hT)) fun bl u e2 g2=>GK.ret fun gu=> ?_
    obtain⟨g3,h3⟩:=g2 gu
    exact xC.of (Qj (g g3).2) wy h3 trivial
   ·have hw:Ft t.text=true:=by
     have nw:r.gi=some t:=ht
     unfold Rd.nT at hb
     rw [nw,Option.bind_some]at hb
     have e1:(t.kind==1)=false:=by simpa using k6
     have e2:(t.text == [105,102])=false:=by simpa using hif
     have e3:(t.text == [119,104,105,108,101])=false:=by simpa using hwh
     have amg:b=true:=by simpa using xY
     rw [amg]at hb
     simp only [e1,e2,e3,Bool.false_eq_true, ↓reduceIte,Bool.false_or,Option.some.injEq]at hb
     split at hb
     ·cases hb
     ·simpa only [Ft]using hb
    refine GK.bind (TQ (r:= {r with n:=k,i:=r.i+1}) hw hT) fun s q e g=> ?_
    refine VP.bind (gP q _) fun u e2 g2=>GK.ret fun gu=> ?_
    obtain⟨g3,h3,h4,h5⟩:=g (g2 gu)
    exact xC.of h3 wy (by rw [h4];trivial) (by rw [h5];trivial)
  ·simp only [Rd.block]
   refine(gP r _).bind fun q e g=>GK.ask fun k hk=> ?_
   have hk:=(DV hk).2
   subst hk
   exact(i1 _ false q (by rw [e];exact hT)).bind fun p u e2 g2=>GK.ret fun gu=>(g2 gu).2.1
  ·simp only [Rd.choice]
   refine(JH hT).bind fun x q e g=>(i4 nest q (by rw [e];exact hT)).bind fun th s e2 g2=>(kn s _).bind fun c u e3 g3=>GK.ite (fun _=> ?_) fun _=>GK.ret fun gu=> ?_
   ·refine(i4 nest u (by rw [e3,e2,e];exact hT)).bind fun el v e4 g4=>GK.ret fun gv=> ?_
    obtain⟨g5,h5⟩:=g4 gv
    obtain⟨g6,h6⟩:=g2 (g3 g5).1
    exact xC.of (Qi (g g6).2) wy h6 h5
   ·obtain⟨g6,h6⟩:=g2 (g3 gu).1
    exact xC.of (Qi (g g6).2) wy h6 trivial
theorem Ew {a:Pm} (h:isName a.name=true) : ∀ {l:List Pm},Pm.cY l=true→Pm.cY (l++ [a])=true
 | [],_=>by simp [Pm.cY,h]
 | s::l,hl=>by
  simp only [Pm.cY,List.cons_append]at hl ⊢
  split at hl
  ·cases hl
  ·rename_i hs
   rw [if_neg hs]
   exact Ew h hl
theorem Ql : ∀ (n:Nat) (l:List Pm) (r:Rd),mh r.l→(r.good=true→Pm.cY l=true∧l.length≤8)→GK r (Rd.params n l r) fun l=>Pm.cY l=true∧l.length≤8:=by
 intro n
 induction n with
 | zero=>intro l r _ _;simp only [Rd.params];exact GK.kE
 | succ n ih=>
  intro l r hT h
  simp only [Rd.params]
  refine GK.ite (fun _=>(kn r _).bind fun b q e g=>(pI (by rw [e];exact hT) _).bind fun s q2 e2 g2=>GK.ask fun l2 gQ=>(kn q2 _).bind fun c q3 e3 g3=> ?_) fun _=>GK.ret h
  have h3:q3.good=true→Pm.cY l2=true∧l2.length≤8:=fun gg=>by
   rw [(fG gQ).2]
   obtain⟨g4,h5,h6⟩:=g2 (g3 gg).1
   simp only [decide_eq_true_eq]at h6
   exact⟨Ew h5 (h (g g4).1).1,by simp;omega⟩
  exact GK.ite (fun _=>GK.ret h3) fun _=>ih _ _ (by rw [e3,e2,e];exact hT) h3
theorem XD {m:Nat} : ∀ (n:Nat) (l:List ay) (r:Rd),mh r.l→(r.good=true→bX l=true∧(l.length:Int)≤16)→GK r (Rd.vars m n l r) fun l=>bX l=true∧(l.length:Int)≤16:=by
 intro n
 induction n with
 | zero=>intro l r _ _;simp only [Rd.vars];exact GK.kE
 | succ n ih=>
  intro l r hT h
  simp only [Rd.vars]
  refine(kn r _).bind fun b q e g=>GK.ite (fun _=> ?_) fun _=>GK.ret fun gq=>h (g gq).1
  exact(HC _ _ _ (by rw [e];exact hT) fun gq=>h (g gq).1).bind fun l2 q2 e2 g2=>ih _ _ (by rw [e2,e];exact hT) fun gg=>(g2 gg).2
theorem MT {m:Nat} : ∀ (n:Nat) (l:List ay) (r:Rd),mh r.l→(r.good=true→bX l=true∧(l.length:Int)≤16)→GK r (Rd.globals m n l r) fun l=>bX l=true∧(l.length:Int)≤16:=by
 intro n
 induction n with
 | zero=>intro l r _ _;simp only [Rd.globals];exact GK.kE
 | succ n ih=>
  intro l r hT h
  simp only [Rd.globals]
  refine(kn r _).bind fun b q e g=>GK.ite (fun _=> ?_) fun _=>GK.ret fun gq=>h (g gq).1
  exact(HC _ _ _ (by rw [e];exact hT) fun gq=>h (g gq).1).bind fun l2 q2 e2 g2=>ih _ _ (by rw [e2,e];exact hT) fun gg=>(g2 gg).2
structure Pc.tU (f:Pc):Prop where
 name:isName f.name=true
 params:Pm.cY f.params=true∧f.params.length≤8
 vars:bX f.vars=true∧(f.vars.length:Int)≤16
 fin:bX f.fin=true
 body:Sm.pj 1 f.body
theorem HF {m:Nat} {name:ay} {ps:List Pm} {r:Rd} (hT:mh r.l) (h:r.good=true→isName name=true∧Pm.cY ps=true∧ps.length≤8):GK r (Rd.lQ m name ps r) Pc.tU:=by
 unfold Rd.lQ
 refine(XD m [] r hT fun _=>⟨rfl,by simp⟩).bind fun v q e g=>((TR m).1 1 true q (by rw [e];exact hT)).bind fun b s e2 g2=>GK.ret fun gs=> ?_
 obtain⟨g3,h3,h4⟩:=g2 gs
 obtain⟨g5,h5⟩:=g g3
 obtain⟨h6,h7⟩:=h g5
 exact⟨h6,h7,h5,h4,h3⟩
theorem XE {m:Nat} {r:Rd} (hT:mh r.l):GK r (Rd.proc m r) Pc.tU:=by
 unfold Rd.proc
 refine(pI hT _).bind fun x q e g=>(gP q _).bind fun u e2 g2=>GK.ask fun b _=>GK.ite (fun _=> ?_) fun _=> ?_
 ·refine(Ql _ _ u (by rw [e2,e];exact hT) fun _=>⟨rfl,by simp⟩).bind fun ps s e3 g3=>(gP s _).bind fun v e4 g4=>(gP v _).bind fun w e5 g5=>HF (by rw [e5,e4,e3,e2,e];exact hT) fun gw=> ?_
  obtain⟨g6,h6⟩:=g3 (g4 (g5 gw))
  exact⟨(g (g2 g6)).2.1,h6⟩
 ·refine(gP u _).bind fun v e4 g4=>(gP v _).bind fun w e5 g5=>HF (by rw [e5,e4,e2,e];exact hT) fun gw=> ?_
  exact⟨(g (g2 (g4 (g5 gw)))).2.1,rfl,by simp⟩
theorem TS {m:Nat} : ∀ (n:Nat) (l:List Pc) (r:Rd),mh r.l→(r.good=true→(∀ f∈l,Pc.tU f)∧l.length≤16)→GK r (Rd.procs m n l r) fun l=>(∀ f∈l,Pc.tU f)∧l.length≤16:=by
 intro n
 induction n with
 | zero=>intro l r _ _;simp only [Rd.procs];exact GK.kE
 | succ n ih=>
  intro l r hT h
  simp only [Rd.procs]
  refine GK.ask fun b _=>GK.ite (fun _=>GK.ite (fun _=>tR (by decide) _ _) fun h16=> ?_) fun _=>GK.ask fun b _=>GK.ite (fun _=>tR (by decide) _ _) fun _=>GK.ret h
  refine GK.from (s:= {r with i:=r.i+1}) ?_ rfl rfl
  refine GK.bind (f:=fun x=>(push 113 l x.1).bind fun l=>Rd.procs m n l x.2) (XE hT) fun f q e g=>GK.ask fun l2 gQ=>ih _ _ (by rw [e];exact hT) fun gq=> ?_
  obtain⟨g2,h2⟩:=g gq
  obtain⟨h3,h4⟩:=h g2
  rw [(fG gQ).2]
  refine⟨fun x hx=> ?_, ?_⟩
  ·rcases List.mem_append.1 hx with hx | hx
   ·exact h3 x hx
   ·simp at hx;subst hx;exact h2
  ·have:l.length≠16:=by intro e;simp [e]at h16
   simp;omega
theorem MU {m:Nat} {r:Rd} (hT:mh r.l):GK r (Rd.program m r) fun p=>bX p.globals=true∧(p.globals.length:Int)≤16∧(∀ f∈p.procs,Pc.tU f)∧p.procs.length≤16:=by
 unfold Rd.program
 refine(MT m [] r hT fun _=>⟨rfl,by simp⟩).bind fun gl q e g=>(TS m [] q (by rw [e];exact hT) fun _=>⟨by simp,by simp⟩).bind fun ps s e2 g2=>GK.ret fun gs=> ?_
 obtain⟨g3,h3⟩:=g2 gs
 exact⟨(g g3).2.1,(g g3).2.2,h3⟩
end Go.Abs

/-! MayLaw3 -/

namespace Go.Abs
mutual
theorem Sm.JI (b:Bool) (n:Nat) : ∀ s:Sm,(Sm.num b n s).2=n+s.fI
 | ⟨_,_,_,_,_,_,_,_,a7,aX⟩=>by
  simp only [Sm.num,Sm.fI]
  rw [Sm.po b _ aX,Sm.po b _ a7];omega
theorem Sm.po (b:Bool) (n:Nat) : ∀ l:List Sm,(Sm.cR b n l).2=n+Sm.dB l
 | []=>rfl
 | s::l=>by
  simp only [Sm.cR,Sm.dB]
  rw [Sm.po b _ l,Sm.JI b _ s];omega
end
theorem Sm.one_num (b:Bool) (n:Nat) (s:Sm):((Sm.num b n s).1).one=s.one:=by
 obtain⟨id,kind,labels,name,proc,x,has,args,a7,aX⟩:=s
 simp only [Sm.num,Sm.one,Sm.lC,Sm.hasName,Sm.gV,Sm.Gp]
 rfl
def qs (n:Nat) (oU:List It):Prop:=∀ (j:Nat) (it:It),oU[j]? = some it→it.s.id=((n+j+1:Nat):Int)∧it.deep≤12∧it.s.one=true
theorem qs.app {n k:Nat} {a b:List It} (ha:qs n a) (hk:a.length=k) (hb:qs (n+k) b):qs n (a++b):=by
 intro j it h
 rcases Nat.lt_or_ge j a.length with hj | hj
 ·rw [List.getElem?_append_left hj]at h
  exact ha j it h
 ·rw [List.getElem?_append_right hj]at h
  obtain⟨h1,h2⟩:=hb _ it h
  refine⟨?_,h2⟩
  rw [h1];congr 1;omega
theorem qs.nil (n:Nat):qs n []:=fun j it h=>by simp at h
mutual
theorem Qm : ∀ (s:Sm) (n:Nat) (deep b5:Int) (aX:Bool) (out:List It),s.tU deep→out.length+s.fI≤200→∃ oU,iA deep b5 aX out (Sm.num true n s).1=out++oU∧oU.length=s.fI∧qs n oU
 | ⟨id,kind,labels,name,proc,x,has,args,a7,e⟩,n,deep,b5,aX,out,h,hc=>by
  have h0:=(Sm.Qk _ _).1 h
  obtain⟨h1,h2,h3,h4⟩:=h0
  dsimp only at h3 h4
  have jO:=Sm.one_num true n ⟨id,kind,labels,name,proc,x,has,args,a7,e⟩
  simp only [Sm.num, ↓reduceIte,iA]at jO ⊢
  rw [h1]at jO
  simp only [Sm.fI]at hc
  have hd:decide (deep≤12)=true:=by simp;omega
  simp only [hd, ↓reduceIte]
  obtain⟨i1,e1,l1,p1⟩:=u7 a7 (n+1) (deep+1) ((n+1:Nat):Int) false (out++ [⟨⟨((n+1:Nat):Int),kind,labels,name,proc,x,has,args,(Sm.cR true (n+1) a7).1,(Sm.cR true (Sm.cR true (n+1) a7).2 e).1⟩,deep,b5,aX⟩]) h3 (by simp;omega)
  rw [e1,Sm.po]
  obtain⟨i2,e2,l2,p2⟩:=u7 e (n+1+Sm.dB a7) (deep+1) ((n+1:Nat):Int) true (out++ [⟨⟨((n+1:Nat):Int),kind,labels,name,proc,x,has,args,(Sm.cR true (n+1) a7).1,(Sm.cR true (n+1+Sm.dB a7) e).1⟩,deep,b5,aX⟩]++i1) h4 (by simp;omega)
  rw [e2]
  rw [Sm.po]at jO
  refine⟨_,by rw [List.append_assoc,List.append_assoc], ?_, ?_⟩
  ·simp only [List.length_append,List.length_cons,List.length_nil,Sm.fI];omega
  ·refine qs.app (k:=1) ?_ rfl (qs.app p1 l1 p2)
   intro j it hj
   cases j with
   | zero=>simp at hj;subst hj;exact⟨rfl,h2,jO⟩
   | succ j=>simp at hj
theorem u7 : ∀ (l:List Sm) (n:Nat) (deep b5:Int) (aX:Bool) (out:List It),Sm.pj deep l→out.length+Sm.dB l≤200→∃ oU,eQ deep b5 aX out (Sm.cR true n l).1=out++oU∧oU.length=Sm.dB l∧qs n oU
 | [],n,deep,b5,aX,out,h,hc=>⟨[],by simp only [Sm.cR,eQ,List.append_nil],rfl,qs.nil n⟩
 | s::l,n,deep,b5,aX,out,h,hc=>by
  simp only [Sm.dB]at hc
  have hle:decide ((out.length:Int)≤200)=true:=by simp only [decide_eq_true_eq];omega
  simp only [Sm.cR,eQ,hle, ↓reduceIte]
  obtain⟨i1,e1,l1,p1⟩:=Qm s n deep b5 aX out h.1 (by omega)
  rw [e1,Sm.JI]
  obtain⟨i2,e2,l2,p2⟩:=u7 l (n+s.fI) deep b5 aX (out++i1) h.2 (by simp;omega)
  rw [e2]
  exact⟨i1++i2,by rw [List.append_assoc],by simp only [List.length_append,Sm.dB];omega,qs.app p1 l1 p2⟩
end
def Pc.u9:List Pc→Nat
 | []=>0
 | f::l=>Sm.dB f.body+Pc.u9 l
theorem HG : ∀ (l:List Pc) (n:Nat) (out:List It),(∀ f∈l,f.tU)→out.length+Pc.u9 l≤200→∃ oU,allM out (Pc.cR n l)=out++oU∧oU.length=Pc.u9 l∧qs n oU
 | [],n,out,_,_=>⟨[],by simp only [Pc.cR,allM,List.append_nil],rfl,qs.nil n⟩
 | f::l,n,out,h,hc=>by
  simp only [Pc.u9]at hc
  obtain⟨i1,e1,l1,p1⟩:=u7 f.body n 1 0 false [] (h f (List.mem_cons_self ..)).body (by simp;omega)
  have ef:Pc.flat {f with body:=(Sm.cR true n f.body).1} = i1:=by simp only [Pc.flat];rw [e1];rfl
  have hle:decide (((out++i1).length:Int) > 200)=false:=by simp only [List.length_append,decide_eq_false_iff_not];omega
  simp only [Pc.cR,allM,ef,hle,Bool.false_eq_true, ↓reduceIte]
  rw [Sm.po]
  obtain⟨i2,e2,l2,p2⟩:=HG l (n+Sm.dB f.body) (out++i1) (fun g hg=>h g (List.mem_cons_of_mem _ hg)) (by simp;omega)
  rw [e2]
  exact⟨i1++i2,by rw [List.append_assoc],by simp only [List.length_append,Pc.u9];omega,qs.app p1 l1 p2⟩
theorem qs.cY : ∀ (l:List It) (n:Nat),qs n l→It.cY n l=true
 | [],_,_=>rfl
 | i::l,n,h=>by
  obtain⟨h1,h2,h3⟩:=h 0 i rfl
  have e1:(i.s.id != ((n+1:Nat):Int))=false:=by rw [h1];simp
  have e2:decide (i.deep > 12)=false:=by simp;omega
  simp only [It.cY,e1,e2,h3,Bool.not_true,Bool.or_self,Bool.false_eq_true, ↓reduceIte]
  refine qs.cY l (n+1) fun j it hj=> ?_
  have:=h (j+1) it (by simpa using hj)
  refine⟨?_,this.2⟩
  rw [this.1];congr 1;omega
theorem Ey : ∀ (l:List Pc) (n:Nat),(∀ f∈l,f.tU)→Pc.mL (Pc.cR n l)=true
 | [],_,_=>rfl
 | f::l,n,h=>by
  have k:=h f (List.mem_cons_self ..)
  have e1:decide ((f.params.length:Int) > 8)=false:=by have:=k.params.2;simp only [decide_eq_false_iff_not];omega
  have e2:decide ((f.vars.length:Int) > 16)=false:=by have:=k.vars.2;simp only [decide_eq_false_iff_not];omega
  simp only [Pc.cR,Pc.mL,k.name,e1,e2,k.vars.1,k.fin,k.params.1,Bool.not_true,Bool.or_self,Bool.false_eq_true, ↓reduceIte]
  exact Ey l _ fun g hg=>h g (List.mem_cons_of_mem _ hg)
theorem Pc.JJ : ∀ (l:List Pc) (n:Nat),(Pc.cR n l).length=l.length
 | [],_=>rfl
 | g::l,n=>by simp only [Pc.cR,List.length_cons,Pc.JJ l]
theorem MV {p:Pg} (h1:bX p.globals=true) (h2:(p.globals.length:Int)≤16) (h3 : ∀ f∈p.procs,f.tU) (h4:p.procs.length≤16) (h5:Pc.u9 p.procs≤200):p.number.may=true∧p.number.all.length=Pc.u9 p.procs:=by
 obtain⟨oU,e,hl,hi⟩:=HG p.procs 0 [] h3 (by simpa using h5)
 have ea:p.number.all=oU:=by simp only [Pg.all,Pg.number];rw [e];rfl
 have e1:decide ((p.globals.length:Int) > 16)=false:=by simp only [decide_eq_false_iff_not];omega
 have e2:decide (((Pc.cR 0 p.procs).length:Int) > 16)=false:=by rw [Pc.JJ];simp only [decide_eq_false_iff_not];omega
 have e3:decide ((oU.length:Int) > 200)=false:=by simp only [decide_eq_false_iff_not];omega
 refine⟨?_,by rw [ea,hl]⟩
 have e0:p.number.may=(if decide ((p.globals.length:Int) > 16) || decide (((Pc.cR 0 p.procs).length:Int) > 16) || !(bX p.globals)then false
  else if !(Pc.mL (Pc.cR 0 p.procs))then false else if decide ((p.number.all.length:Int) > 200)then false else It.cY 0 p.number.all):=rfl
 rw [e0,ea]
 simp only [e1,e2,h1,Ey _ 0 h3,e3,Bool.not_true,Bool.or_self,Bool.false_eq_true, ↓reduceIte]
 exact qs.cY oU 0 hi
theorem XF {m:Nat} : ∀ (n:Nat) (l:List Pc) (r0 r:Rd),(r.good=true→r.n=Pc.u9 l∧r.n≤200)→∀ p,Rd.procs m n l r=some p→p.2.good=true→p.2.n=Pc.u9 p.1∧p.2.n≤200:=by
 have XG : ∀ (l:List Pc) (f:Pc),Pc.u9 (l++ [f])=Pc.u9 l+Sm.dB f.body:=by
  intro l f
  induction l with
  | nil=>simp [Pc.u9]
  | cons g l ih=>simp only [List.cons_append,Pc.u9,ih];omega
 intro n
 induction n with
 | zero=>intro l r0 r _ p h;simp only [Rd.procs]at h;cases h
 | succ n ih=>
  intro l r0 r h0 p h hg
  simp only [Rd.procs]at h
  rw [Option.bind_eq_some_iff]at h
  obtain⟨b,h1,h⟩:=h
  split at h
  ·split at h
   ·rw [Option.bind_eq_some_iff]at h
    obtain⟨q,h2,h⟩:=h
    have:=(Fs (by decide) q h2).2
    cases h
    rw [this]at hg;cases hg
   ·rw [Option.bind_eq_some_iff]at h
    obtain⟨x,h2,h⟩:=h
    rw [Option.bind_eq_some_iff]at h
    obtain⟨l2,h3,h⟩:=h
    refine ih l2 r0 x.2 (fun gx=> ?_) p h hg
    have gQ:=(fG h3).2
    -- what the procedure counted
    have key : ∀ (r:Rd) (x:Pc×Rd),Rd.proc m r=some x→lK r (Sm.cR true r.n x.1.body).2 x.2:=by
     intro r x hx
     unfold Rd.proc at hx
     have pb : ∀ {name:ay} {ps:List Pm} {s:Rd},ey r s→Pt (Rd.lQ m name ps s) fun p=>lK r (Sm.cR true r.n p.1.body).2 p.2:=by
      intro name ps s hs
      unfold Rd.lQ
      have vk : ∀ (n:Nat) (l:List ay) (s:Rd),ey r s→Pt (Rd.vars m n l s) (fun p=>ey r p.2):=by
       intro n
       induction n with
       | zero=>intro l s _;simp only [Rd.vars];exact Pt.none
       | succ n ih=>
        intro l s h
        simp only [Rd.vars]
        exact(mg h _).bind fun q hq=>Pt.ite (fun _=>(JE _ _ _ hq).bind fun x hx=>ih _ _ hx) fun _=>Pt.some hq
      refine(vk m [] s hs).bind fun v hv=>((Xy m).1 _ _ _).bind fun b hb=>Pt.some ?_
      dsimp only
      rw [← hv.n]
      exact((lK.refl r).keep hv).trans hb
     have pk : ∀ (n:Nat) (l:List Pm) (s:Rd),ey r s→Pt (Rd.params n l s) (fun p=>ey r p.2):=by
      intro n
      induction n with
      | zero=>intro l s _;simp only [Rd.params];exact Pt.none
      | succ n ih=>
       intro l s h
       simp only [Rd.params]
       exact Pt.ite (fun _=>(mg h _).bind fun q hq=>(rU hq _).bind fun x hx=>Pt.any fun l=>(mg hx _).bind fun c hc=>Pt.ite (fun _=>Pt.some hc) fun _=>ih _ _ hc) fun _=>Pt.some h
     refine((rU (ey.refl r) true).bind (R:=fun p:Pc×Rd=>lK r (Sm.cR true r.n p.1.body).2 p.2) fun x hx=>(iQ hx _).bind fun r1 h1=>Pt.any fun b=>Pt.ite (fun _=> ?_) fun _=> ?_) x hx
     ·exact(pk _ _ _ h1).bind fun q hq=>(iQ hq _).bind fun r hr=>(iQ hr _).bind fun r hr=>pb hr
     ·exact(iQ h1 _).bind fun r hr=>(iQ hr _).bind fun r hr=>pb hr
    have hn:=key _ _ h2
    obtain⟨e1,e2⟩:=h0 (hn.g gx)
    have e3:=hn.n gx
    rw [Sm.po]at e3
    dsimp only at e3
    rw [gQ,XG]
    exact⟨by omega,hn.le gx e2⟩
  ·rw [Option.bind_eq_some_iff]at h
   obtain⟨b2,h2,h⟩:=h
   split at h
   ·rw [Option.bind_eq_some_iff]at h
    obtain⟨q,h3,h⟩:=h
    have:=(Fs (by decide) q h3).2
    cases h
    rw [this]at hg;cases hg
   ·cases h
    exact h0 hg
theorem Qn {m:Nat} {r:Rd} (h0:r.n=0) {p:Pg×Rd} (h:Rd.program m r=some p) (hg:p.2.good=true):p.2.n=Pc.u9 p.1.procs∧p.2.n≤200:=by
 unfold Rd.program at h
 rw [Option.bind_eq_some_iff]at h
 obtain⟨g,h1,h⟩:=h
 rw [Option.bind_eq_some_iff]at h
 obtain⟨q,h2,h⟩:=h
 cases h
 have gk : ∀ (n:Nat) (l:List ay) (s:Rd),ey r s→Pt (Rd.globals m n l s) (fun p=>ey r p.2):=by
  intro n
  induction n with
  | zero=>intro l s _;simp only [Rd.globals];exact Pt.none
  | succ n ih=>
   intro l s h
   simp only [Rd.globals]
   exact(mg h _).bind fun q hq=>Pt.ite (fun _=>(JE _ _ _ hq).bind fun x hx=>ih _ _ hx) fun _=>Pt.some hq
 have kg:=gk m [] r (ey.refl r) _ h1
 exact XF m [] r g.2 (fun _=>by rw [kg.n,h0];exact⟨rfl,by omega⟩) q h2 hg
theorem IK {m:Nat} {l:List bA} (hT:mh l) {P:Pg×Rd} (h:Rd.program m (tN l)=some P) (hg:P.2.good=true):P.1.number.may=true∧P.1.number.all.length=P.2.n∧P.2.n≤200:=by
 obtain⟨_,g⟩:=MU (r:=tN l) hT P h
 obtain⟨_,h1,h2,h3,h4⟩:=g hg
 obtain⟨e,h5⟩:=Qn (r:=tN l) rfl h hg
 obtain⟨h6,h7⟩:=MV h1 h2 h3 h4 (by omega)
 exact⟨h6,by rw [h7,e],h5⟩
end Go.Abs

/-! Lx -/

namespace Go.Abs
def isR (c:UInt8):Bool:=(c.toNat:Int)==35
inductive Lx:Nat→ay→List bA→Prop where
 | nil (pos:Nat):Lx pos [] []
 | blank (pos:Nat) (c:UInt8) (r:ay) (l:List bA) (h:sw c=true) (k:Lx (pos+1) r l):Lx pos (c::r) l
 | rem (pos:Nat) (c:UInt8) (r:ay) (l:List bA) (h:sw c=false) (h2:isR c=true) (k:Lx (pos+ij (c::r)) ((c::r).drop (ij (c::r))) l):Lx pos (c::r) l
 | tok (pos:Nat) (c:UInt8) (r:ay) (t:bA) (l:List bA) (h:sw c=false) (h2:isR c=false) (ht:kA pos (c::r) = .inl t) (k:Lx (pos+t.text.length) ((c::r).drop t.text.length) l):Lx pos (c::r) (t::l)
theorem HH : ∀ s:ay,ij s≤s.length
 | []=>Nat.le_refl _
 | c::r=>by simp only [ij,List.length_cons];split;have:=HH r;omega;omega
theorem TT : ∀ s:ay,nE s≤s.length
 | []=>Nat.le_refl _
 | [c]=>by simp only [nE];split <;> simp
 | c::d::r=>by simp only [nE,List.length_cons];split;omega;split;omega;omega
theorem zg {pos:Nat} {s:ay} {t:bA} (h:kA pos s = .inl t):t.pos=pos∧0<t.text.length∧∃ rest,s=t.text++rest:=by
 cases s with
 | nil=>simp only [kA]at h;cases h
 | cons c r=>
  simp only [kA]at h
  cases hL:mq c
  ·simp only [hL,Bool.false_eq_true, ↓reduceIte]at h
   cases hD:j9 c
   ·simp only [hD,Bool.false_eq_true, ↓reduceIte]at h
    split at h
    ·cases h
    ·cases h
     have:=TT (c::r)
     exact⟨rfl,by simp only [List.length_take];simp only [List.length_cons]at this ⊢;omega,(c::r).drop (nE (c::r)),by simp⟩
   ·have k0:0<lB (c::r):=by simp [lB,hD]
    simp only [hD, ↓reduceIte]at h
    split at h
    ·cases h
    ·split at h
     ·cases h
      exact⟨rfl,by simp only [List.length_take,List.length_cons];omega,(c::r).drop (lB (c::r)),by simp⟩
     ·cases h
  ·have k0:0<gm (c::r):=by simp [gm,hL]
   simp only [hL, ↓reduceIte]at h
   split at h
   ·cases h
   ·cases h
    exact⟨rfl,by simp only [List.length_take,List.length_cons];omega,(c::r).drop (gm (c::r)),by simp⟩
theorem XI {pos:Nat} {s:ay} {e:Int} (h:kA pos s = .inr e):e=2∨e=4:=by
 cases s with
 | nil=>simp only [kA]at h;cases h;exact .inl rfl
 | cons c r=>
  simp only [kA]at h
  repeat' split at h
  all_goals first | (cases h;simp;done) | cases h
theorem XJ {pos:Nat} {s:ay} {t:bA} (h:kA pos s = .inl t):t.text.length≤s.length:=by
 obtain⟨_,_,rest,e⟩:=zg h
 rw [e];simp
theorem XK {pos:Nat} {s:ay} {l:List bA} (h:Lx pos s l) : ∀ (n:Nat) (out:List bA),s.length<n→out.length+l.length≤2000→il n pos s out=(out++l++ [⟨0,[],0,(pos+s.length:Nat)⟩],0,0):=by
 induction h with
 | nil pos=>
  intro n out hn ho
  cases n with
  | zero=>omega
  | succ n=>simp [il]
 | blank pos c r l h k ih=>
  intro n out hn ho
  cases n with
  | zero=>omega
  | succ n=>
   simp only [List.length_cons]at hn
   simp only [il,h, ↓reduceIte]
   rw [ih n out (by omega) ho]
   simp only [List.length_cons]
   have:pos+1+r.length=pos+(r.length+1):=by omega
   rw [this]
 | rem pos c r l h h2 k ih=>
  intro n out hn ho
  cases n with
  | zero=>omega
  | succ n=>
   have h3:((c.toNat:Int)==35)=true:=h2
   simp only [il,h,h3,Bool.false_eq_true, ↓reduceIte]
   have hp:0<ij (c::r):=by
    have:((c.toNat:Int) != 10)=true:=by simp only [beq_iff_eq]at h3;simp [h3]
    simp [ij,this]
   have hle:=HH (c::r)
   rw [ih n out (by rw [List.length_drop];omega) ho]
   have:pos+ij (c::r)+((c::r).drop (ij (c::r))).length=pos+(c::r).length:=by rw [List.length_drop];omega
   rw [this]
 | tok pos c r t l h h2 ht k ih=>
  intro n out hn ho
  cases n with
  | zero=>omega
  | succ n=>
   have h3:((c.toNat:Int)==35)=false:=h2
   simp only [List.length_cons]at ho
   have fi : ¬ out.length=2000:=by omega
   simp only [il,h,h3,Bool.false_eq_true, ↓reduceIte,ht,if_neg fi]
   obtain⟨_,hp,_⟩:=zg ht
   have hle:=XJ ht
   rw [ih n _ (by rw [List.length_drop];omega) (by simp;omega)]
   have:pos+t.text.length+((c::r).drop t.text.length).length=pos+(c::r).length:=by rw [List.length_drop];omega
   rw [this]
   simp
theorem ad3 : ∀ (n pos:Nat) (s:ay) (out:List bA),s.length<n→(il n pos s out).2.1=0→out.length≤2000→∃ l,Lx pos s l∧out.length+l.length≤2000:=by
 intro n
 induction n with
 | zero=>intro pos s out hn;omega
 | succ n ih=>
  intro pos s out hn h ho
  cases s with
  | nil=>exact⟨[], .nil _,by simpa using ho⟩
  | cons c r=>
   simp only [List.length_cons]at hn
   simp only [il]at h
   cases hb:sw c
   ·simp only [hb,Bool.false_eq_true, ↓reduceIte]at h
    cases h3:((c.toNat:Int)==35)
    ·simp only [h3,Bool.false_eq_true, ↓reduceIte]at h
     cases ht:kA pos (c::r)with
     | inr e=>simp only [ht]at h;have:=XI ht;omega
     | inl t=>
      simp only [ht]at h
      split at h
      ·cases h
      ·rename_i h2
       obtain⟨_,hp,_⟩:=zg ht
       obtain⟨l,hl,hlen⟩:=ih _ _ _ (by rw [List.length_drop,List.length_cons];omega) h (by simp;omega)
       refine⟨t::l, .tok _ _ _ _ _ hb h3 ht hl, ?_⟩
       simp only [List.length_append,List.length_cons,List.length_nil]at hlen ⊢
       omega
    ·simp only [h3, ↓reduceIte]at h
     have hp:0<ij (c::r):=by
      have:((c.toNat:Int) != 10)=true:=by simp only [beq_iff_eq]at h3;simp [h3]
      simp [ij,this]
     obtain⟨l,hl,hlen⟩:=ih _ _ _ (by rw [List.length_drop,List.length_cons];omega) h ho
     exact⟨l, .rem _ _ _ _ hb h3 hl,hlen⟩
   ·simp only [hb, ↓reduceIte]at h
    obtain⟨l,hl,hlen⟩:=ih _ _ _ (by omega) h ho
    exact⟨l, .blank _ _ _ _ hb hl,hlen⟩
def HI (n:Nat):bA:=⟨0,[],0,(n:Nat)⟩
theorem Qo {s:ay} {l:List bA} (h:Lx 0 s l) (hs:s.length≤100000) (hl:l.length≤2000):fV s=(l++ [HI s.length],0,0):=by
 unfold fV
 rw [if_neg (by omega),XK h _ _ (Nat.lt_succ_self _) (by simpa using hl)]
 simp [HI]
theorem Qp {s:ay} (h:(fV s).2.1=0) : ∃ l,Lx 0 s l∧s.length≤100000∧l.length≤2000∧fV s=(l++ [HI s.length],0,0):=by
 unfold fV at h
 split at h
 ·cases h
 ·rename_i hs
  obtain⟨l,hl,hlen⟩:=ad3 _ _ _ _ (Nat.lt_succ_self _) h (Nat.zero_le _)
  have hlen:l.length≤2000:=by simpa using hlen
  exact⟨l,hl,by omega,hlen,Qo hl (by omega) hlen⟩
end Go.Abs

/-! Lx2 -/

namespace Go.Abs
def ad4 (c:UInt8):Bool:= !(mq c) && !(j9 c) && !(c==61) && !(c==38) && !(c==124)
def Stop:ay→Prop
 | []=>True
 | c::_=>ad4 c=true
def atX (t:bA):Prop:=0<t.text.length∧∀ (p:Nat) (b:ay),Stop b→kA p (t.text++b) = .inl {t with pos:=(p:Nat)}
end Go.Abs

/-! Sim -/

namespace Go.Abs
structure Al (t t':bA):Prop where
 k:t'.kind=t.kind
 x:t'.text=t.text
 n:t'.n=t.n
def Quiet (t:bA):Prop:=t.kind=0∨t.kind=4∧t.text = [125]
def oX (t:bA):Prop:=t.kind=0∨t.kind=3∧t.text = [112,114,111,99]
structure Env (l l':List bA) (N:Nat) (A:Prop):Prop where
 low : ∀ (i:Nat) (t:bA),l[i]? = some t→(A∨i<N)→∃ t',l'[i]? = some t'∧Al t t'
 at' : ¬ A→∃ t t',l[N]? = some t∧l'[N]? = some t'∧Quiet t∧oX t'
section
variable {l l':List bA} {N:Nat} {A:Prop}
structure TU (l l':List bA) (r r':Rd):Prop where
 el:r.l=l
 Cp:r'.l=l'
 ei:r'.i=r.i
 en:r'.n=r.n
 ec:r'.code=r.code
 ef:r.code=0∨(r.code=3∨r.code=4)∧∃ (j:Nat) (t t':bA),l[j]? = some t∧l'[j]? = some t'∧r.jk=t.pos∧r'.jk=t'.pos
def mj (N:Nat) (A:Prop) (r:Rd):Prop:=A∨r.good=true∧r.i≤N
def SR (l l':List bA) (N:Nat) (A:Prop) (r r':Rd):Prop:=mj N A r→TU l l' r r'
def bj {α:Type} (l l':List bA) (N:Nat) (A:Prop) (r:Rd) (o o':Option (α×Rd)):Prop:=
 ∀ p,o=some p→r.i≤p.2.i∧(p.2.good=true→r.good=true)∧(mj N A p.2→∃ q',o'=some (p.1,q')∧TU l l' p.2 q')
theorem mj.back {r q:Rd} (h:mj N A q) (hi:r.i≤q.i) (hg:q.good=true→r.good=true):mj N A r:=by
 rcases h with h | h
 ·exact .inl h
 ·exact .inr ⟨hg h.1,Nat.le_trans hi h.2⟩
theorem bj.bind {α β:Type} {r:Rd} {o o':Option (α×Rd)} {f f':α×Rd→Option (β×Rd)} (h:bj l l' N A r o o') (k : ∀ a q q',SR l l' N A q q'→bj l l' N A q (f (a,q)) (f' (a,q'))) :
 bj l l' N A r (o.bind f) (o'.bind f'):=by
 intro p hp
 rw [Option.bind_eq_some_iff]at hp
 obtain⟨⟨a,q⟩,h1,h2⟩:=hp
 obtain⟨m1,m2,m3⟩:=h _ h1
 dsimp only at m1 m2 m3
 by_cases hc:mj N A q
 ·obtain⟨q',e,rel⟩:=m3 hc
  obtain⟨n1,n2,n3⟩:=k a q q' (fun _=>rel) _ h2
  refine⟨Nat.le_trans m1 n1,fun g=>m2 (n2 g),fun c=> ?_⟩
  obtain⟨s',e2,HK⟩:=n3 c
  exact⟨s',by rw [e];exact e2,HK⟩
 ·obtain⟨n1,n2,n3⟩:=k a q q (fun c=>absurd c hc) _ h2
  exact⟨Nat.le_trans m1 n1,fun g=>m2 (n2 g),fun c=>absurd (c.back n1 n2) hc⟩
def qt (l l':List bA) (N:Nat) (A:Prop) (r:Rd) (o o':Option Rd):Prop:=
 ∀ p,o=some p→r.i≤p.i∧(p.good=true→r.good=true)∧(mj N A p→∃ q',o'=some q'∧TU l l' p q')
theorem qt.bind {β:Type} {r:Rd} {o o':Option Rd} {f:Rd→Option (β×Rd)} (h:qt l l' N A r o o') (k : ∀ q q',SR l l' N A q q'→bj l l' N A q (f q) (f q')) :
 bj l l' N A r (o.bind f) (o'.bind f):=by
 intro p hp
 rw [Option.bind_eq_some_iff]at hp
 obtain⟨q,h1,h2⟩:=hp
 obtain⟨m1,m2,m3⟩:=h _ h1
 by_cases hc:mj N A q
 ·obtain⟨q',e,rel⟩:=m3 hc
  obtain⟨n1,n2,n3⟩:=k q q' (fun _=>rel) _ h2
  refine⟨Nat.le_trans m1 n1,fun g=>m2 (n2 g),fun c=> ?_⟩
  obtain⟨s',e2,HK⟩:=n3 c
  exact⟨s',by rw [e];exact e2,HK⟩
 ·obtain⟨n1,n2,n3⟩:=k q q (fun c=>absurd c hc) _ h2
  exact⟨Nat.le_trans m1 n1,fun g=>m2 (n2 g),fun c=>absurd (c.back n1 n2) hc⟩
theorem bj.ad5 {α:Type} {r:Rd} {o o':Option (α×Rd)} {f:α×Rd→Option Rd} (h:bj l l' N A r o o') (k : ∀ a q q',SR l l' N A q q'→qt l l' N A q (f (a,q)) (f (a,q'))) :
 qt l l' N A r (o.bind f) (o'.bind f):=by
 intro p hp
 rw [Option.bind_eq_some_iff]at hp
 obtain⟨⟨a,q⟩,h1,h2⟩:=hp
 obtain⟨m1,m2,m3⟩:=h _ h1
 dsimp only at m1 m2 m3
 by_cases hc:mj N A q
 ·obtain⟨q',e,rel⟩:=m3 hc
  obtain⟨n1,n2,n3⟩:=k a q q' (fun _=>rel) _ h2
  refine⟨Nat.le_trans m1 n1,fun g=>m2 (n2 g),fun c=> ?_⟩
  obtain⟨s',e2,HK⟩:=n3 c
  exact⟨s',by rw [e];exact e2,HK⟩
 ·obtain⟨n1,n2,n3⟩:=k a q q (fun c=>absurd c hc) _ h2
  exact⟨Nat.le_trans m1 n1,fun g=>m2 (n2 g),fun c=>absurd (c.back n1 n2) hc⟩
theorem bj.ret {α:Type} {r r':Rd} (a:α) (h:SR l l' N A r r'):bj l l' N A r (some (a,r)) (some (a,r')):=by
 intro p hp
 cases hp
 exact⟨Nat.le_refl _,id,fun c=>⟨r',rfl,h c⟩⟩
theorem bj.kE {α:Type} {r:Rd} {o':Option (α×Rd)} : bj l l' N A r none o':=fun p hp=>by cases hp
theorem bj.ask {α β:Type} {r:Rd} {o o':Option α} {f f':α→Option (β×Rd)} (h : ∀ a,o=some a→mj N A r→o'=some a) (k : ∀ a,o=some a→bj l l' N A r (f a) (f' a)):bj l l' N A r (o.bind f) (o'.bind f'):=by
 intro p hp
 rw [Option.bind_eq_some_iff]at hp
 obtain⟨a,h1,h2⟩:=hp
 obtain⟨n1,n2,n3⟩:=k a h1 _ h2
 refine⟨n1,n2,fun c=> ?_⟩
 rw [h a h1 (c.back n1 n2)]
 exact n3 c
theorem bj.same {α β:Type} {r:Rd} {o:Option α} {f f':α→Option (β×Rd)} (k : ∀ a,o=some a→bj l l' N A r (f a) (f' a)):bj l l' N A r (o.bind f) (o.bind f'):=bj.ask (fun a h _=>h) k
theorem bj.ite {α:Type} {r:Rd} {c:Prop} [Decidable c] {a b a' b':Option (α×Rd)} (h1:c→bj l l' N A r a a') (h2 : ¬ c→bj l l' N A r b b'):bj l l' N A r (if c then a else b) (if c then a' else b'):=by
 by_cases h:c
 ·rw [if_pos h,if_pos h];exact h1 h
 ·rw [if_neg h,if_neg h];exact h2 h
theorem qt.ret {r r':Rd} (h:SR l l' N A r r'):qt l l' N A r (some r) (some r'):=by
 intro p hp
 cases hp
 exact⟨Nat.le_refl _,id,fun c=>⟨r',rfl,h c⟩⟩
theorem qt.ami {r:Rd} {c:Prop} [Decidable c] {a b a' b':Option Rd} (h1:c→qt l l' N A r a a') (h2 : ¬ c→qt l l' N A r b b'):qt l l' N A r (if c then a else b) (if c then a' else b'):=by
 by_cases h:c
 ·rw [if_pos h,if_pos h];exact h1 h
 ·rw [if_neg h,if_neg h];exact h2 h
theorem bj.HL {α:Type} {r r':Rd} (hr:SR l l' N A r r') {a b a' b':Option (α×Rd)} (h1:r.good=true→bj l l' N A r a a') (h2:r.good=false→bj l l' N A r b b') :
 bj l l' N A r (if r.good=true then a else b) (if r'.good=true then a' else b'):=by
 by_cases hc:mj N A r
 ·have e:r'.good=r.good:=by simp only [Rd.good,(hr hc).ec]
  rw [e]
  cases h:r.good
  ·exact h2 h
  ·exact h1 h
 ·intro p hp
  have key:r.i≤p.2.i∧(p.2.good=true→r.good=true):=by
   cases h:r.good
   ·rw [h]at hp;have:=h2 h p hp;exact⟨this.1,fun g=>by rw [← h];exact this.2.1 g⟩
   ·rw [h]at hp;exact⟨(h1 h p hp).1,fun _=>rfl⟩
  exact⟨key.1,key.2,fun c=>absurd (c.back key.1 key.2) hc⟩
theorem SR.xE {r r':Rd} (h:SR l l' N A r r') (hc:mj N A r):r'.good=r.good:=by simp only [Rd.good,(h hc).ec]
theorem SR.set {r r':Rd} (h:SR l l' N A r r') (j:Nat) (hj:r.i≤j):SR l l' N A {r with i:=j} {r' with i:=j}:=by
 intro hc
 have:=h (hc.back (r:=r) hj id)
 exact⟨this.el,this.Cp,rfl,this.en,this.ec,this.ef⟩
theorem bj.on {α:Type} {r r':Rd} (a:α) (h:SR l l' N A r r') (j j':Nat) (hj:r.i≤j) (e:mj N A r→j'=j):bj l l' N A r (some (a,{r with i:=j})) (some (a,{r' with i:=j'})):=by
 intro p hp
 cases hp
 refine⟨hj,id,fun c=> ?_⟩
 have hc:mj N A r:=c.back hj id
 rw [e hc]
 exact⟨_,rfl,h.set j hj c⟩
theorem wN {l:List bA} {i:Nat} {t:bA} (h:i<4611686018427387904) (e:l[i]? = some t):vo l i=some t:=by simp [vo,h,e]
theorem tV (E:Env l l' N A) {r r':Rd} (h:SR l l' N A r r') (hc:mj N A r) (hi:A∨r.i<N) {t:bA} (ht:r.gi=some t) : ∃ t',r'.gi=some t'∧Al t t':=by
 obtain⟨h1,h2,h3,h4⟩:=mD ht
 have R:=h hc
 rw [R.el]at h2
 obtain⟨t',e,te⟩:=E.low _ _ h2 hi
 refine⟨t', ?_,te⟩
 simp only [Rd.gi,R.ei,R.Cp,wN h1 e,Option.bind_some,te.k,h3,h4,decide_true,Bool.and_self, ↓reduceIte]
theorem Dy (E:Env l l' N A) {r r':Rd} (h:SR l l' N A r r') (hc:mj N A r) (hA : ¬ A) (hi:r.i=N) {t:bA} (ht:r.gi=some t):Quiet t∧∃ t',r'.gi=some t'∧oX t':=by
 obtain⟨h1,h2,h3,h4⟩:=mD ht
 have R:=h hc
 obtain⟨u,u',e1,e2,q1,q2⟩:=E.at' hA
 rw [R.el,hi,e1]at h2
 cases h2
 refine⟨q1,u', ?_,q2⟩
 have hk:0≤u'.kind∧u'.kind≤4:=by rcases q2 with q | q <;> omega
 rw [hi]at h1
 simp only [Rd.gi,R.ei,R.Cp,hi,wN h1 e2,Option.bind_some,hk.1,hk.2,decide_true,Bool.and_self, ↓reduceIte]
theorem mj.cases {r:Rd} (hc:mj N A r):(A∨r.i<N)∨(¬ A∧r.i=N):=by
 by_cases hA:A
 ·exact .inl (.inl hA)
 ·rcases hc with h | h
  ·exact absurd h hA
  ·rcases Nat.lt_or_eq_of_le h.2 with h | h
   ·exact .inl (.inr h)
   ·exact .inr ⟨hA,h⟩
theorem Cq (E:Env l l' N A) {r r':Rd} (h:SR l l' N A r r') {s:ay} (h1:s≠ [125]) (h2:s≠ [112,114,111,99]) {b:Bool} (hb:r.is s=some b) (hc:mj N A r):r'.is s=some b:=by
 unfold Rd.is at hb ⊢
 rw [Option.bind_eq_some_iff]at hb
 obtain⟨t,ht,hb⟩:=hb
 cases hb
 rcases hc.cases with hi | ⟨hA,hi⟩
 ·obtain⟨t',e,te⟩:=tV E h hc hi ht
  rw [e,Option.bind_some,te.k,te.x]
 ·obtain⟨q,t',e,q'⟩:=Dy E h hc hA hi ht
  rw [e,Option.bind_some]
  have a1:((t.kind==3 || t.kind==4) && t.text==s)=false:=by
   rcases q with q | ⟨_,q⟩
   ·simp [q]
   ·have:(t.text==s)=false:=by rw [q];simpa using fun e=>h1 e.symm
    simp [this]
  have a2:((t'.kind==3 || t'.kind==4) && t'.text==s)=false:=by
   rcases q' with q | ⟨_,q⟩
   ·simp [q]
   ·have:(t'.text==s)=false:=by rw [q];simpa using fun e=>h2 e.symm
    simp [this]
  rw [a1,a2]
theorem iY (E:Env l l' N A) {r r':Rd} (h:SR l l' N A r r') {s:ay} (h1:s≠ [125]) (h2:s≠ [112,114,111,99]):bj l l' N A r (r.take s) (r'.take s):=by
 unfold Rd.take
 by_cases hc:mj N A r
 ·rw [h.xE hc]
  refine bj.ite (fun _=>bj.ret _ h) (fun _=> ?_)
  refine bj.ask (fun b hb hc=>Cq E h h1 h2 hb hc) fun b _=>bj.ite (fun _=>bj.ret _ h) fun _=>bj.on _ h _ _ (Nat.le_succ _) fun hc=>by rw [(h hc).ei]
 ·intro p hp
  have key:r.i≤p.2.i∧(p.2.good=true→r.good=true):=by
   split at hp
   ·cases hp;exact⟨Nat.le_refl _,id⟩
   ·rw [Option.bind_eq_some_iff]at hp
    obtain⟨b,_,hp⟩:=hp
    split at hp
    ·cases hp;exact⟨Nat.le_refl _,id⟩
    ·cases hp;exact⟨Nat.le_succ _,id⟩
  exact⟨key.1,key.2,fun c=>absurd (c.back key.1 key.2) hc⟩
theorem JK (E:Env l l' N A) {r r':Rd} (h:SR l l' N A r r') {c:Int} (VQ:c=3∨c=4):qt l l' N A r (r.bad c) (r'.bad c):=by
 intro p hp
 unfold Rd.bad at hp
 cases hg:r.good
 ·simp only [hg,Bool.false_eq_true, ↓reduceIte]at hp
  cases hp
  refine⟨Nat.le_refl _,fun g=>(by rw [hg]at g;cases g),fun hc=> ?_⟩
  refine⟨r', ?_,h hc⟩
  simp only [Rd.bad,h.xE hc,hg,Bool.false_eq_true, ↓reduceIte]
 ·simp only [hg, ↓reduceIte]at hp
  rw [Option.bind_eq_some_iff]at hp
  obtain⟨t,ht,hp⟩:=hp
  cases hp
  have hf:({r with code:=c,jk:=t.pos} : Rd).good=false:=by rcases VQ with rfl | rfl <;> rfl
  refine⟨Nat.le_refl _,fun g=>rfl,fun hc=> ?_⟩
  rcases hc with hA | ⟨g,_⟩
  ·have hcr:mj N A r:= .inl hA
   obtain⟨t',e,te⟩:=tV E h hcr (.inl hA) ht
   have R:=h hcr
   refine⟨{r' with code:=c,jk:=t'.pos}, ?_,⟨R.el,R.Cp,R.ei,R.en,rfl, .inr ⟨VQ,r.i,t,t', ?_, ?_,rfl,rfl⟩⟩⟩
   ·simp only [Rd.bad,h.xE hcr,hg, ↓reduceIte,e,Option.bind_some]
   ·have:=(mD ht).2.1;rw [R.el]at this;exact this
   ·have:=(mD e).2.1;rw [R.Cp,R.ei]at this;exact this
  ·rw [hf]at g;cases g
theorem fO (E:Env l l' N A) {r r':Rd} (h:SR l l' N A r r') {s:ay} (h1:s≠ [125]) (h2:s≠ [112,114,111,99]):qt l l' N A r (r.want s) (r'.want s):=by
 unfold Rd.want
 exact(iY E h h1 h2).ad5 fun a q q' hq=>qt.ami (fun _=>JK E hq (by decide)) fun _=>qt.ret hq
end
end Go.Abs

/-! Sim2 -/

namespace Go.Abs
section
variable {l l':List bA} {N:Nat} {A:Prop}
def Next (N:Nat) (A:Prop) (r:Rd) (t t':bA):Prop:=Al t t'∨(¬ A∧r.i=N∧Quiet t∧oX t')
structure xF (N:Nat) (A:Prop) (r r':Rd):Prop where
 g:r'.good=r.good
 i:r'.i=r.i
 n:r'.n=r.n
 pk : ∀ t,r.gi=some t→∃ t',r'.gi=some t'∧Next N A r t t'
 pk2 : ∀ t,r.gi=some t→t.kind=1→∀ u,vo r.l (r.i+1)=some u→∃ u',vo r'.l (r'.i+1)=some u'∧(Al u u'∨Quiet u∧oX u')
theorem Al.refl (t:bA):Al t t:=⟨rfl,rfl,rfl⟩
theorem xF.refl (r:Rd):xF N A r r:=⟨rfl,rfl,rfl,fun t h=>⟨t,h, .inl (Al.refl t)⟩,fun t _ _ u h=>⟨u,h, .inl (Al.refl u)⟩⟩
theorem JL (E:Env l l' N A) {r r':Rd} (h:SR l l' N A r r') (hc:mj N A r):xF N A r r':=by
 refine⟨h.xE hc,(h hc).ei,(h hc).en,fun t ht=> ?_,fun t ht hk u hu=> ?_⟩
 ·rcases hc.cases with hi | ⟨hA,hi⟩
  ·obtain⟨t',e,te⟩:=tV E h hc hi ht
   exact⟨t',e, .inl te⟩
  ·obtain⟨q,t',e,q'⟩:=Dy E h hc hA hi ht
   exact⟨t',e, .inr ⟨hA,hi,q,q'⟩⟩
 ·have R:=h hc
  have amj:A∨r.i<N:=by
   rcases hc.cases with hi | ⟨hA,hi⟩
   ·exact hi
   ·obtain⟨q,_⟩:=Dy E h hc hA hi ht
    rcases q with q | q
    ·omega
    ·omega
  obtain⟨h1,h2⟩:=uD hu
  rw [R.el]at h2
  rw [R.Cp,R.ei]
  by_cases hA:A
  ·obtain⟨u',e,te⟩:=E.low _ _ h2 (.inl hA)
   exact⟨u',wN h1 e, .inl te⟩
  ·rcases Nat.lt_or_ge (r.i+1) N with hj | hj
   ·obtain⟨u',e,te⟩:=E.low _ _ h2 (.inr hj)
    exact⟨u',wN h1 e, .inl te⟩
   ·have e1:r.i+1=N:=by rcases amj with f | f;exact absurd f hA;omega
    obtain⟨v,v',f1,f2,q1,q2⟩:=E.at' hA
    rw [e1]at h2 h1
    rw [f1]at h2
    cases h2
    rw [e1]
    exact⟨v',wN h1 f2, .inr ⟨q1,q2⟩⟩
theorem bj.wl {α:Type} (E:Env l l' N A) {r r':Rd} (h:SR l l' N A r r') {F G:Rd→Option (α×Rd)} (k : ∀ r'',SR l l' N A r r''→xF N A r r''→bj l l' N A r (F r) (G r'')):bj l l' N A r (F r) (G r'):=by
 by_cases hc:mj N A r
 ·exact k r' h (JL E h hc)
 ·intro p hp
  obtain⟨a,b,_⟩:=k r (fun c=>absurd c hc) (xF.refl r) p hp
  exact⟨a,b,fun c=>absurd (c.back a b) hc⟩
theorem bj.void {α:Type} {r:Rd} {o o' o'':Option (α×Rd)} (h:bj l l' N A r o o'') (k : ∀ p,o=some p→¬ mj N A p.2):bj l l' N A r o o':=by
 intro p hp
 obtain⟨a,b,_⟩:=h p hp
 exact⟨a,b,fun c=>absurd c (k p hp)⟩
theorem bj.A5 {α:Type} {r r':Rd} (nr:xF N A r r') {f f':bA→Option (α×Rd)} (k : ∀ t t',r.gi=some t→r'.gi=some t'→Next N A r t t'→bj l l' N A r (f t) (f' t')) :
 bj l l' N A r (r.gi.bind f) (r'.gi.bind f'):=by
 intro p hp
 rw [Option.bind_eq_some_iff]at hp
 obtain⟨t,ht,hp⟩:=hp
 obtain⟨t',nw,q⟩:=nr.pk t ht
 have:=k t t' ht nw q p hp
 rw [nw,Option.bind_some]
 exact this
theorem Quiet.k1 {t:bA} (h:Quiet t):(t.kind==1)=false:=by rcases h with h | ⟨h,_⟩ <;> simp [h]
theorem Quiet.k2 {t:bA} (h:Quiet t):(t.kind==2)=false:=by rcases h with h | ⟨h,_⟩ <;> simp [h]
theorem oX.k1 {t:bA} (h:oX t):(t.kind==1)=false:=by rcases h with h | ⟨h,_⟩ <;> simp [h]
theorem oX.k2 {t:bA} (h:oX t):(t.kind==2)=false:=by rcases h with h | ⟨h,_⟩ <;> simp [h]
theorem Quiet.op {t:bA} (h:Quiet t):fw t=(0,0):=by
 rcases h with h | ⟨h,e⟩
 ·simp [fw,h]
 ·simp only [fw,h,e];decide
theorem oX.op {t:bA} (h:oX t):fw t=(0,0):=by rcases h with h | ⟨h,_⟩ <;> simp [fw,h]
theorem Al.op {t t':bA} (h:Al t t'):fw t'=fw t:=by simp only [fw,h.k,h.x]
theorem pJ {α:Type} (E:Env l l' N A) {r r':Rd} (h:SR l l' N A r r') {c:Int} (hc:c=3∨c=4) (a:α):bj l l' N A r ((r.bad c).bind fun r=>some (a,r)) ((r'.bad c).bind fun r=>some (a,r)):=
 (JK E h hc).bind fun q q' hq=>bj.ret _ hq
theorem n6 (E:Env l l' N A) {r r':Rd} (h:SR l l' N A r r') (room:Bool):bj l l' N A r (r.name room) (r'.name room):=by
 refine bj.wl E h (F:=fun r=>r.name room) (G:=fun r=>r.name room) fun r' h nr=> ?_
 unfold Rd.name
 refine bj.A5 nr fun t t' ht nw q=> ?_
 rw [nr.g]
 rcases q with te | ⟨_,_,q,q'⟩
 ·rw [te.k,te.x,nr.i]
  exact bj.ite (fun _=>pJ E h (by decide) _) fun _=>bj.ite (fun _=>pJ E h (by decide) _) fun _=>bj.on _ h _ _ (Nat.le_succ _) fun _=>rfl
 ·have e1:(t.kind != 1)=true:=by have:=q.k1;simpa using this
  have e2:(t'.kind != 1)=true:=by have:=q'.k1;simpa using this
  rw [e1,e2,Bool.or_true,if_pos rfl,if_pos rfl]
  exact pJ E h (by decide) _
theorem TV (E:Env l l' N A) : ∀ n:Nat,(∀ r r':Rd,SR l l' N A r r'→bj l l' N A r (Rd.one n r) (Rd.one n r'))∧(∀ (r r':Rd) (k:Int),SR l l' N A r r'→bj l l' N A r (Rd.two n k r) (Rd.two n k r'))∧
 (∀ (r r':Rd) (k:Int) (x:Ex),SR l l' N A r r'→bj l l' N A r (Rd.jD n k x r) (Rd.jD n k x r')):=by
 intro n
 induction n with
 | zero=>exact⟨fun r r' _=>by simp only [Rd.one];exact bj.kE,fun r r' k _=>by simp only [Rd.two];exact bj.kE,fun r r' k x _=>by simp only [Rd.jD];exact bj.kE⟩
 | succ n ih=>
  obtain⟨pR,sk,wJ⟩:=ih
  refine⟨fun r r' h=> ?_,fun r r' k h=> ?_,fun r r' k x h=> ?_⟩
  ·refine bj.wl E h (F:=Rd.one (n+1)) (G:=Rd.one (n+1)) fun r' h nr=> ?_
   simp only [Rd.one]
   refine bj.A5 nr fun t t' ht nw q=> ?_
   rw [nr.g,nr.i]
   refine bj.ite (fun _=>bj.ret _ h) fun _=> ?_
   have tail:bj l l' N A r ((r.take [40]).bind fun p=>
    if p.1 then(Rd.two n 1 p.2).bind fun x=>(x.2.want [41]).bind fun r=>some (x.1,r)
    else(p.2.take [45]).bind fun p=>
     if p.1 then(Rd.one n p.2).bind fun x=>some ((⟨3,0,[],[x.1]⟩:Ex),x.2)
     else(p.2.take [33]).bind fun p=>
      if p.1 then(Rd.one n p.2).bind fun x=>some (⟨4,0,[],[x.1]⟩,x.2)
      else(p.2.bad 3).bind fun r=>some (iG,r)) ((r'.take [40]).bind fun p=>
    if p.1 then(Rd.two n 1 p.2).bind fun x=>(x.2.want [41]).bind fun r=>some (x.1,r)
    else(p.2.take [45]).bind fun p=>
     if p.1 then(Rd.one n p.2).bind fun x=>some ((⟨3,0,[],[x.1]⟩:Ex),x.2)
     else(p.2.take [33]).bind fun p=>
      if p.1 then(Rd.one n p.2).bind fun x=>some (⟨4,0,[],[x.1]⟩,x.2)
      else(p.2.bad 3).bind fun r=>some (iG,r)):=by
    refine(iY E h (by decide) (by decide)).bind fun a q q' hq=>bj.ite (fun _=> ?_) fun _=> ?_
    ·refine(sk _ _ _ hq).bind fun x s s' hs=> ?_
     exact(fO E hs (by decide) (by decide)).bind fun u u' hu=>bj.ret _ hu
    refine(iY E hq (by decide) (by decide)).bind fun a q q' hq=>bj.ite (fun _=> ?_) fun _=> ?_
    ·exact(pR _ _ hq).bind fun x s s' hs=>bj.ret _ hs
    refine(iY E hq (by decide) (by decide)).bind fun a q q' hq=>bj.ite (fun _=> ?_) fun _=> ?_
    ·exact(pR _ _ hq).bind fun x s s' hs=>bj.ret _ hs
    ·exact pJ E hq (by decide) _
   rcases q with te | ⟨_,_,q,q'⟩
   ·rw [te.k,te.x,te.n]
    exact bj.ite (fun _=>bj.on _ h _ _ (Nat.le_succ _) fun _=>rfl) fun _=>bj.ite (fun _=>bj.on _ h _ _ (Nat.le_succ _) fun _=>rfl) fun _=>tail
   ·simp only [q.k1,q.k2,q'.k1,q'.k2,Bool.false_eq_true, ↓reduceIte]
    exact tail
  ·simp only [Rd.two]
   exact(pR _ _ h).bind fun x s s' hs=>wJ _ _ _ _ hs
  ·refine bj.wl E h (F:=Rd.jD (n+1) k x) (G:=Rd.jD (n+1) k x) fun r' h nr=> ?_
   simp only [Rd.jD]
   rw [nr.g,nr.i]
   refine bj.ite (fun _=> ?_) fun _=>bj.ret _ h
   refine bj.A5 nr fun t t' ht nw q=> ?_
   rcases q with te | ⟨_,_,q,q'⟩
   ·rw [te.op]
    refine bj.ite (fun _=>bj.ret _ h) fun _=> ?_
    intro p hp
    have hs:SR l l' N A {r with i:=r.i+1} {r' with i:=r.i+1}:=h.set _ (Nat.le_succ _)
    obtain⟨a,b,c⟩:=(bj.bind (f:=fun y=>Rd.jD n k ⟨(fw t).1,0,[],[x,y.1]⟩ y.2) (f':=fun y=>Rd.jD n k ⟨(fw t).1,0,[],[x,y.1]⟩ y.2) (sk _ _ ((fw t).2+1) hs) fun y q q' hq=>wJ _ _ k _ hq) p hp
    exact⟨Nat.le_trans (Nat.le_succ _) a,b,c⟩
   ·rw [q.op,q'.op]
    have e:(decide ((0:Int)<k) || (0:Int)==0)=true:=by simp
    simp only [e, ↓reduceIte]
    exact bj.ret _ h
theorem rV (E:Env l l' N A) {n:Nat} {r r':Rd} (h:SR l l' N A r r'):bj l l' N A r (Rd.whole n r) (Rd.whole n r'):=by
 refine bj.wl E h (F:=Rd.whole n) (G:=Rd.whole n) fun r' h nr=> ?_
 unfold Rd.whole
 refine bj.A5 nr fun t t' ht nw q=> ?_
 refine((TV E n).2.1 _ _ _ h).bind fun x s s' hs=> ?_
 refine bj.HL hs (fun hg=>bj.same fun d _=>bj.ite (fun _=> ?_) fun _=>bj.ret _ hs) fun _=>bj.ret _ hs
 intro p hp
 cases hp
 have hf:({s with code:=4,jk:=t.pos} : Rd).good=false:=rfl
 refine⟨Nat.le_refl _,fun _=>hg,fun hc=> ?_⟩
 rcases hc with hA | ⟨g,_⟩
 ·have R:=hs (.inl hA)
  have R0:=h (.inl hA)
  refine⟨_,rfl,R.el,R.Cp,R.ei,R.en,rfl, .inr ⟨.inr rfl,r.i,t,t', ?_, ?_,rfl,rfl⟩⟩
  ·have:=(mD ht).2.1;rw [R0.el]at this;exact this
  ·have:=(mD nw).2.1;rw [R0.Cp,R0.ei]at this;exact this
 ·rw [hf]at g;cases g
theorem Ez (E:Env l l' N A) {dL:Int} : ∀ (n:Nat) (L:List ay) (r r':Rd),SR l l' N A r r'→bj l l' N A r (Rd.names n L dL r) (Rd.names n L dL r'):=by
 intro n
 induction n with
 | zero=>intro L r r' _;simp only [Rd.names];exact bj.kE
 | succ n ih=>
  intro L r r' h
  simp only [Rd.names]
  refine bj.HL h (fun _=> ?_) fun _=>bj.ret _ h
  exact(n6 E h _).bind fun a q q' hq=>bj.same fun L' _=>(iY E hq (by decide) (by decide)).bind fun b s s' hs=>
   bj.ite (fun _=>(fO E hs (by decide) (by decide)).bind fun u u' hu=>bj.ret _ hu) fun _=>ih _ _ _ hs
theorem EA (E:Env l l' N A) {r r':Rd} {s:ay} (nr:xF N A r r') (h1:s≠ [125]) {b:Bool} (hb:r.ahead s=some b):r'.ahead s=some b:=by
 unfold Rd.ahead at hb ⊢
 rw [nr.g]
 cases hg:r.good
 ·simp only [hg,Bool.false_eq_true, ↓reduceIte]at hb ⊢;exact hb
 ·simp only [hg, ↓reduceIte]at hb ⊢
  rw [Option.bind_eq_some_iff]at hb
  obtain⟨t,ht,hb⟩:=hb
  obtain⟨t',nw,q⟩:=nr.pk t ht
  rw [nw,Option.bind_some]
  rcases q with te | ⟨_,_,q,q'⟩
  ·rw [te.k]
   cases hk:t.kind==1
   ·simp only [hk,Bool.false_eq_true, ↓reduceIte]at hb ⊢;exact hb
   ·simp only [hk, ↓reduceIte]at hb ⊢
    rw [Option.bind_eq_some_iff]at hb
    obtain⟨u,hu,hb⟩:=hb
    obtain⟨u',hu',qu⟩:=nr.pk2 t ht (by simpa using hk) u hu
    rw [hu',Option.bind_some]
    rcases qu with te | ⟨q,q'⟩
    ·rw [te.k,te.x];exact hb
    ·cases hb
     have a1:(u.kind==4 && u.text==s)=false:=by
      rcases q with q | ⟨_,q⟩
      ·simp [q]
      ·have:(u.text==s)=false:=by rw [q];simpa using fun e=>h1 e.symm
       simp [this]
     have a2:(u'.kind==4 && u'.text==s)=false:=by rcases q' with q | ⟨q,_⟩ <;> simp [q]
     rw [a1,a2]
  ·rw [q.k1]at hb
   rw [q'.k1]
   simpa using hb
theorem MW (E:Env l l' N A) : ∀ (n:Nat) (L:List ay) (r r':Rd),SR l l' N A r r'→bj l l' N A r (Rd.labels n L r) (Rd.labels n L r'):=by
 intro n
 induction n with
 | zero=>intro L r r' _;simp only [Rd.labels];exact bj.kE
 | succ n ih=>
  intro L r r' h
  refine bj.wl E h (F:=Rd.labels (n+1) L) (G:=Rd.labels (n+1) L) fun r' h nr=> ?_
  simp only [Rd.labels]
  refine bj.ask (fun b hb _=>EA E nr (by decide) hb) fun b hb=>bj.ite (fun xY=> ?_) fun _=>bj.ret _ h
  refine bj.A5 nr fun t t' ht nw q=> ?_
  have hx:t'.text=t.text:=by
   rcases q with te | ⟨_,_,q,_⟩
   ·exact te.x
   ·exfalso
    subst xY
    unfold Rd.ahead at hb
    split at hb
    ·rw [ht,Option.bind_some,q.k1]at hb
     simp at hb
    ·cases hb
  rw [hx,nr.i]
  refine bj.same fun L' _=> ?_
  intro p hp
  obtain⟨a,b,c⟩:=ih L' _ _ (h.set (r.i+2) (by omega)) p hp
  exact⟨Nat.le_trans (by dsimp only;omega) a,b,c⟩
end
end Go.Abs

/-! Sim3 -/

namespace Go.Abs
section
variable {l l':List bA} {N:Nat} {A:Prop}
theorem Qq (E:Env l l' N A) {m:Nat} : ∀ (n:Nat) (L:List Ar) (r r':Rd),SR l l' N A r r'→bj l l' N A r (Rd.jx m n L r) (Rd.jx m n L r'):=by
 intro n
 induction n with
 | zero=>intro L r r' _;simp only [Rd.jx];exact bj.kE
 | succ n ih=>
  intro L r r' h
  simp only [Rd.jx]
  refine bj.HL h (fun _=> ?_) fun _=>bj.ret _ h
  refine(iY E h (by decide) (by decide)).bind fun a q q' hq=>bj.ite (fun _=> ?_) fun _=> ?_
  ·refine(n6 E hq _).bind fun b s s' hs=>bj.same fun L' _=> ?_
   exact(iY E hs (by decide) (by decide)).bind fun c u u' hu=>bj.ite (fun _=>bj.ret _ hu) fun _=>ih _ _ _ hu
  ·refine(rV E hq).bind fun b s s' hs=>bj.same fun L' _=> ?_
   exact(iY E hs (by decide) (by decide)).bind fun c u u' hu=>bj.ite (fun _=>bj.ret _ hu) fun _=>ih _ _ _ hu
theorem EB (E:Env l l' N A) {r r':Rd} (h:SR l l' N A r r') {s:ay} (h1:s≠ [125]) (h2:s≠ [112,114,111,99]) {b:Bool} (hb:r.other s=some b) (hc:mj N A r):r'.other s=some b:=by
 unfold Rd.other at hb ⊢
 rw [h.xE hc]
 cases hg:r.good
 ·simp only [hg,Bool.false_eq_true, ↓reduceIte]at hb ⊢;exact hb
 ·simp only [hg, ↓reduceIte]at hb ⊢
  rw [Option.bind_eq_some_iff]at hb
  obtain⟨c,h3,hb⟩:=hb
  rw [Cq E h h1 h2 h3 hc]
  exact hb
theorem HM (E:Env l l' N A) {m:Nat} {name proc:ay} {r r':Rd} (h:SR l l' N A r r'):bj l l' N A r (Rd.call m name proc r) (Rd.call m name proc r'):=by
 unfold Rd.call
 refine(fO E h (by decide) (by decide)).bind fun q q' hq=> ?_
 refine bj.ask (fun b hb hc=>EB E hq (by decide) (by decide) hb hc) fun b _=>bj.ite (fun _=> ?_) fun _=> ?_
 ·refine(Qq E _ _ _ _ hq).bind fun a s s' hs=> ?_
  exact(fO E hs (by decide) (by decide)).bind fun u u' hu=>(fO E hu (by decide) (by decide)).bind fun v v' hv=>bj.ret _ hv
 ·exact(fO E hq (by decide) (by decide)).bind fun u u' hu=>(fO E hu (by decide) (by decide)).bind fun v v' hv=>bj.ret _ hv
theorem bj.abj {α:Type} (E:Env l l' N A) {r r':Rd} (h:SR l l' N A r r') {s:ay} (h1:s≠ [125]) {f f':Bool→Option (α×Rd)} (k : ∀ b,bj l l' N A r (f b) (f' b)):bj l l' N A r ((r.ahead s).bind f) ((r'.ahead s).bind f'):=
 bj.ask (fun b hb hc=>EA E (JL E h hc) h1 hb) fun b _=>k b
theorem Qr (E:Env l l' N A) {m:Nat} {r r':Rd} (h:SR l l' N A r r'):bj l l' N A r (Rd.named m r) (Rd.named m r'):=by
 unfold Rd.named
 refine(n6 E h _).bind fun a q q' hq=> ?_
 refine bj.ask (fun b hb hc=>Cq E hq (by decide) (by decide) hb hc) fun b _=>bj.ite (fun _=>HM E hq) fun _=> ?_
 refine(fO E hq (by decide) (by decide)).bind fun u u' hu=> ?_
 refine bj.abj E hu (by decide) fun b=>bj.ite (fun _=> ?_) fun _=> ?_
 ·exact(n6 E hu _).bind fun c s s' hs=>HM E hs
 ·exact(rV E hu).bind fun c s s' hs=>(fO E hs (by decide) (by decide)).bind fun v v' hv=>bj.ret _ hv
theorem Qs (E:Env l l' N A) {m:Nat} {word:ay} {r r':Rd} (h:SR l l' N A r r'):bj l l' N A r (Rd.plain m word r) (Rd.plain m word r'):=by
 unfold Rd.plain
 refine bj.ite (fun _=>bj.ret _ h) fun _=>bj.ite (fun _=>bj.ret _ h) fun _=>bj.ite (fun _=> ?_) fun _=> ?_
 ·refine bj.ask (fun b hb hc=>Cq E h (by decide) (by decide) hb hc) fun b _=>bj.ite (fun _=> ?_) fun _=>bj.ret _ h
  exact(rV E h).bind fun a s s' hs=>bj.ret _ hs
 refine bj.ite (fun _=>(n6 E h _).bind fun a s s' hs=>bj.ret _ hs) fun _=>bj.ite (fun _=>(n6 E h _).bind fun a s s' hs=>bj.ret _ hs) fun _=>bj.ite (fun _=> ?_) fun _=>bj.ret _ h
 exact(rV E h).bind fun a s s' hs=>bj.ret _ hs
theorem HN (E:Env l l' N A) {m:Nat} {r r':Rd} (h:SR l l' N A r r'):bj l l' N A r (Rd.head m r) (Rd.head m r'):=by
 unfold Rd.head
 refine(fO E h (by decide) (by decide)).bind fun q q' hq=> ?_
 exact(rV E hq).bind fun a s s' hs=>(fO E hs (by decide) (by decide)).bind fun v v' hv=>bj.ret _ hv
theorem MX {r r':Rd} (nr:xF N A r r') {b:Bool} (hb:r.nT=some b):r'.nT=some b:=by
 unfold Rd.nT at hb ⊢
 rw [Option.bind_eq_some_iff]at hb
 obtain⟨t,ht,hb⟩:=hb
 obtain⟨t',nw,q⟩:=nr.pk t ht
 rw [nw,Option.bind_some]
 rcases q with te | ⟨_,_,q,q'⟩
 ·rw [te.k,te.x];exact hb
 ·cases hb
  have e1:(t.kind != 3)=true:=by rcases q with q | ⟨q,_⟩ <;> simp [q]
  simp only [q.k1,q'.k1,e1,Bool.false_eq_true, ↓reduceIte]
  rcases q' with q | ⟨q,e⟩
  ·simp [q]
  ·rw [q,e];rfl
theorem SR.aml {r r':Rd} (h:SR l l' N A r r') (k:Nat):SR l l' N A {r with n:=k} {r' with n:=k}:=by
 intro hc
 have:=h (hc.back (r:=r) (Nat.le_refl _) id)
 exact⟨this.el,this.Cp,this.ei,rfl,this.ec,this.ef⟩
theorem bj.from {α:Type} {r s:Rd} {o o':Option (α×Rd)} (h:bj l l' N A s o o') (hi:r.i≤s.i) (hg:s.good=true→r.good=true):bj l l' N A r o o':=by
 intro p hp
 obtain⟨a,b,c⟩:=h p hp
 exact⟨Nat.le_trans hi a,fun g=>hg (b g),c⟩
theorem MY {m n:Nat} {nest:Int} {r:Rd} {t:bA} (ht:r.gi=some t) (q:Quiet t) {p:Sm×Rd} (hp:Rd.stmt m n nest r=some p):p.2.good=false:=by
 cases n with
 | zero=>simp only [Rd.stmt]at hp;cases hp
 | succ n=>
  have e1:(t.kind != 3)=true:=by rcases q with q | ⟨q,_⟩ <;> simp [q]
  simp only [Rd.stmt,Rd.nT,ht,Option.bind_some,q.k1,e1,Bool.false_eq_true, ↓reduceIte,Bool.not_false]at hp
  rw [Option.bind_eq_some_iff]at hp
  obtain⟨r1,h1,hp⟩:=hp
  cases hp
  unfold Rd.bad at h1
  split at h1
  ·rw [ht,Option.bind_some]at h1
   cases h1;rfl
  ·rename_i hg
   cases h1
   simpa using hg
theorem Qt {m n:Nat} {nest:Int} {body:Bool} {out:List Sm} {r:Rd} (hg:r.good=false) {p:(List Sm×List ay)×Rd} (hp:Rd.fE m n nest body out r=some p):p.2.good=false:=by
 cases n with
 | zero=>simp only [Rd.fE]at hp;cases hp
 | succ n=>
  simp only [Rd.fE,hg,Bool.false_eq_true, ↓reduceIte]at hp
  cases hp
  exact hg
theorem Qu (E:Env l l' N A) {m:Nat} : ∀ n:Nat,
 (∀ (nest:Int) (body:Bool) (r r':Rd),SR l l' N A r r'→bj l l' N A r (Rd.rows m n nest body r) (Rd.rows m n nest body r'))∧
 (∀ (nest:Int) (body:Bool) (out:List Sm) (r r':Rd),SR l l' N A r r'→bj l l' N A r (Rd.fE m n nest body out r) (Rd.fE m n nest body out r'))∧
 (∀ (nest:Int) (r r':Rd),SR l l' N A r r'→bj l l' N A r (Rd.stmt m n nest r) (Rd.stmt m n nest r'))∧
 (∀ (nest:Int) (r r':Rd),SR l l' N A r r'→bj l l' N A r (Rd.block m n nest r) (Rd.block m n nest r'))∧
 (∀ (nest:Int) (r r':Rd),SR l l' N A r r'→bj l l' N A r (Rd.choice m n nest r) (Rd.choice m n nest r')):=by
 intro n
 induction n with
 | zero=>
  refine⟨fun _ _ r r' _=> ?_,fun _ _ _ r r' _=> ?_,fun _ r r' _=> ?_,fun _ r r' _=> ?_,fun _ r r' _=> ?_⟩
  ·simp only [Rd.rows];exact bj.kE
  ·simp only [Rd.fE];exact bj.kE
  ·simp only [Rd.stmt];exact bj.kE
  ·simp only [Rd.block];exact bj.kE
  ·simp only [Rd.choice];exact bj.kE
 | succ n ih=>
  obtain⟨i1,i2,i3,i4,i5⟩:=ih
  refine⟨fun nest body r r' h=> ?_,fun nest body out r r' h=> ?_,fun nest r r' h=> ?_,fun nest r r' h=> ?_,fun nest r r' h=> ?_⟩
  ·simp only [Rd.rows]
   exact i2 _ _ _ _ _ h
  ·simp only [Rd.fE]
   refine bj.HL h (fun hg=> ?_) fun _=>bj.ret _ h
   refine(MW E m [] _ _ h).bind fun ls q q' hq=> ?_
   have go : ∀ (q':Rd) (b:Bool),SR l l' N A q q'→q'.i=q.i→bj l l' N A q (if b && (body || (ls.length:Int)==0)then some ((out,ls),{q with i:=q.i+1})else(Rd.stmt m n nest q).bind fun s=>(push 209 out {s.1 with labels:=ls}).bind fun out=>Rd.fE m n nest body out s.2)
    (if b && (body || (ls.length:Int)==0)then some ((out,ls),{q' with i:=q'.i+1})else(Rd.stmt m n nest q').bind fun s=>(push 209 out {s.1 with labels:=ls}).bind fun out=>Rd.fE m n nest body out s.2):=by
    intro q' b hq hi
    refine bj.ite (fun _=>bj.on _ hq _ _ (Nat.le_succ _) fun _=>by rw [hi]) fun _=> ?_
    exact(i3 _ _ _ hq).bind fun s u u' hu=>bj.same fun b9 _=>i2 _ _ _ _ _ hu
   have:=bj.wl E hq (F:=fun q=>(q.is [125]).bind fun b=>if b && (body || (ls.length:Int)==0)then some ((out,ls),{q with i:=q.i+1})else(Rd.stmt m n nest q).bind fun s=>(push 209 out {s.1 with labels:=ls}).bind fun out=>Rd.fE m n nest body out s.2)
    (G:=fun q=>(q.is [125]).bind fun b=>if b && (body || (ls.length:Int)==0)then some ((out,ls),{q with i:=q.i+1})else(Rd.stmt m n nest q).bind fun s=>(push 209 out {s.1 with labels:=ls}).bind fun out=>Rd.fE m n nest body out s.2) fun q' hq nr=>by
     unfold Rd.is
     rw [Option.bind_assoc,Option.bind_assoc]
     refine bj.A5 nr fun t t' ht nw x=> ?_
     rw [Option.bind_some,Option.bind_some]
     rcases x with te | ⟨hA,hN,x,x'⟩
     ·rw [te.k,te.x]
      exact go q' _ hq nr.i
     ·refine bj.void (go q' _ hq nr.i) fun p hp hc=> ?_
      rcases hc with hc | ⟨Uf,py⟩
      ·exact hA hc
      ·split at hp
       ·cases hp
        dsimp only at py
        omega
       ·rw [Option.bind_eq_some_iff]at hp
        obtain⟨s,h1,hp⟩:=hp
        rw [Option.bind_eq_some_iff]at hp
        obtain⟨b9,_,hp⟩:=hp
        have:=Qt (MY ht x h1) hp
        rw [this]at Uf;cases Uf
   exact this
  ·refine bj.wl E h (F:=Rd.stmt m (n+1) nest) (G:=Rd.stmt m (n+1) nest) fun r' h nr=> ?_
   simp only [Rd.stmt]
   refine bj.ask (fun b hb _=>MX nr hb) fun b hb=>bj.ite (fun _=>pJ E h (by decide) _) fun hnb=> ?_
   rw [nr.n]
   refine bj.same fun k _=> ?_
   have hk:=h.aml k
   refine bj.ite (fun _=>(pJ E hk (by decide) _).from (Nat.le_refl _) id) fun _=> ?_
   have nk:xF N A {r with n:=k} {r' with n:=k}:=⟨nr.g,nr.i,rfl,nr.pk,nr.pk2⟩
   have hki:SR l l' N A {r with n:=k,i:=r.i+1} {r' with n:=k,i:=r'.i+1}:=by
    have:=hk.set (r.i+1) (Nat.le_succ _)
    dsimp only at this
    rw [nr.i]
    exact this
   refine bj.from (s:= {r with n:=k}) ?_ (Nat.le_refl _) id
   refine bj.A5 nk fun t t' ht nw q=> ?_
   have part : ∀ t:bA,bj l l' N A {r with n:=k} (if t.kind==1 then Rd.named m {r with n:=k}
    else if t.text == [105,102]then Rd.choice m n nest {r with n:=k,i:=r.i+1}
    else if t.text == [119,104,105,108,101]then(Rd.head m {r with n:=k,i:=r.i+1}).bind fun x=>(Rd.block m n nest x.2).bind fun b=>some (⟨0,6,[],[],[],x.1,false,[],b.1,[]⟩,b.2)
    else(Rd.plain m t.text {r with n:=k,i:=r.i+1}).bind fun s=>(s.2.want [59]).bind fun r=>some (s.1,r))
    (if t.kind==1 then Rd.named m {r' with n:=k}
    else if t.text == [105,102]then Rd.choice m n nest {r' with n:=k,i:=r'.i+1}
    else if t.text == [119,104,105,108,101]then(Rd.head m {r' with n:=k,i:=r'.i+1}).bind fun x=>(Rd.block m n nest x.2).bind fun b=>some (⟨0,6,[],[],[],x.1,false,[],b.1,[]⟩,b.2)
    else(Rd.plain m t.text {r' with n:=k,i:=r'.i+1}).bind fun s=>(s.2.want [59]).bind fun r=>some (s.1,r)):=by
    intro t
    refine bj.ite (fun _=>Qr E hk) fun _=>bj.from (s:= {r with n:=k,i:=r.i+1}) ?_ (Nat.le_succ _) id
    refine bj.ite (fun _=>i5 _ _ _ hki) fun _=>bj.ite (fun _=> ?_) fun _=> ?_
    ·exact(HN E hki).bind fun a s s' hs=>(i4 _ _ _ hs).bind fun b u u' hu=>bj.ret _ hu
    ·exact(Qs E hki).bind fun a s s' hs=>(fO E hs (by decide) (by decide)).bind fun u u' hu=>bj.ret _ hu
   rcases q with te | ⟨hA,hN,q,q'⟩
   ·rw [te.k,te.x]
    exact part t
   ·exfalso
    have ht:r.gi=some t:=ht
    have e1:(t.kind != 3)=true:=by rcases q with q | ⟨q,_⟩ <;> simp [q]
    simp only [Rd.nT,ht,Option.bind_some,q.k1,e1,Bool.false_eq_true, ↓reduceIte]at hb
    cases hb
    simp at hnb
  ·simp only [Rd.block]
   refine(fO E h (by decide) (by decide)).bind fun q q' hq=>bj.same fun k _=> ?_
   exact(i1 _ _ _ _ hq).bind fun a s s' hs=>bj.ret _ hs
  ·simp only [Rd.choice]
   refine(HN E h).bind fun a q q' hq=>(i4 _ _ _ hq).bind fun b s s' hs=> ?_
   refine(iY E hs (by decide) (by decide)).bind fun c u u' hu=>bj.ite (fun _=> ?_) fun _=>bj.ret _ hu
   exact(i4 _ _ _ hu).bind fun d v v' hv=>bj.ret _ hv
end
end Go.Abs

/-! Sim4 -/

namespace Go.Abs
section
variable {l l':List bA} {N:Nat} {A:Prop}
theorem MZ (E:Env l l' N A) : ∀ (n:Nat) (L:List Pm) (r r':Rd),SR l l' N A r r'→bj l l' N A r (Rd.params n L r) (Rd.params n L r'):=by
 intro n
 induction n with
 | zero=>intro L r r' _;simp only [Rd.params];exact bj.kE
 | succ n ih=>
  intro L r r' h
  simp only [Rd.params]
  refine bj.HL h (fun _=> ?_) fun _=>bj.ret _ h
  refine(iY E h (by decide) (by decide)).bind fun a q q' hq=>(n6 E hq _).bind fun b s s' hs=>bj.same fun L' _=> ?_
  exact(iY E hs (by decide) (by decide)).bind fun c u u' hu=>bj.ite (fun _=>bj.ret _ hu) fun _=>ih _ _ _ hu
theorem TX (E:Env l l' N A) {m:Nat} : ∀ (n:Nat) (L:List ay) (r r':Rd),SR l l' N A r r'→bj l l' N A r (Rd.vars m n L r) (Rd.vars m n L r'):=by
 intro n
 induction n with
 | zero=>intro L r r' _;simp only [Rd.vars];exact bj.kE
 | succ n ih=>
  intro L r r' h
  simp only [Rd.vars]
  refine(iY E h (by decide) (by decide)).bind fun a q q' hq=>bj.ite (fun _=> ?_) fun _=>bj.ret _ hq
  exact(Ez E _ _ _ _ hq).bind fun b s s' hs=>ih _ _ _ hs
theorem IM (E:Env l l' N A) {m:Nat} : ∀ (n:Nat) (L:List ay) (r r':Rd),SR l l' N A r r'→bj l l' N A r (Rd.globals m n L r) (Rd.globals m n L r'):=by
 intro n
 induction n with
 | zero=>intro L r r' _;simp only [Rd.globals];exact bj.kE
 | succ n ih=>
  intro L r r' h
  simp only [Rd.globals]
  refine(iY E h (by decide) (by decide)).bind fun a q q' hq=>bj.ite (fun _=> ?_) fun _=>bj.ret _ hq
  exact(Ez E _ _ _ _ hq).bind fun b s s' hs=>ih _ _ _ hs
theorem EC (E:Env l l' N A) {m:Nat} {name:ay} {ps:List Pm} {r r':Rd} (h:SR l l' N A r r'):bj l l' N A r (Rd.lQ m name ps r) (Rd.lQ m name ps r'):=by
 unfold Rd.lQ
 exact(TX E _ _ _ _ h).bind fun a q q' hq=>((Qu E _).1 _ _ _ _ hq).bind fun b s s' hs=>bj.ret _ hs
theorem TY (E:Env l l' N A) {m:Nat} {r r':Rd} (h:SR l l' N A r r'):bj l l' N A r (Rd.proc m r) (Rd.proc m r'):=by
 unfold Rd.proc
 refine(n6 E h _).bind fun a q q' hq=>(fO E hq (by decide) (by decide)).bind fun u u' hu=> ?_
 refine bj.ask (fun b hb hc=>EB E hu (by decide) (by decide) hb hc) fun b _=>bj.ite (fun _=> ?_) fun _=> ?_
 ·refine(MZ E _ _ _ _ hu).bind fun c s s' hs=>(fO E hs (by decide) (by decide)).bind fun v v' hv=> ?_
  exact(fO E hv (by decide) (by decide)).bind fun w w' hw=>EC E hw
 ·exact(fO E hu (by decide) (by decide)).bind fun v v' hv=>(fO E hv (by decide) (by decide)).bind fun w w' hw=>EC E hw
theorem M3 (E:Env l l' N True) {r r':Rd} (h:SR l l' N True r r') {b:Bool} (hb:r.rK=some b):r'.rK=some b:=by
 have hc:mj N True r:= .inl trivial
 unfold Rd.rK Rd.is at hb ⊢
 rw [h.xE hc]
 cases hg:r.good
 ·simp only [hg,Bool.false_eq_true, ↓reduceIte]at hb ⊢;exact hb
 ·simp only [hg, ↓reduceIte]at hb ⊢
  rw [Option.bind_eq_some_iff]at hb
  obtain⟨t,ht,hb⟩:=hb
  obtain⟨t',e,te⟩:=tV E h hc (.inl trivial) ht
  rw [e,Option.bind_some,te.k,te.x]
  exact hb
theorem M4 (E:Env l l' N True) {r r':Rd} (h:SR l l' N True r r') {b:Bool} (hb:r.oK=some b):r'.oK=some b:=by
 have hc:mj N True r:= .inl trivial
 unfold Rd.oK at hb ⊢
 rw [h.xE hc]
 cases hg:r.good
 ·simp only [hg,Bool.false_eq_true, ↓reduceIte]at hb ⊢;exact hb
 ·simp only [hg, ↓reduceIte]at hb ⊢
  rw [Option.bind_eq_some_iff]at hb
  obtain⟨t,ht,hb⟩:=hb
  obtain⟨t',e,te⟩:=tV E h hc (.inl trivial) ht
  rw [e,Option.bind_some,te.k]
  exact hb
theorem T1 (E:Env l l' N True) {m:Nat} : ∀ (n:Nat) (L:List Pc) (r r':Rd),SR l l' N True r r'→bj l l' N True r (Rd.procs m n L r) (Rd.procs m n L r'):=by
 intro n
 induction n with
 | zero=>intro L r r' _;simp only [Rd.procs];exact bj.kE
 | succ n ih=>
  intro L r r' h
  simp only [Rd.procs]
  refine bj.ask (fun b hb _=>M3 E h hb) fun b _=>bj.ite (fun _=>bj.ite (fun _=>pJ E h (by decide) _) fun _=> ?_) fun _=> ?_
  ·have R:=h (.inl trivial)
   rw [R.ei]
   refine bj.from (s:= {r with i:=r.i+1}) ?_ (Nat.le_succ _) id
   exact(TY E (h.set _ (Nat.le_succ _))).bind fun a q q' hq=>bj.same fun L' _=>ih _ _ _ hq
  ·exact bj.ask (fun b hb _=>M4 E h hb) fun b _=>bj.ite (fun _=>pJ E h (by decide) _) fun _=>bj.ret _ h
theorem IN (E:Env l l' N True) {m:Nat} {r r':Rd} (h:SR l l' N True r r'):bj l l' N True r (Rd.program m r) (Rd.program m r'):=by
 unfold Rd.program
 exact(IM E _ _ _ _ h).bind fun a q q' hq=>(T1 E _ _ _ _ hq).bind fun b s s' hs=>bj.ret _ hs
end
end Go.Abs

/-! MayLaw4 -/

namespace Go.Abs
theorem Cr : ∀ s:ay,qk (s.take (gm s))=true
 | []=>rfl
 | c::r=>by
  simp only [gm]
  split
  ·rename_i h
   rw [List.take_succ_cons]
   have:(!(mq c) && !(j9 c))=false:=by
    cases h1:mq c <;> cases h2:j9 c <;> simp [h1,h2]at h ⊢
   simp only [qk,this,Bool.false_eq_true, ↓reduceIte]
   exact Cr r
  ·rfl
theorem HO : ∀ (s:ay) (a n:Int),qj a s=some n→0≤a→(∀ c∈s,j9 c=true)→0≤n
 | [],a,n,h,ha,_=>by simp only [qj]at h;cases h;exact ha
 | c::r,a,n,h,ha,hd=>by
  simp only [qj]at h
  split at h
  ·cases h
  ·have hcd:=hd c (List.mem_cons_self ..)
   simp only [j9,Bool.and_eq_true,decide_eq_true_eq]at hcd
   exact HO r _ n h (by omega) fun x hx=>hd x (List.mem_cons_of_mem _ hx)
theorem ED : ∀ s:ay,∀ c∈s.take (lB s),j9 c=true
 | [],c,h=>by simp at h
 | d::s,c,h=>by
  simp only [lB]at h
  split at h
  ·rename_i hd
   rw [List.take_succ_cons]at h
   rcases List.mem_cons.1 h with rfl | h
   ·exact hd
   ·exact ED s c h
  ·simp at h
theorem XL {pos:Nat} {s:ay} {t:bA} (h:kA pos s = .inl t):(t.kind=1→isName t.text=true)∧(t.kind=2→0≤t.n)∧1≤t.kind:=by
 cases s with
 | nil=>simp only [kA]at h;cases h
 | cons c r=>
  simp only [kA]at h
  cases hL:mq c
  ·simp only [hL,Bool.false_eq_true, ↓reduceIte]at h
   cases hD:j9 c
   ·simp only [hD,Bool.false_eq_true, ↓reduceIte]at h
    split at h
    ·cases h
    ·cases h;simp
   ·simp only [hD, ↓reduceIte]at h
    split at h
    ·cases h
    ·split at h
     ·rename_i n hw
      cases h
      exact⟨by simp,fun _=>HO _ _ _ hw (by omega) (ED _),by simp⟩
     ·cases h
  ·simp only [hL, ↓reduceIte]at h
   split at h
   ·cases h
   ·rename_i h8
    cases h
    refine⟨fun hk=> ?_,fun hk=> ?_, ?_⟩
    ·dsimp only at hk ⊢
     have hw:isWord ((c::r).take (gm (c::r)))=false:=by
      cases hx:isWord ((c::r).take (gm (c::r)))
      ·rfl
      ·rw [hx]at hk;simp at hk
     have e:gm (c::r)=gm r+1:=by simp [gm,hL]
     rw [e,List.take_succ_cons]at hw h8 ⊢
     have hn:=Cr r
     have e8:decide (((List.take (gm r) r).length+1:Nat) > (8:Int))=false:=by
      simp only [List.length_cons]at h8
      simp only [decide_eq_false_iff_not];omega
     simp only [isName,e8,hL,hn,hw,Bool.not_true,Bool.or_self,Bool.false_eq_true, ↓reduceIte,Bool.not_false]
    ·dsimp only at hk;split at hk <;> omega
    ·dsimp only;split <;> omega
theorem Lx.tk {pos:Nat} {s:ay} {l:List bA} (h:Lx pos s l) : ∀ t∈l,(t.kind=1→isName t.text=true)∧(t.kind=2→0≤t.n)∧1≤t.kind:=by
 induction h with
 | nil=>simp
 | blank pos c r l h k ih=>exact ih
 | rem pos c r l h h2 k ih=>exact ih
 | tok pos c r t l h h2 ht k ih=>
  intro u hu
  rcases List.mem_cons.1 hu with rfl | hu
  ·exact XL ht
  ·exact ih u hu
theorem Lx.tks {s:ay} {l:List bA} {n:Nat} (h:Lx 0 s l):mh (l++ [HI n]):=by
 intro t ht
 rcases List.mem_append.1 ht with h1 | h1
 ·exact⟨(h.tk t h1).1,(h.tk t h1).2.1⟩
 ·simp at h1;subst h1;simp [HI]
def FOk (L:List bA) (c jk:Int):Prop:=c=0∧jk=0∨(c=3∨c=4)∧∃ t∈L,t.pos=jk
theorem Qv (l:List bA):Env l l 0 True:=⟨fun i t ht _=>⟨t,ht,rfl,rfl,rfl⟩,fun f=>absurd trivial f⟩
theorem T2 (l:List bA):SR l l 0 True (tN l) (tN l):=fun _=>⟨rfl,rfl,rfl,rfl,rfl, .inl rfl⟩
theorem IP {m:Nat} {text:ay} {p:Pg} {c jk:Int} (h:oW m text=some (p,c,jk)) (h0:(fV text).2.1=0):FOk (fV text).1 c jk∧(c=0→p.may=true):=by
 obtain⟨l,hl,hlen,gQ,e⟩:=Qp h0
 unfold oW at h
 rw [e]at h ⊢
 have Bq:((0:Int) != 0)=false:=rfl
 simp only [Bq,Bool.false_eq_true, ↓reduceIte]at h
 rw [Option.bind_eq_some_iff]at h
 obtain⟨P,hP,h⟩:=h
 obtain⟨_,_,m3⟩:=IN (Qv _) (T2 _) P hP
 obtain⟨q',_,R⟩:=m3 (.inl trivial)
 split at h
 ·rename_i hc
  cases h
  simp only [bne_iff_ne,ne_eq]at hc
  refine⟨.inr ?_,fun h=>absurd h hc⟩
  rcases R.ef with f | ⟨Br,j,t,t',g1,g2,g3,g4⟩
  ·exact absurd f hc
  ·exact⟨Br,t,List.mem_of_getElem? g1,g3.symm⟩
 ·rename_i hc
  rw [Option.bind_eq_some_iff]at h
  obtain⟨q,h3,h⟩:=h
  unfold Pg.vV at h3
  split at h3
  ·cases h3
   cases h
   exact⟨.inl ⟨rfl,rfl⟩,fun _=>(IK hl.tks hP (by simpa [Rd.good]using hc)).1⟩
  ·cases h3
end Go.Abs

/-! Full2 -/

namespace Go.Abs
set_option maxRecDepth 8000
open Go.Proofs
mutual
def Ex.nodes:Ex→Nat
 | ⟨_,_,_,kids⟩=>1+Ex.Qw kids
def Ex.Qw:List Ex→Nat
 | []=>0
 | x::l=>x.nodes+Ex.Qw l
end
mutual
def M5:Ex→Int→Int
 | ⟨_,_,_,kids⟩,dL=>VR kids dL 1
def VR:List Ex→Int→Int→Int
 | [],_,n=>n
 | x::l,dL,n=>if n≤dL then VR l dL (n+M5 x (dL - n))else n
end
end Go.Abs

/-! Binds1 -/

namespace Go.Abs
set_option maxRecDepth 8000
open Go.Proofs
def Cs (n:Int):List D:= [.int .i64 n]
theorem ad6 (n:Int):D.bT 0 0 (Cs n)=true:=rfl
theorem abl (n m:Nat) (l:List Int):D.jv n m (l.map Cs)=l.map Cs:=lY ad6 n m l
attribute [go_sem] Cs abl
def sX (op:Int):ay:=
 if op=5 then [42]else if op=6 then [47]else if op=7 then [37]else if op=8 then [43]else if op=9 then [45]else if op=10 then [60]else if op=11 then [60,61]
 else if op=12 then [62]else if op=13 then [62,61]else if op=14 then [61,61]else if op=15 then [33,61]else if op=16 then [38,38]else [124,124]
def gd (op:Int):Int:=(ZU (sX op)).1
theorem atY {op:Int} (h:(decide (5≤op) && decide (op≤17))=true):op=5∨op=6∨op=7∨op=8∨op=9∨op=10∨op=11∨op=12∨op=13∨op=14∨op=15∨op=16∨op=17:=by
 simp only [Bool.and_eq_true,decide_eq_true_eq]at h;omega
def Qx:Nat→List ay
 | 0=> []
 | n+1=>Qx n++ [[UInt8.ofNat (97+n)]]
end Go.Abs

/-! Full3 -/

namespace Go.Abs
set_option maxRecDepth 8000
open Go.Proofs
def T3:Nat→Nat→ay
 | 0,_=> []
 | f+1,n=>if n<10 then [UInt8.ofNat (48+n)]else T3 f (n / 10)++ [UInt8.ofNat (48+n % 10)]
end Go.Abs

/-! Full4 -/

namespace Go.Abs
set_option maxRecDepth 8000
open Go.Proofs
inductive qv:Ex→Prop
 | num (n:Int) (h0:0≤n) (h1:n≤9223372036854775807):qv ⟨1,n,[],[]⟩
 | name (t:ay) (h:isName t=true):qv ⟨2,0,t,[]⟩
 | neg (y:Ex) (h:qv y):qv ⟨3,0,[],[y]⟩
 | no (y:Ex) (h:qv y):qv ⟨4,0,[],[y]⟩
 | two (op:Int) (a b:Ex) (ho:(decide (5≤op) && decide (op≤17))=true) (ha:qv a) (hb:qv b):qv ⟨op,0,[],[a,b]⟩
mutual
def Fu:Ex→ay
 | ⟨op,n,name,kids⟩=>ad7 op n name kids
def ad7 (op n:Int) (name:ay):List Ex→ay
 | []=>if op=2 then name else T3 20 n.toNat
 | [a]=>if op=3 then [40,45]++Fu a++ [41]else [40,33]++Fu a++ [41]
 | a::b::_=> [40]++Fu a++sX op++Fu b++ [41]
end
end Go.Abs

/-! Prim -/

namespace Go.Abs
open Go.Proofs
end Go.Abs

/-! Prim2 -/

namespace Go.Abs
open Go.Proofs Go.RowKit
def Fv (l:ay):List (List D):=l.map fun c=> [.int .u8 c.toNat]
end Go.Abs

/-! Pr1 -/

namespace Go.Abs
open Go.Proofs
mutual
def rW (least:Int):Ex→ay
 | ⟨op,n,name,kids⟩=>prK least op n name kids
def prK (least op n:Int) (name:ay):List Ex→ay
 | []=>if op=2 then name else T3 20 n.toNat
 | [a]=>if op=3 then [45]++rW 7 a else [33]++rW 7 a
 | a::b::_=>if gd op<least then [40]++(rW (gd op) a++ [32]++sX op++ [32]++rW (gd op+1) b)++ [41]else rW (gd op) a++ [32]++sX op++ [32]++rW (gd op+1) b
end
def prT (op:Int) (a b:Ex):ay:=rW (gd op) a++ [32]++sX op++ [32]++rW (gd op+1) b
def atw (x:Ex):ay:=if x.may then rW 0 x else []
end Go.Abs

/-! Binds2 -/

namespace Go.Abs
open Go.Proofs
def amm (names:List ay) (ops:List Int):Nat→ay
 | 0=> []
 | i+1=>amm names ops i++(if i=0 then []else sX (ops.getD (i - 1) 0))++names.getD i []
structure atZ (names:List ay) (ops:List Int):Prop where
 len:names.length=ops.length+1
 dL:ops.length≤20
 short : ∀ x∈names,x.length≤1
 op : ∀ o∈ops,(decide (5≤o) && decide (o≤17))=true
def ad8 (i:Nat) (op:Int) (al:Nat×Int):Nat×Int:=if gd op≤al.2 then(i,gd op)else al
def JM:List Int→Nat→Nat×Int→Nat×Int
 | [],_,al=>al
 | op::r,i,al=>JM r (i+1) (ad8 i op al)
def Qy:Nat→List ay→List Int→Ex
 | 0,_,_=>iG
 | n+1,names,ops=>if ops.length=0 then jt (names.getD 0 [])else
  rj (ops.getD (JM ops 0 (0,9)).1 0) (Qy n (names.take ((JM ops 0 (0,9)).1+1)) (ops.take (JM ops 0 (0,9)).1)) (Qy n (names.drop ((JM ops 0 (0,9)).1+1)) (ops.drop ((JM ops 0 (0,9)).1+1)))
end Go.Abs

/-! BindsL -/

namespace Go.Abs
inductive tW:Ex→List (Int×ay)→Ex→Prop
 | nil (x:Ex):tW x [] x
 | cut (x:Ex) (p1:List (Int×ay)) (op:Int) (y:ay) (p2:List (Int×ay)) (t1 t2:Ex) (h1:tW x p1 t1) (h2:tW (jt y) p2 t2) (l1 : ∀ q∈p1,gd op≤gd q.1) (l2 : ∀ q∈p2,gd op<gd q.1) :
  tW x (p1++(op,y)::p2) (rj op t1 t2)
def Ct:List (Int×ay)→List bA→Prop
 | [],l=>∃ t r,l=t::r∧t.kind=0
 | (op,y)::p,l=>∃ s u r,l=s::u::r∧s.kind=4∧s.text=sX op∧(decide (5≤op) && decide (op≤17))=true∧u.kind=1∧u.text=y∧Ct p r
def atx (n:Nat):Prop:=∀ (least:Int) (r:Rd) (t0:bA) (p:List (Int×ay)) (l:List bA) (x:Ex×Rd),r.l.drop r.i=t0::l→t0.kind=1→Ct p l→r.code=0→1≤least→Rd.two n least r=some x→
 ∃ p1 p2,p=p1++p2∧tW (jt t0.text) p1 x.1∧(∀ q∈p1,least≤gd q.1)∧(∀ q p',p2=q::p'→gd q.1<least)∧x.2 = {r with i:=r.i+1+2*p1.length}∧Ct p2 (l.drop (2*p1.length))
def amw (n:Nat):Prop:=∀ (least:Int) (x0:Ex) (A:List (Int×ay)) (x:Ex) (r:Rd) (p:List (Int×ay)) (l:List bA) (z:Ex×Rd),r.l.drop r.i=l→Ct p l→r.code=0→1≤least→tW x0 A x→
 (∀ q p',p=q::p'→∀ a∈A,gd q.1≤gd a.1)→Rd.jD n least x r=some z→
 ∃ p1 p2,p=p1++p2∧tW x0 (A++p1) z.1∧(∀ q∈p1,least≤gd q.1)∧(∀ q p',p2=q::p'→gd q.1<least)∧z.2 = {r with i:=r.i+2*p1.length}∧Ct p2 (l.drop (2*p1.length))
end Go.Abs

/-! BindsL2 -/

namespace Go.Abs
def AtB (d:List Int) (al:Nat×Int):Prop:=(d = []∧al.2=9)∨∃ o1 op o2,d=o1++op::o2∧o1.length=al.1∧gd op=al.2∧(∀ o∈o1,gd op≤gd o)∧∀ o∈o2,gd op<gd o
def ad9:List ay→List Int→ay
 | x::xs,op::ops=>sX op++(x++ad9 xs ops)
 | _,_=> []
def amn:ay→Prop
 | []=>True
 | c::_=>mq c=false∧j9 c=false
end Go.Abs

/-! Full5 -/

namespace Go.Abs
def sY (t:bA) (k:Int) (s:ay) (n:Int):Prop:=t.kind=k∧t.text=s∧t.n=n
inductive sZ:Ex→List bA→List bA→Prop
 | num (n:Int) (t:bA) (l:List bA) (h:t.kind=2) (h2:t.n=n):sZ ⟨1,n,[],[]⟩ (t::l) l
 | name (s:ay) (t:bA) (l:List bA) (h:t.kind=1) (h2:t.text=s):sZ ⟨2,0,s,[]⟩ (t::l) l
 | neg (y:Ex) (p m q:bA) (l r:List bA) (hp:sY p 4 [40] 0) (hm:sY m 4 [45] 0) (hy:sZ y l (q::r)) (hq:sY q 4 [41] 0):sZ ⟨3,0,[],[y]⟩ (p::m::l) r
 | no (y:Ex) (p m q:bA) (l r:List bA) (hp:sY p 4 [40] 0) (hm:sY m 4 [33] 0) (hy:sZ y l (q::r)) (hq:sY q 4 [41] 0):sZ ⟨4,0,[],[y]⟩ (p::m::l) r
 | two (op:Int) (a b:Ex) (p o q:bA) (l m r:List bA) (ho:(decide (5≤op) && decide (op≤17))=true) (hp:sY p 4 [40] 0) (ha:sZ a l (o::m)) (hs:sY o 4 (sX op) 0) (hb:sZ b m (q::r)) (hq:sY q 4 [41] 0) :
  sZ ⟨op,0,[],[a,b]⟩ (p::l) r
end Go.Abs

/-! Full6 -/

namespace Go.Abs
end Go.Abs

/-! Full7 -/

namespace Go.Abs
def Okd:ay→Prop
 | []=>False
 | d::_=>d≠61∧d≠38∧d≠124
end Go.Abs

/-! Pe1 -/

namespace Go.Abs
def Rd.mv (r:Rd) (k:Nat):Rd:= {r with i:=r.i+k}
structure At (r:Rd) (l:List bA):Prop where
 d:r.l.drop r.i=l
 c:r.code=0
 s:r.l.length<1000000000
def Kd (t:bA):Prop:=0≤t.kind∧t.kind≤4
def Halt (c:Int) (m:List bA):Prop:=∃ t m',m=t::m'∧Kd t∧((fw t).1=0∨(fw t).2≤c)
def at0 (x:Ex) (l:List bA):Prop:=∀ (r:Rd) (lr:List bA) (n:Nat),At r (l++lr)→3*l.length≤n+1→Rd.one n r=some (x,r.mv l.length)
def at1 (c:Int) (x:Ex) (l:List bA):Prop:=∀ (r:Rd) (lr:List bA) (n:Nat) (k:Int),At r (l++lr)→Halt c lr→k≤c→3*l.length≤n→∃ n',n≤n'+3*l.length∧Rd.two n k r=Rd.jD n' k x (r.mv l.length)
end Go.Abs

/-! Pe2 -/

namespace Go.Abs
def Am (least:Int):Ex→Nat
 | ⟨op,_,_,kids⟩=>match kids with
  | []=>1
  | [a]=>1+Am 7 a
  | a::b::_=>Am (gd op) a+1+Am (gd op+1) b+(if gd op<least then 2 else 0)
def LxS (s:ay) (pos:Nat) (l:List bA):Prop:=∀ r lr,amn r→Lx (pos+s.length) r lr→Lx pos (s++r) (l++lr)
def abm (l:List bA):Prop:=(∃ t l',l=t::l'∧(t.kind=2∨(t.kind=4∧(t.text = [40]∨t.text = [45]∨t.text = [33]))))∨(∃ t,l = [t]∧t.kind=1)∨∃ t u l',l=t::u::l'∧t.kind=1∧(decide (5≤(fw u).1) && decide ((fw u).1≤17))=true
def Ends (m:List bA):Prop:=∃ t m',m=t::m'∧Kd t∧(fw t).1=0
def XN (x:Ex) (l:List bA):Prop:=∀ (r:Rd) (lr:List bA) (n:Nat),At r (l++lr)→Ends lr→3*l.length<n→Rd.whole n r=some (x,r.mv l.length)
end Go.Abs

/-! Bld -/

namespace Go.Abs
open Go.Proofs
theorem aeb (n m:Nat) (l:ay):D.ja n m (Fv l)=true:=by
 simp [Fv,Bu,yz,D.ok]
theorem aec (n m:Nat) (l:ay):D.jv n m (Fv l)=Fv l:=By n m _ (aeb 0 0 l)
attribute [go_sem] aec
def rk (n:Nat) (m:ay):ay:=List.replicate n 32++m++ [10]
end Go.Abs

/-! Pr2 -/

namespace Go.Abs
open Go.Proofs
def zh:List ay→ay
 | []=> []
 | s::l=>s++ [58,32]++zh l
def amo (a:Ar):ay:=if a.ref then [114,101,102,32]++a.name else rW 0 a.x
def aed (name proc:ay) (args:List Ar):ay:=(if name = []then []else name++ [32,61,32])++(proc++ [40]++Lib.join (args.map amo) [44,32]++ [41])
def Qz (kind:Int) (name proc:ay) (x:Ex) (has:Bool) (args:List Ar):ay:=
 if kind=1 then name++ [32,61,32]++rW 0 x else if kind=2 then [114,101,97,100,32]++name else if kind=3 then [112,114,105,110,116,32]++rW 0 x else if kind=7 then [98,114,101,97,107]else if kind=8 then [99,111,110,116,105,110,117,101]
 else if kind=10 then [103,111,116,111,32]++name else if kind=9 then(if has then [114,101,116,117,114,110,32]++rW 0 x else [114,101,116,117,114,110])else aed name proc args
structure Sm.PrO (s:Sm):Prop where
 x:s.lC=true→qv s.x
 Vs : ∀ t∈s.labels,t.length≤8
 name:s.name.length≤8
 proc:s.proc.length≤8
 args : ∀ a∈s.args,a.name.length≤8∧(a.ref=false→qv a.x)
 kind:1≤s.kind∧s.kind≤10
 aX:s.kind=6→s.aX = []
end Go.Abs

/-! Pr3 -/

namespace Go.Abs
open Go.Proofs
mutual
def amp (b5:Nat):Sm→ay
 | ⟨id,kind,labels,name,proc,x,has,args,a7,aX⟩=>
  if kind=6 then rk b5 (zh labels++ [119,104,105,108,101,32,40]++rW 0 x++ [41,32,123])++xG (b5+1) a7++rk b5 [125]
  else if kind=5 then rk b5 (zh labels++ [105,102,32,40]++rW 0 x++ [41,32,123])++xG (b5+1) a7++(if aX.length=0 then []else rk b5 [125,32,101,108,115,101,32,123]++xG (b5+1) aX)++rk b5 [125]
  else rk b5 (zh labels++Qz kind name proc x has args++ [59])
def xG (b5:Nat):List Sm→ay
 | []=> []
 | s::l=>amp b5 s++xG b5 l
end
mutual
def Sm.PrR (b5:Nat):Sm→Prop
 | ⟨id,kind,labels,name,proc,x,has,args,a7,aX⟩=>Sm.PrO ⟨id,kind,labels,name,proc,x,has,args,a7,aX⟩∧b5≤12∧Sm.M7 (b5+1) a7∧Sm.M7 (b5+1) aX
def Sm.M7 (b5:Nat):List Sm→Prop
 | []=>True
 | s::l=>s.PrR b5∧Sm.M7 b5 l
end
def ll (l:ay):Nat:=l.length
end Go.Abs

/-! Own -/

namespace Go.Abs
end Go.Abs

/-! Pr4 -/

namespace Go.Abs
open Go.Proofs
def abn (a:Pm):ay:=(if a.ref then [114,101,102,32]else [])++a.name
def aee (f:Pc):ay:=
 rk 0 ([112,114,111,99,32]++f.name++ [40]++Lib.join (f.params.map abn) [44,32]++ [41,32,123])++(if f.vars.length=0 then []else rk 1 ([118,97,114,32]++Lib.join f.vars [44,32]++ [59]))++xG 1 f.body++rk 0 (zh f.fin++ [125])
def QA:List Pc→ay
 | []=> []
 | f::l=>aee f++QA l
def abo (l:List ay):ay:=if l.length=0 then []else rk 0 ([103,108,111,98,97,108,32]++Lib.join l [44,32]++ [59])
def at2 (p:Pg):ay:=abo p.globals++QA p.procs
structure Pc.PrP (f:Pc):Prop where
 name:f.name.length≤8
 params : ∀ a∈f.params,a.name.length≤8
 vars : ∀ t∈f.vars,t.length≤8
 fin : ∀ t∈f.fin,t.length≤8
 body:Sm.M7 1 f.body
structure Pg.PrG (p:Pg):Prop where
 globals : ∀ t∈p.globals,t.length≤8
 procs : ∀ f∈p.procs,f.PrP
end Go.Abs

/-! Ps1 -/

namespace Go.Abs
def LxF (s:ay) (pos:Nat) (l:List bA):Prop:=∀ r lr,Lx (pos+s.length) r lr→Lx pos (s++r) (l++lr)
def tSg (c:UInt8) (pos:Nat):bA:=⟨4,[c],0,(pos:Nat)⟩
def tNm (t:ay) (pos:Nat):bA:=⟨1,t,0,(pos:Nat)⟩
def tWd (t:ay) (pos:Nat):bA:=⟨3,t,0,(pos:Nat)⟩
inductive M8 {α:Type} (G:α→List bA→Prop):List α→List bA→Prop
 | one (x:α) (l:List bA) (h:G x l):M8 G [x] l
 | cons (x:α) (l:List bA) (c:bA) (hc:c.kind=4∧c.text = [44]) (xs:List α) (m:List bA) (h:G x l) (k:M8 G xs m):M8 G (x::xs) (l++c::m)
end Go.Abs

/-! Ps2 -/

namespace Go.Abs
def VS (t:ay) (l:List bA):Prop:=∃ k:bA,l = [k]∧k.kind=1∧k.text=t
def atC (a:Pm) (l:List bA):Prop:=if a.ref then ∃ w k:bA,l = [w,k]∧w.kind=3∧w.text = [114,101,102]∧k.kind=1∧k.text=a.name else VS a.name l
def auH (a:Ar) (l:List bA):Prop:=if a.ref then ∃ w k:bA,l = [w,k]∧w.kind=3∧w.text = [114,101,102]∧k.kind=1∧k.text=a.name else XN a.x l∧abm l∧l.length=Am 0 a.x
def arZ (a:Ar):Ar:=if a.ref then⟨true,a.name,iG⟩else⟨false,[],a.x⟩
inductive M9:List ay→List bA→Prop
 | nil:M9 [] []
 | cons (t c:bA) (ls:List ay) (m:List bA) (ht:t.kind=1) (hc:c.kind=4) (yq:c.text = [58]) (h:M9 ls m):M9 (t.text::ls) (t::c::m)
def at3 (l:List bA):Prop:=∃ t l',l=t::l'∧Kd t∧(t.kind≠1∨∃ u m,l'=u::m∧(u.kind≠4∨u.text≠ [58]))
end Go.Abs

/-! PrMay -/

namespace Go.Abs
end Go.Abs

/-! Pr5 -/

namespace Go.Abs
set_option maxRecDepth 8000
open Go.Proofs
def at4 (x:Ex):Int:=if iO x.op<2 then 7 else gd x.op
def aef (sep:ay):Nat→List ay→ay
 | _,[]=> []
 | k,a::l=>(if k=0 then []else sep)++(a++aef sep (k+1) l)
end Go.Abs

/-! Pr6 -/

namespace Go.Abs
set_option maxRecDepth 8000
open Go.Proofs
def aeg (s:Sm):ay:=if s.kind=6 then [119,104,105,108,101,32,40]++rW 0 s.x++ [41,32,123]else if s.kind=5 then [105,102,32,40]++rW 0 s.x++ [41,32,123]else Qz s.kind s.name s.proc s.x s.has s.args++ [59]
end Go.Abs

/-! Pr7 -/

namespace Go.Abs
set_option maxRecDepth 8000
open Go.Proofs
end Go.Abs

/-! Ps3 -/

namespace Go.Abs
mutual
def Sm.z:Sm→Sm
 | ⟨_,kind,labels,name,proc,x,has,args,a7,aX⟩=>⟨0,kind,labels,name,proc,x,has,args,Sm.zs a7,Sm.zs aX⟩
def Sm.zs:List Sm→List Sm
 | []=> []
 | s::l=>s.z::Sm.zs l
end
structure auI (s:Sm):Prop where
 Vs:bX s.labels=true
 x:s.lC=true→s.x.may=true
 x0:s.lC=false→s.x=iG
 has:s.has=true→s.kind=9
 nm:s.hasName=true→isName s.name=true
 nm0:s.hasName=false→s.name = []∨(s.gV=true∧isName s.name=true)
 proc:s.gV=true→isName s.proc=true
 call:s.gV=false→s.proc = []∧s.args = []
 args:Ar.cY s.args=true
 a7:s.a7 = []∨s.kind=5∨s.kind=6
 aX:s.aX = []∨s.kind=5
 kind:1≤s.kind∧s.kind≤10
def at5 (b5:Nat) (s:Sm):ay:=aeg s++([10]++(if s.kind=5∨s.kind=6 then
 xG (b5+1) s.a7++((if s.kind=5∧s.aX.length≠0 then List.replicate b5 32++ [125,32,101,108,115,101,32,123,10]++xG (b5+1) s.aX else [])++(List.replicate b5 32++ [125,10]))else []))
def NoW (w:ay) (l:List bA):Prop:=∃ t l',l=t::l'∧Kd t∧((t.kind≠3∧t.kind≠4)∨t.text≠w)
abbrev abq (l:List bA):Prop:=NoW [101,108,115,101] l
def atD (nest:Int) (n0 n1:Nat) (s:Sm) (l:List bA):Prop:=∀ (r:Rd) (lr:List bA) (m n:Nat),At r (l++lr)→abq lr→r.n=n0→3*l.length<m→l.length≤n→
 Rd.stmt m n nest r=some ({s.z with labels:= []},{r.mv l.length with n:=n1})
end Go.Abs

/-! Ps4 -/

namespace Go.Abs
def argN (a:Ar):Nat:=if a.ref then 2 else Am 0 a.x
def Na {α:Type} (f:α→Nat):List α→Nat
 | []=>0
 | [a]=>f a
 | a::b::l=>f a+1+Na f (b::l)
def abr (kind:Int) (name:ay) (x:Ex) (has:Bool) (args:List Ar):Nat:=
 if kind=1 then Am 0 x+3 else if kind=2 then 3 else if kind=3 then Am 0 x+2 else if kind=7 then 2 else if kind=8 then 2 else if kind=10 then 3
 else if kind=9 then(if has then Am 0 x+2 else 2)else(if name = []then 0 else 2)+Na argN args+4
def at6 (l:List bA):Prop:=(∃ t u l',l=t::u::l'∧t.kind=1∧(u.kind≠4∨u.text≠ [58]))∨(∃ t l',l=t::l'∧t.kind=3∧t.text≠ [125]∧t.text≠ [101,108,115,101]∧t.text≠ [118,97,114])
end Go.Abs

/-! Ps5 -/

namespace Go.Abs
mutual
def aeh:Sm→Nat
 | ⟨_,kind,_,name,_,x,has,args,a7,aX⟩=>if kind=6 then Am 0 x+5+Cu a7 else if kind=5 then Am 0 x+5+Cu a7+(if aX.length=0 then 0 else Cu aX+3)else abr kind name x has args
def Cu:List Sm→Nat
 | []=>0
 | s::l=>2*s.labels.length+aeh s+Cu l
end
def atE (nest:Int) (n0 n1:Nat) (l:List Sm) (L:List bA):Prop:=∀ (fin:List ay) (F:List bA) (q:bA) (body:Bool) (r:Rd) (lr:List bA) (m n:Nat) (out:List Sm),M9 fin F→q.kind=4→q.text = [125]→(body=true∨fin = [])→
 At r (L++(F++q::lr))→r.n=n0→3*(L.length+F.length+1)<m→L.length+F.length+1≤n→out.length+l.length≤1000000→fin.length≤1000000→
 Rd.fE m n nest body out r=some ((out++Sm.zs l,fin),{r.mv (L.length+F.length+1)with n:=n1})
def atF (L:List bA):Prop:=∀ w,(w = [101,108,115,101]∨w = [118,97,114])→∀ lr,NoW w lr→NoW w (L++lr)
end Go.Abs

/-! Pr8 -/

namespace Go.Abs
set_option maxRecDepth 8000
open Go.Proofs
end Go.Abs

/-! Ps6 -/

namespace Go.Abs
def amq (a:Pm):Nat:=if a.ref then 2 else 1
def atG (w:ay) (l:List ay) (T:List bA):Prop:=(l = []∧T = [])∨∃ (t q:bA) (m:List bA),T=t::(m++ [q])∧t.kind=3∧t.text=w∧M8 VS l m∧q.kind=4∧q.text = [59]
def QB (l:List ay):Nat:=if l.length=0 then 0 else Na (fun _=>1) l+2
def atH (n0 n1:Nat) (f:Pc) (l:List bA):Prop:=∀ (r:Rd) (lr:List bA) (m:Nat),At r (l++lr)→r.n=n0→3*l.length+10<m→Rd.proc m r=some (⟨f.name,f.params,f.vars,Sm.zs f.body,f.fin⟩,{r.mv l.length with n:=n1})
def aei (f:Pc):Nat:=6+Na amq f.params+QB f.vars+Cu f.body+2*f.fin.length
end Go.Abs

/-! Ps7 -/

namespace Go.Abs
def Pc.z (f:Pc):Pc:=⟨f.name,f.params,f.vars,Sm.zs f.body,f.fin⟩
def Pg.z (p:Pg):Pg:=⟨p.globals,p.procs.map Pc.z⟩
def amx (n0:Nat) (l:List Pc) (L:List bA):Prop:=∀ (r:Rd) (e:bA) (m n:Nat) (out:List Pc),At r (L++ [e])→e.kind=0→r.n=n0→out.length+l.length≤16→3*L.length+10<m→l.length<n→
 ∃ n1,Rd.procs m n out r=some (out++l.map Pc.z,{r.mv L.length with n:=n1})
def QC:List Pc→Nat
 | []=>0
 | f::l=>aei f+QC l
def Pg.aC (p:Pg):Nat:=QB p.globals+QC p.procs
end Go.Abs

/-! Swap2 -/

namespace Go.Abs
end Go.Abs

/-! Swap1 -/

namespace Go.Abs
set_option maxRecDepth 8000
open Go.Proofs
end Go.Abs

/-! Swap3 -/

namespace Go.Abs
set_option maxRecDepth 8000
open Go.Proofs
abbrev atI (a b:ay) (N:Nat):Prop:=∀ l:List Sm,Sm.aR l<N→∀ s:St,aD Tryz.prog AH [.slice .shared 13 (l.map bh), .str a, .str b] s (.slice .shared 13 ((Sm.uY a b l).map bh)) s
end Go.Abs

/-! BeqEq -/

namespace Go.Abs
end Go.Abs

/-! LawPr7 -/

namespace Go.Abs
set_option maxRecDepth 8000
open Go.Proofs
end Go.Abs

/-! PLen -/

namespace Go.Abs
end Go.Abs

/-! Some -/

namespace Go.Abs
open Go.Proofs
def prB:Pc:=⟨[112],[⟨[120],false⟩,⟨[121],true⟩],[],[
 ⟨5,1,[],[121],[],rj 8 (jt [121]) (jt [120]),false,[],[],[]⟩,
 ⟨6,5,[],[],[],rj 12 (jt [121]) (u5 9),false,[],[⟨7,10,[],[101],[],iG,false,[],[],[]⟩],[]⟩,
 ⟨8,9,[],[],[],jt [121],true,[],[],[]⟩],[[101]]⟩
def stB:Sm:=⟨6,5,[],[],[],rj 12 (jt [121]) (u5 9),false,[],[⟨7,10,[],[101],[],iG,false,[],[],[]⟩],[]⟩
end Go.Abs

/-! Toks -/

namespace Go.Abs
set_option maxRecDepth 8000
open Go.Proofs
def JN:List Ar→Int
 | []=>0
 | a::l=>3+4*M5 a.x 2000+JN l
def VT (s:Sm):Int:=8+2*(s.labels.length:Int)+4*M5 s.x 2000+JN s.args
def HP:List It→Int
 | []=>0
 | i::l=>VT i.s+HP l
def VU:List Pm→Int
 | []=>0
 | a::l=>(if a.ref then 1 else 0)+VU l
def aej (f:Pc):Int:=6+2*(f.params.length:Int)+2*(f.fin.length:Int)+VU f.params - (if f.params.length=0 then 0 else 1)+(if f.vars.length=0 then 0 else 1+2*(f.vars.length:Int))+HP f.flat
def QD:List Pc→Int
 | []=>0
 | f::l=>aej f+QD l
def auJ (p:Pg):Int:=(if p.globals.length=0 then 0 else 1+2*(p.globals.length:Int))+QD p.procs
end Go.Abs

/-! Toks2 -/

namespace Go.Abs
mutual
def amr:Sm→Int
 | ⟨id,kind,labels,name,proc,x,has,args,a7,aX⟩=>VT ⟨id,kind,labels,name,proc,x,has,args,a7,aX⟩+HQ a7+HQ aX
def HQ:List Sm→Int
 | []=>0
 | s::l=>amr s+HQ l
end
end Go.Abs

/-! LawTurn -/

namespace Go.Abs
open Go.Proofs
end Go.Abs

/-! LawCk1 -/

namespace Go.Abs
set_option maxRecDepth 8000
open Go.Proofs
theorem EE {T:ay} {p:Pg} {jk:Int} (h:oW Fp T=some (p,0,jk)):p.may=true∧jk=0:=by
 have h0:(fV T).2.1=0:=by
  by_cases h0:(fV T).2.1=0
  ·exact h0
  ·unfold oW at h
   rw [if_pos (by simpa using h0)]at h
   simp only [Option.some.injEq,Prod.mk.injEq]at h
   rw [h.2]at h0
   exact absurd rfl h0
 obtain⟨f1,m1⟩:=IP h h0
 refine⟨m1 rfl, ?_⟩
 rcases f1 with ⟨_,h⟩ | ⟨h,_⟩
 ·exact h
 ·omega
theorem Nb {p:Pg} (h:p.may=true):p.scope.1=0∨p.scope.1=5:=by
 unfold Pg.scope
 rw [if_pos h]
 split
 ·exact .inr rfl
 ·generalize p.procs=l
  induction l with
  | nil=>exact .inl rfl
  | cons f l ih=>
   simp only [rR]
   repeat' split
   all_goals first | exact ih | exact .inr rfl | exact .inl rfl
theorem HR (c:Int) (o:Option Sm):(lh c o).1=0∨(lh c o).1=c:=by cases o <;> simp [lh]
theorem T4 (c:Int) (o:Option Int):(oV c o).1=0∨(oV c o).1=c:=by cases o <;> simp [oV]
theorem Nc {p:Pg} (h:p.may=true) (h2:(p.check.1==0)=false):5≤p.check.1∧p.check.1≤8:=by
 simp only [beq_eq_false_iff_ne,ne_eq]at h2
 unfold Pg.check at h2 ⊢
 split
 ·rename_i c1
  rw [if_pos c1]at h2
  split
  ·rename_i c2
   rw [if_pos c2]at h2
   split
   ·rename_i c3
    rw [if_pos c3]at h2
    have e:p.alias=lh 8 (Hj p p.pre):=by unfold Pg.alias;rw [if_pos c2]
    rw [e]at h2 ⊢
    rcases HR 8 (Hj p p.pre)with h | h <;> omega
   ·rename_i c3
    rw [if_neg c3]at h2
    have e:p.jump=oV 7 (xw p.procs):=by unfold Pg.jump;rw [if_pos c1]
    rw [e]at h2 ⊢
    rcases T4 7 (xw p.procs)with h | h <;> omega
  ·rename_i c2
   rw [if_neg c2]at h2
   have e:p.arity=lh 6 (Cb p p.pre):=by unfold Pg.arity;rw [if_pos c1]
   rw [e]at h2 ⊢
   rcases HR 6 (Cb p p.pre)with h | h <;> omega
 ·rename_i c1
  rw [if_neg c1]at h2
  rcases Nb h with h | h <;> omega
theorem Dz (text:ay) (s:St):aD Tryz.prog rL [.str text] s (.bool true) s:=by
 refine aD.pure ?_ rfl rfl s
 obtain⟨⟨p,c,jk⟩,h,ep⟩:=TJ (xA text)
 have h0:=fun s=>Qc s
 have hc:=fun s=>ad0 text s
 have hP:=fun s=>Jt h (Hx text) s
 have h1:=fun s=>JF h (fun e=>by subst e;exact EE h) ep (Hx text) s
 dsimp only at ep
 have e1 : ∀ x:Int,(x==x)=true:=fun x=>by simp
 have z0:((0:Int)==0)=true:=rfl
 have hz : ∀ s,aD Tryz.prog pC [.agg [.slice .shared 1 [], .slice .shared 5 []], .agg [.slice .full 0 [], .slice .full 0 []]] s (.bool (Pg.beq rI rI)) s:=fun s=>dT.yC (.cons (Wk.refl _) (.cons (Wk.agg (.cons (Wk.nil _ _ _) (.cons (Wk.nil _ _ _) .nil))) .nil)) (aaR (a:=rI) (b:=rI) (by decide) s)
 simp only [Pg.beq_refl]at hz
 have b0:(c != 0) = !(c==0):=rfl
 rcases Bool.eq_false_or_eq_true (c==0)with b1 | b1
 case inr=>
  have e:qq p c jk=(rI,c,jk):=by unfold qq;rw [b1];rfl
  rw [e]at h1
  rw [b1]at b0
  generalize xA text=T at *
  clear h
  unfold S0
  refine aD.go mK rfl fun B Q hB hQ=> ?_
  have⟨hC,hE,hF,hM⟩:=bL
  repeat' (first
 | simp only [go_sem,hC,hE,hF,hM,e1,b0,kB,Bool.not_false]
 | (with_reducible refine CU (h0 _) ?_)
 | (with_reducible refine CU (hc _) ?_)
 | (with_reducible refine CU (hP _) ?_)
 | (with_reducible refine CU (h1 _) ?_)
 | (with_reducible refine CU (hz _) ?_)
 | (with_reducible refine aH hQ ?_;simp only [aA,aB,Option.some.injEq,exists_eq_left',go_sem,hC,hE,hF,hM];repeat' (first | exact Ok.out | with_reducible refine aJ ?_ ?_ | (simp;done))))
 have VQ:c=0:=by simpa using b1
 subst VQ
 obtain⟨hm,hf⟩:=EE h
 subst hf
 have ho:p.kc:=⟨uS hm (by omega),by omega⟩
 have h2:=fun s=>Cl ho s
 have h3:=fun s=>P0 ho s
 rcases Bool.eq_false_or_eq_true (p.check.1==0)with b2 | b2
 case inr=>
  have e:qq p 0 0=(rI,p.check):=by unfold qq;rw [b2];rfl
  rw [e]at h1
  rw [b1]at b0
  obtain⟨d1,d2⟩:=Nc hm b2
  have d3:decide (p.check.1≥5)=true:=by simpa using d1
  have d4:decide (p.check.1≤8)=true:=by simpa using d2
  generalize xA text=T at *
  clear h
  unfold S0
  refine aD.go mK rfl fun B Q hB hQ=> ?_
  have⟨hC,hE,hF,hM⟩:=bL
  repeat' (first
 | simp only [go_sem,hC,hE,hF,hM,e1,b0,b2,d3,d4,kB,Bool.not_false,Bool.not_true]
 | (with_reducible refine CU (h0 _) ?_)
 | (with_reducible refine CU (hc _) ?_)
 | (with_reducible refine CU (hP _) ?_)
 | (with_reducible refine CU (h1 _) ?_)
 | (with_reducible refine CU (h2 _) ?_)
 | (with_reducible refine CU (h3 _) ?_)
 | (with_reducible refine CU (hz _) ?_)
 | (with_reducible refine aH hQ ?_;simp only [aA,aB,Option.some.injEq,exists_eq_left',go_sem,hC,hE,hF,hM];repeat' (first | exact Ok.out | with_reducible refine aJ ?_ ?_ | (simp;done))))
 have e:qq p 0 0=(p,0,0):=by unfold qq;rw [b2];rfl
 rw [e]at h1
 rw [b1]at b0
 have h4:=fun s=>aaR (a:=p) (b:=p) (by omega) s
 rw [Pg.beq_refl]at h4
 generalize xA text=T at *
 clear h
 unfold S0
 refine aD.go mK rfl fun B Q hB hQ=> ?_
 have⟨hC,hE,hF,hM⟩:=bL
 repeat' (first
 | simp only [go_sem,hC,hE,hF,hM,e1,z0,b0,b2,kB,Bool.not_false,Bool.not_true]
 | (with_reducible refine CU (h0 _) ?_)
 | (with_reducible refine CU (hc _) ?_)
 | (with_reducible refine CU (hP _) ?_)
 | (with_reducible refine CU (h1 _) ?_)
 | (with_reducible refine CU (h3 _) ?_)
 | (with_reducible refine CU (h4 _) ?_)
 | (with_reducible refine aH hQ ?_;simp only [aA,aB,Option.some.injEq,exists_eq_left',go_sem,hC,hE,hF,hM];repeat' (first | exact Ok.out | with_reducible refine aJ ?_ ?_ | (simp;done))))
end Go.Abs

/-! Join -/

namespace Go.Abs
open Go.RowKit Go.ChangeShapes Go.WideShapes
def Nd (w:World) (b o:Nat):Option Value:=
 match w.cell? ⟨b,o,none⟩with
 | some v=>if v.oneCell'=true then some v else none
 | none=>none
theorem XO {w:World} (b o:Nat) (v:Value) (h:Nd w b o=some v):w.cell? ⟨b,o,none⟩=some v∧v.oneCell'=true:=by
 unfold Nd at h
 split at h
 ·split at h
  ·cases h;exact⟨‹_›, ‹_›⟩
  ·cases h
 ·cases h
def abt (w:World):Map:=⟨Nd w,fun _=>(0, .any),fun _=>none⟩
theorem Kept.sameAt {w w':World} (h:Kept w w') {p:MemPlace} (hp:p.block<w.heap.size):w.sameAt w' p:=by
 have hk:=h.1.2.2 p.block hp
 cases p with
 | cell b off=>
  simp only [MemPlace.block]at hk hp
  simp only [World.sameAt,World.cell?]
  split at hk
  ·rename_i c t fr c' t' fr' e e'
   rw [e,e']
   simp only [hk.2.2.2 off (fun f=>f)]
  ·rename_i es clock xK abu e e'
   rw [e,e']
  ·rw [hk]
 | map b=>
  simp only [MemPlace.block]at hk hp
  simp only [World.sameAt]
  split at hk
  ·rename_i c t fr c' t' fr' e e'
   rw [e,e']
   obtain⟨rfl,rfl,hs,hc⟩:=hk
   have:c'=c:=by
    apply Array.ext_getElem?
    intro i
    exact hc i (fun f=>f)
   rw [this]
  ·rename_i es clock xK abu e e'
   rcases hk with f | ⟨rfl,rfl⟩
   ·exact f.elim
   ·rw [e,e']
  ·exact hk
section
variable {P:Program} {H:Type} {enc:TypeId×Value→H} {T:TypeId→Prop}
theorem Cv (K:Kids P T) (hz : ∀ {t e:TypeId},T t→P.underlying t=some (.slice e)→0<P.cellsOf e) {W W':World} (hk:Kept W W') {sp:Nat→Bool} :
 ∀ {ts:List TypeId} {vs:List Value} {ds:List (DataW H)} {ps:List MemPlace},(∀ t∈ts,T t)→(∀ p∈ps,p.block<W.heap.size)→(∀ p∈ps,sp p.block=true)→
  DataW.TrodAll enc P W 0 (fun _=>true) true ts vs ds ps→DataW.TrodAll enc P W' 0 sp true ts vs ds ps
 | [],[],[],_,_,_,_,h=>h
 | t::ts,v::vs,d::ds,ps,hT,hC,hs,⟨p,q,⟨n,h1⟩,h2,e⟩=>by
  subst e
  refine⟨p,q,⟨n,DataW.trod_stays K hz (fun f=>by cases f) (hT t (List.mem_cons_self ..)) h1 (fun x hx=>hk.sameAt (hC x (List.mem_append_left _ hx))) (fun x hx=>hs x (List.mem_append_left _ hx))⟩, ?_,rfl⟩
  exact Cv K hz hk (fun t ht=>hT t (List.mem_cons_of_mem _ ht)) (fun x hx=>hC x (List.mem_append_right _ hx)) (fun x hx=>hs x (List.mem_append_right _ hx)) h2
 | [],[],_::_,_,_,_,_,h=>h.elim
 | [],_::_,_,_,_,_,_,h=>h.elim
 | _::_,[],_,_,_,_,_,h=>h.elim
 | _::_,_::_,[],_,_,_,_,h=>h.elim
theorem T5 (K:Kids P T) (hz : ∀ {t e:TypeId},T t→P.underlying t=some (.slice e)→0<P.cellsOf e) {f:Func} {s:ChangeSpec} {apart fresh handsOn again:Bool} {tb:TypeId} {W W':World} {args:Array Value} {ds gs:List (DataW H)} {before:List MemPlace}
 (hT : ∀ t∈f.params.toList,T t) (hb:P.underlying tb=some .bool) (hr:f.resultTypes = #[tb]) (Co:s.vars = []) (hW:DataW.Whole enc P f.params.toList s.vars apart W args.toList ds gs before)
 (xW:s.fn H (ds++gs) = {results:= [.lit (.bool true)],args:=ds}) (hk:Kept W W'):s.post enc P f apart fresh handsOn again W args (.bool true) W':=by
 have hW':=hW
 have hC : ∀ p∈before,p.block<W.heap.size:=fun p hp=>hW.lt p hp
 obtain⟨p,q,hA,hV,rfl,hfz,hnd⟩:=hW
 rw [Co]at hV
 obtain⟨rfl,rfl⟩:=trodVars_none hV
 simp only [List.append_nil]at hC xW
 refine HA (pa:=p) (pv:= []) hW' (fun b sp hd=> ?_) (fun sp zZ=> ?_) (fun sp zZ=> ?_) rfl hk (ok_one hr rfl (okWide_bool_mk hb _))
 ·rw [List.append_nil,xW,hr]
  exact trodAll_cons_mk (shut_bool hb _) trodAll_mk0
 ·rw [List.append_nil,xW]
  simp only [List.append_nil]at zZ
  exact Cv K hz hk hT hC zZ hA
 ·rw [List.append_nil,xW,Co]
  rfl
theorem XP {f:FuncId} {args:List D} {fD:Array Value} {w:World} (h:dT P f args S0 fun d _=>d = .bool true) (hl:fD.size=args.length)
 (ha : ∀ (i:Nat) (d:D) (v:Value),args[i]? = some d→fD[i]? = some v→RD (abt w) S0 d v) (kH:MP w):Calls P f fD w fun e w'=>e = .returned (.bool true)∧Kept w w':=
 P9 (G:=Nd w) h XO hl ha kH
end
end Go.Abs

/-! Join2 -/

namespace Go.Abs
open Go.RowKit Go.ChangeShapes Go.WideShapes
end Go.Abs

/-! Join3 -/

namespace Go.Abs
open Go.RowKit Go.ChangeShapes Go.WideShapes
def at7 (W:World) (ds:List D) (cs:List Value):Prop:=ds.length=cs.length∧(∀ (i:Nat) (d:D) (v:Value),ds[i]? = some d→cs[i]? = some v→RD (abt W) S0 d v)∧∀ v∈cs,v.oneCell'=true
section
variable {H:Type} {enc:TypeId×Value→H} {P:Program} {W:World} {sp:Nat→Bool}
def structOf (P:Program) (t:TypeId):List (TypeId×Nat):=
 match P.underlying t with
 | some (.struct fs)=>fs.toList.map fun f=>(f.type,f.offset)
 | _=> []
end
end Go.Abs

/-! Join4 -/

namespace Go.Abs
open Go.Proofs Go.RowKit Go.ChangeShapes Go.WideShapes
section
variable {H:Type} {enc:TypeId×Value→H} {W:World} {sp:Nat→Bool}
end
end Go.Abs

/-! Join5 -/

namespace Go.Abs
open Go.Proofs Go.ChangeShapes Go.WideShapes Go.ChangeAt Go.RowKit
theorem QE {H:Type} {enc:TypeId×Value→H} {P:Program} {W:World} {sp:Nat→Bool} {t:TypeId} {ts:List TypeId} {ps:List MemPlace} : ∀ {l:List Value} {ds:List (DataW H)},DataW.TrodAll enc P W 0 sp true (t::ts) l ds ps→
 ∃ v l' d qz p q,l=v::l'∧ds=d::qz∧DataW.Trod enc P W 0 sp true t v d p∧DataW.TrodAll enc P W 0 sp true ts l' qz q
 | v::l,d::ds,⟨p,q,h1,h2,e⟩=>⟨v,l,d,ds,p,q,rfl,rfl,h1,h2⟩
 | [],[],h=>h.elim
 | [],_::_,h=>h.elim
 | _::_,[],h=>h.elim
theorem T6 {H:Type} {enc:TypeId×Value→H} {P:Program} {W:World} {sp:Nat→Bool} {ps:List MemPlace} : ∀ {l:List Value} {ds:List (DataW H)},DataW.TrodAll enc P W 0 sp true [] l ds ps→l = []∧ds = []
 | [],[],_=>⟨rfl,rfl⟩
 | [],_::_,h=>h.elim
 | _::_,ds,h=>by cases ds <;> exact h.elim
end Go.Abs

/-! CheckParts -/

namespace Go.Proofs.YtiopamakecmpkaaGreat.checkParts
open Go.ChangeShapes Go.WideShapes Go.ChangeAt Go.RowKit Go.Abs
theorem own:ownKnob Tryz.prog.godebug=none:=by kernel_rfl
theorem kids:Kids Tryz.prog (· < Tryz.prog.types.size):=kids_rows (by kernel_rfl) (by kernel_rfl)
theorem full : ∀ {t e:TypeId},t<Tryz.prog.types.size→Tryz.prog.underlying t=some (.slice e)→0<Tryz.prog.cellsOf e:=fun {t e}=>slices_full_of Tryz.prog (by kernel_rfl) t e
theorem walk (w:World) (x0:ByteArray):Calls Tryz.prog 6 #[.string x0] w fun e w'=>e = .returned (.bool true)∧Kept w w':=by
 refine XP (args:= [.str x0.data.toList]) ((Dz x0.data.toList S0).mono fun _ _ h=>h.1) rfl ?_ (fun _ _ h=>nomatch h)
 intro i d v h1 h2
 match i,h1,h2 with
 | 0,h1,h2=>simp at h1 h2;subst h1 h2;exact RD.str _
set_option maxRecDepth 100000 in
theorem lifted (os : Os) (started : os.Started) (H : Type) (enc : TypeId × Value → H) :
   ReturnsInHanded {} Tryz.checked os 6 .any (Rows.checkPartsSpec.pre6 enc Tryz.prog Tryz.f6 Rows.checkPartsRow.domain false) (Rows.checkPartsSpec.post enc Tryz.prog Tryz.f6 false true false false) := by
 refine returnsInHanded_of_change (C := Tryz.checked) own started (by kernel_rfl) Tryz.func6
   (ChangeSpec.witness6 (enc := enc) (C := Tryz.checked) false ⟨#[], #[.string ⟨#[]⟩], []⟩ 8 (by kernel_rfl) (by kernel_rfl) (by kernel_rfl) (by kernel_rfl)) ?_
 intro W base args ds gs before aek hW lq _
 have r5 : ∀ (j : Nat) t v, Tryz.f6.params[j]? = some t → args[j]? = some v → Value.okWide Tryz.prog W .any base t v := aek
 have hW' := hW
 obtain ⟨p, q, hA0, hV, rfl, hfz, hnd⟩ := hW
 have hA : DataW.TrodAll enc Tryz.prog W 0 (fun _ => true) true Tryz.f6.params.toList args.toList ds p := hA0
 rw [Tryz.params6] at hA r5
 obtain ⟨l⟩ := args
 obtain ⟨v0, l0, d0, ds0, p0, q0, e0, e0d, VC, hA0⟩ := QE hA
 obtain ⟨en, end_⟩ := T6 hA0
 have el : l = [v0] := by rw [show l = _ from e0, en]
 subst el
 have ed : ds = [d0] := by rw [e0d, end_]
 clear e0d
 subst ed
 obtain ⟨x0, rfl, rfl, rfl, _⟩ := Go.ChangeMaps.open_string Tryz.underlying9 (r5 0 _ _ rfl rfl) VC
 obtain ⟨rfl, rfl⟩ := trodVars_none hV
 refine (walk W x0).mono fun e W' ⟨he, hg⟩ => ?_
 subst he
 exact ⟨_, rfl, T5 kids full (by rw [Tryz.params6]; decide) Tryz.underlying4 (by kernel_rfl) rfl hW' rfl hg⟩
theorem over:Rows.checkPartsRow.holds Tryz.pinned (OpenSpec.ofChange Rows.checkPartsSpec):=
 OpenClaim.holds_of_wide 6 Tryz.f6 rfl rfl rfl rfl rfl rfl rfl ⟨rfl,rfl,rfl,rfl,rfl⟩ rfl rfl rfl rfl rfl (by kernel_rfl) Tryz.func6 (by kernel_rfl)
  (of_decide_eq_true (by kernel_rfl)) (by unfold Func.isWrapper;first | (rw [if_pos (by decide +kernel)];kernel_rfl) | (rw [if_neg (by decide +kernel)];exact⟨rfl,rfl⟩))
  (fun os started H enc _=>lifted os started H enc)
theorem proved:Rows.CheckPartsSaid:=
 over
#print axioms proved
end Go.Proofs.YtiopamakecmpkaaGreat.checkParts
