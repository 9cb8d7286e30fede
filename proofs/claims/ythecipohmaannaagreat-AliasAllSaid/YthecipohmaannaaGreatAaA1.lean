/-
  What is proved here: part 1 of the road to the claim (Par, Par1, Par2, Par3, Step, Wp, Types, Mir, MirTree, MirFlat, Nums, Codes0, Have0, Codes1, Have1, Codes2, Have2).
  No conditions.
-/
import Derived.Test.YthecipohmaannaaGreatAaA0
import Derived.Attr
import Derived.Test.YthecipohmaannaaGreatProg
import Derived.KernelRfl

set_option linter.unusedSimpArgs false
set_option linter.unusedVariables false

/-! Par -/

namespace Go.Abs
theorem X.bQ {x:X} {tm bJ:Tm} (h : ∀ t∈x.reads,tm.get t=bJ.get t):x.ev tm=x.ev bJ:=by
 cases x with
 | s t=>exact h t (by simp [X.reads])
 | k d=>rfl
theorem oG {t:Nat} {x:X} : ∀ {l:List X},x∈l→t∈x.reads→t∈lM l
 | [],h,_=>by cases h
 | y::r,h,ht=>by
  simp only [lM,List.mem_append]
  rcases List.mem_cons.1 h with rfl | h
  ·exact .inl ht
  ·exact .inr (oG h ht)
theorem sE {x:Option X} {tm bJ:Tm} (h : ∀ t∈wa x,tm.get t=bJ.get t):x.map (·.ev tm)=x.map (·.ev bJ):=by
 cases x with
 | none=>rfl
 | some y=>simp only [Option.map_some];rw [X.bQ h]
theorem xY {o:AO} {tm bJ:Tm} {s:St} (h : ∀ t∈o.reads,tm.get t=bJ.get t):aP o tm s=aP o bJ s:=by
 cases o with
 | mv x=>
  have hx:x.ev tm=x.ev bJ:=X.bQ fun t ht=>h t (by simp [AO.reads,ht])
  simp only [aP,hx]
 | pick c a b=>
  have hc:c.ev tm=c.ev bJ:=X.bQ fun t ht=>h t (by simp [AO.reads,ht])
  have ha:a.ev tm=a.ev bJ:=X.bQ fun t ht=>h t (by simp [AO.reads,ht])
  have hb:b.ev tm=b.ev bJ:=X.bQ fun t ht=>h t (by simp [AO.reads,ht])
  simp only [aP,hc,ha,hb]
 | alloc z=>
  rfl
 | qa z T=>rfl
 | v7 x T=>
  have hx:x.ev tm=x.ev bJ:=X.bQ fun t ht=>h t (by simp [AO.reads,ht])
  simp only [aP,hx]
 | v8 x y=>
  have hx:x.ev tm=x.ev bJ:=X.bQ fun t ht=>h t (by simp [AO.reads,ht])
  have hy:y.ev tm=y.ev bJ:=X.bQ fun t ht=>h t (by simp [AO.reads,ht])
  simp only [aP,hx,hy]
 | apps x y=>
  have hx:x.ev tm=x.ev bJ:=X.bQ fun t ht=>h t (by simp [AO.reads,ht])
  have hy:y.ev tm=y.ev bJ:=X.bQ fun t ht=>h t (by simp [AO.reads,ht])
  simp only [aP,hx,hy]
 | box x=>
  have hx:x.ev tm=x.ev bJ:=X.bQ fun t ht=>h t (by simp [AO.reads,ht])
  simp only [aP,hx]
 | vZ x=>
  have hx:x.ev tm=x.ev bJ:=X.bQ fun t ht=>h t (by simp [AO.reads,ht])
  simp only [aP,hx]
 | load x g n=>
  have hx:x.ev tm=x.ev bJ:=X.bQ fun t ht=>h t (by simp [AO.reads,ht])
  simp only [aP,hx]
 | store p x n=>
  have hp:p.ev tm=p.ev bJ:=X.bQ fun t ht=>h t (by simp [AO.reads,ht])
  have hx:x.ev tm=x.ev bJ:=X.bQ fun t ht=>h t (by simp [AO.reads,ht])
  simp only [aP,hp,hx]
 | gK x=>
  have hx:x.ev tm=x.ev bJ:=X.bQ fun t ht=>h t (by simp [AO.reads,ht])
  simp only [aP,hx]
 | bin op x y=>
  have hx:x.ev tm=x.ev bJ:=X.bQ fun t ht=>h t (by simp [AO.reads,ht])
  have hy:y.ev tm=y.ev bJ:=X.bQ fun t ht=>h t (by simp [AO.reads,ht])
  simp only [aP,hx,hy]
 | vv n x y=>
  have hx:x.ev tm=x.ev bJ:=X.bQ fun t ht=>h t (by simp [AO.reads,ht])
  have hy:y.ev tm=y.ev bJ:=X.bQ fun t ht=>h t (by simp [AO.reads,ht])
  simp only [aP,hx,hy]
 | eqs n ks x y=>
  have hx:x.ev tm=x.ev bJ:=X.bQ fun t ht=>h t (by simp [AO.reads,ht])
  have hy:y.ev tm=y.ev bJ:=X.bQ fun t ht=>h t (by simp [AO.reads,ht])
  simp only [aP,hx,hy]
 | C6 n x y=>
  have hx:x.ev tm=x.ev bJ:=X.bQ fun t ht=>h t (by simp [AO.reads,ht])
  have hy:y.ev tm=y.ev bJ:=X.bQ fun t ht=>h t (by simp [AO.reads,ht])
  simp only [aP,hx,hy]
 | un op x=>
  have hx:x.ev tm=x.ev bJ:=X.bQ fun t ht=>h t (by simp [AO.reads,ht])
  simp only [aP,hx]
 | conv k x=>
  have hx:x.ev tm=x.ev bJ:=X.bQ fun t ht=>h t (by simp [AO.reads,ht])
  simp only [aP,hx]
 | yT x=>
  have hx:x.ev tm=x.ev bJ:=X.bQ fun t ht=>h t (by simp [AO.reads,ht])
  simp only [aP,hx]
 | tP x=>
  have hx:x.ev tm=x.ev bJ:=X.bQ fun t ht=>h t (by simp [AO.reads,ht])
  simp only [aP,hx]
 | av x n=>
  have hx:x.ev tm=x.ev bJ:=X.bQ fun t ht=>h t (by simp [AO.reads,ht])
  simp only [aP,hx]
 | tQ x n g m=>
  have hx:x.ev tm=x.ev bJ:=X.bQ fun t ht=>h t (by simp [AO.reads,ht])
  simp only [aP,hx]
 | bF x i n=>
  have hx:x.ev tm=x.ev bJ:=X.bQ fun t ht=>h t (by simp [AO.reads,ht])
  have hi:i.ev tm=i.ev bJ:=X.bQ fun t ht=>h t (by simp [AO.reads,ht])
  simp only [aP,hx,hi]
 | rn x i=>
  have hx:x.ev tm=x.ev bJ:=X.bQ fun t ht=>h t (by simp [AO.reads,ht])
  have hi:i.ev tm=i.ev bJ:=X.bQ fun t ht=>h t (by simp [AO.reads,ht])
  simp only [aP,hx,hi]
 | ext x i=>
  have hx:x.ev tm=x.ev bJ:=X.bQ fun t ht=>h t (by simp [AO.reads,ht])
  simp only [aP,hx]
 | len x=>
  have hx:x.ev tm=x.ev bJ:=X.bQ fun t ht=>h t (by simp [AO.reads,ht])
  simp only [aP,hx]
 | py x=>
  have hx:x.ev tm=x.ev bJ:=X.bQ fun t ht=>h t (by simp [AO.reads,ht])
  simp only [aP,hx]
 | app a b x y=>
  have hx:x.ev tm=x.ev bJ:=X.bQ fun t ht=>h t (by simp [AO.reads,ht])
  have hy:y.ev tm=y.ev bJ:=X.bQ fun t ht=>h t (by simp [AO.reads,ht])
  simp only [aP,hx,hy]
 | mm b x y=>
  have hx:x.ev tm=x.ev bJ:=X.bQ fun t ht=>h t (by simp [AO.reads,ht])
  have hy:y.ev tm=y.ev bJ:=X.bQ fun t ht=>h t (by simp [AO.reads,ht])
  simp only [aP,hx,hy]
 | build z ps=>
  have hp:(ps.map fun p=>(p.1,p.2.1,p.2.2.ev tm))=ps.map fun p=>(p.1,p.2.1,p.2.2.ev bJ):=List.map_congr_left fun p hp=>by
   have:p.2.2.ev tm=p.2.2.ev bJ:=X.bQ fun t ht=>h t (by simp only [AO.reads];exact oG (List.mem_map_of_mem hp) ht)
   rw [this]
  simp only [aP,hp]
 | cT z m n ps=>
  have hp:(ps.map fun p=>(p.1,p.2.ev tm))=ps.map fun p=>(p.1,p.2.ev bJ):=List.map_congr_left fun p hp=>by
   have:p.2.ev tm=p.2.ev bJ:=X.bQ fun t ht=>h t (by simp only [AO.reads];exact oG (List.mem_map_of_mem hp) ht)
   rw [this]
  simp only [aP,hp]
 | rm z m n ps=>
  have hp:(ps.map fun p=>(p.1,p.2.ev tm))=ps.map fun p=>(p.1,p.2.ev bJ):=List.map_congr_left fun p hp=>by
   have:p.2.ev tm=p.2.ev bJ:=X.bQ fun t ht=>h t (by simp only [AO.reads];exact oG (List.mem_map_of_mem hp) ht)
   rw [this]
  simp only [aP,hp]
 | C7 n x lo hi=>
  have hx:x.ev tm=x.ev bJ:=X.bQ fun t ht=>h t (by simp [AO.reads,ht])
  have hl:lo.map (·.ev tm)=lo.map (·.ev bJ):=sE fun t ht=>h t (by simp [AO.reads,ht])
  have hh:hi.map (·.ev tm)=hi.map (·.ev bJ):=sE fun t ht=>h t (by simp [AO.reads,ht])
  simp only [aP,hx,hl,hh]
 | C8 x lo hi=>
  have hx:x.ev tm=x.ev bJ:=X.bQ fun t ht=>h t (by simp [AO.reads,ht])
  have hl:lo.map (·.ev tm)=lo.map (·.ev bJ):=sE fun t ht=>h t (by simp [AO.reads,ht])
  have hh:hi.map (·.ev tm)=hi.map (·.ev bJ):=sE fun t ht=>h t (by simp [AO.reads,ht])
  simp only [aP,hx,hl,hh]
 | qW f xs=>
  have hp:(xs.map fun x=>x.ev tm)=xs.map fun x=>x.ev bJ:=List.map_congr_left fun x hx=>X.bQ fun t ht=>h t (by simp only [AO.reads];exact oG hx ht)
  simp only [aP,hp]
 | qX=>rfl
 | uH m k v=>
  have hm:m.ev tm=m.ev bJ:=X.bQ fun t ht=>h t (by simp [AO.reads,ht])
  have hk:k.ev tm=k.ev bJ:=X.bQ fun t ht=>h t (by simp [AO.reads,ht])
  have hv:v.ev tm=v.ev bJ:=X.bQ fun t ht=>h t (by simp [AO.reads,ht])
  simp only [aP,hm,hk,hv]
 | sq m k z=>
  have hm:m.ev tm=m.ev bJ:=X.bQ fun t ht=>h t (by simp [AO.reads,ht])
  have hk:k.ev tm=k.ev bJ:=X.bQ fun t ht=>h t (by simp [AO.reads,ht])
  simp only [aP,hm,hk]
theorem E8 {o:AO} (ho:fF o.kind=false) {tm:Tm} {s s':St} {d:D} (h:aP o tm s=some (d,s')):s'=s:=by
 cases o <;> simp only [AO.kind,fF]at ho <;> first | cases ho | skip
 all_goals
  simp only [aP]at h
  first
   | (cases h;rfl)
   | (repeat' (split at h)) <;> first | (cases h;rfl) | cases h
theorem G0 {o:AO} (ho:o.kind = .pure) {tm:Tm} {s s':St} : (aP o tm s).map (·.1)=(aP o tm s').map (·.1):=by
 cases o <;> simp only [AO.kind]at ho <;> first | cases ho | skip
 all_goals
  simp only [aP]
  first
   | rfl
   | (repeat' split) <;> rfl
def iw (ai:AI) (tm:Tm) (s:St):Option D:=
 match ai with
 | .op _ none o=>(aP o tm s).map (·.1)
 | .op _ (some (t,want)) o=>
  match tm.get t with
  | .bool b=>if b=want then(aP o tm s).map (·.1)else some (.tuple [])
  | .tuple _=>some (.tuple [])
  | _=>none
 | _=>none
def pU (P:Program) (ai:AI) (tm:Tm) (s:St) (d:D) (s':St):Prop:=
 match ai with
 | .op _ g o=>guarded g tm (aP o tm s=some (d,s')) (d = .tuple []∧s'=s)
 | .call _ g f xs=>guarded g tm (ej P f (xs.map (·.ev tm)) s fun x y=>x=d∧y=s') (d = .tuple []∧s'=s)
 | .nil .. =>False
 | .gQ .. =>False
def jh (P:Program) (is:List AI) (K:Tm→St→Prop):List (Nat×Nat)→List St→Tm→St→Prop
 | [],_,tm,s=>K tm s
 | (q,b)::r,bt,tm,s=>
  match is[q]? with
  | none=>False
  | some ai=>
   match fF ai.kind with
   | true=>∃ d s',pU P ai tm s d s'∧jh P is K r (s::bt) (tm.put ai.dst d) s'
   | false=>∃ d,iw ai tm s=some d∧(ai.kind = .load→∀ s'∈bt.take b,iw ai tm s'=some d)∧jh P is K r bt (tm.put ai.dst d) s
def Tm.eqv (a b:Tm):Prop:=∀ t,a.get t=b.get t
theorem Tm.jz (tm:Tm) (dst:Option Nat) (d:D) (t:Nat):(tm.put dst d).get t=if dst=some t then d else tm.get t:=by
 cases dst with
 | none=>simp [Tm.put]
 | some u=>
  simp only [Tm.put,Tm.Ao,Option.some.injEq]
  by_cases h:t=u
  ·subst h;simp
  ·rw [if_neg h,if_neg (fun e=>h e.symm)]
theorem Tm.eqv.put {a b:Tm} (h:a.eqv b) (dst:Option Nat) (d:D):(a.put dst d).eqv (b.put dst d):=fun t=>by
 rw [Tm.jz,Tm.jz,h t]
theorem Tm.DB (tm:Tm) {x y:Option Nat} (h : ∀ t,x=some t→y≠some t) (d e:D):((tm.put x d).put y e).eqv ((tm.put y e).put x d):=fun t=>by
 simp only [Tm.jz]
 by_cases h1:x=some t
 ·simp only [h1,h t h1,if_true,if_false]
 ·simp only [h1,if_false]
theorem vD {g:Option (Nat×Bool)} {tm bJ:Tm} {A A' C:Prop} (h : ∀ t∈rp g,tm.get t=bJ.get t) (ha:A→A') (hh:guarded g tm A C):guarded g bJ A' C:=by
 cases g with
 | none=>exact ha hh
 | some p=>
  obtain⟨t,want⟩:=p
  unfold guarded at *
  simp only at *
  rw [← h t (by simp [rp])]
  split
  ·rename_i b hb
   rw [hb]at hh
   exact⟨fun e=>ha (hh.1 e),hh.2⟩
  ·rename_i hb
   rw [hb]at hh
   exact hh
  ·rename_i x h1 h2
   split at hh
   ·exact h1 _ ‹_›
   ·exact h2 _ ‹_›
   ·exact hh
theorem BA {tm bJ:Tm} : ∀ {l:List X},(∀ t∈lM l,tm.get t=bJ.get t)→l.map (·.ev tm)=l.map (·.ev bJ)
 | [],_=>rfl
 | x::r,h=>by
  simp only [List.map_cons]
  rw [X.bQ fun t ht=>h t (by simp [lM,ht]),BA (l:=r) fun t ht=>h t (by simp [lM,ht])]
theorem tf {P:Program} {ai:AI} {tm bJ:Tm} {s s':St} {d:D} (h : ∀ t∈ai.reads,tm.get t=bJ.get t) (hh:pU P ai tm s d s'):pU P ai bJ s d s':=by
 cases ai with
 | op dst g o=>
  simp only [AI.reads,List.mem_append]at h
  exact vD (fun t ht=>h t (.inl ht)) (fun e=>by rw [← xY fun t ht=>h t (.inr ht)];exact e) hh
 | call dst g f xs=>
  simp only [AI.reads,List.mem_append]at h
  exact vD (fun t ht=>h t (.inl ht)) (fun e=>by rw [← BA fun t ht=>h t (.inr ht)];exact e) hh
 | nil dst g n x=>exact hh
 | gQ dst g t xs=>exact hh
theorem oq {ai:AI} {tm bJ:Tm} {s:St} (h : ∀ t∈ai.reads,tm.get t=bJ.get t):iw ai tm s=iw ai bJ s:=by
 cases ai with
 | op dst g o=>
  simp only [AI.reads,List.mem_append]at h
  have he:=xY (s:=s) fun t ht=>h t (.inr ht)
  cases g with
  | none=>simp only [iw,he]
  | some p=>
   obtain⟨t,want⟩:=p
   simp only [iw,he,h t (.inl (by simp [rp]))]
 | call dst g f xs=>rfl
 | nil dst g n x=>rfl
 | gQ dst g t xs=>rfl
theorem FU {dst:Option Nat} {g:Option (Nat×Bool)} {o:AO} (h:fF (AI.op dst g o).kind=false):(AI.op dst g o).kind=o.kind:=by
 unfold AI.kind at *
 split at h
 ·cases h
 ·rename_i heq;cases heq;rfl
 ·cases h
theorem L0 {ai:AI} (hk:ai.kind = .pure) {tm:Tm} {s s':St} : iw ai tm s=iw ai tm s':=by
 cases ai with
 | op dst g o=>
  have ho:o.kind = .pure:=by rw [← hk];exact(FU (by rw [hk];rfl)).symm
  have he:=G0 ho (tm:=tm) (s:=s) (s':=s')
  cases g with
  | none=>simp only [iw,he]
  | some p=>simp only [iw,he]
 | call dst g f xs=>rfl
 | nil dst g n x=>rfl
 | gQ dst g t xs=>rfl
theorem apart_spec {a q:AI} (h:a.apart q=true):(∀ t,a.dst=some t→t∉q.reads)∧(∀ t,q.dst=some t→t∉a.reads)∧(∀ t,a.dst=some t→q.dst≠some t):=by
 unfold AI.apart at h
 simp only [Bool.and_eq_true]at h
 obtain⟨⟨h1,h2⟩,h3⟩:=h
 refine⟨fun t e=> ?_,fun t e=> ?_,fun t e e'=> ?_⟩
 ·rw [e]at h1;simpa [yV]using h1
 ·rw [e]at h2;simpa [yV]using h2
 ·rw [e,e']at h3;simp at h3
theorem pV {tm:Tm} {dst:Option Nat} {d:D} {l:List Nat} (h : ∀ t,dst=some t→t∉l) : ∀ t∈l,tm.get t=(tm.put dst d).get t:=fun t ht=>by
 rw [Tm.jz,if_neg fun e=>h t e ht]
section
variable {P:Program} {is:List AI} {K:Tm→St→Prop}
theorem pW (hK : ∀ tm bJ s,Tm.eqv tm bJ→K tm s→K bJ s) : ∀ (R:List (Nat×Nat)) (bt:List St) (tm bJ:Tm) (s:St),tm.eqv bJ→jh P is K R bt tm s→jh P is K R bt bJ s
 | [],_,tm,bJ,s,e,h=>hK tm bJ s e h
 | (q,b)::R,bt,tm,bJ,s,e,h=>by
  unfold jh at *
  split at h
  ·exact h.elim
  ·rename_i ai sC
   split at h
   ·rename_i hc
    obtain⟨d,s',h1,h2⟩:=h
    exact⟨d,s',tf (fun t _=>e t) h1,pW hK R _ _ _ _ (e.put _ d) h2⟩
   ·rename_i hc
    obtain⟨d,h1,h2,h3⟩:=h
    refine⟨d, ?_,fun hl s' mM=> ?_,pW hK R _ _ _ _ (e.put _ d) h3⟩
    ·rw [← oq fun t _=>e t];exact h1
    ·rw [← oq fun t _=>e t];exact h2 hl s' mM
theorem DC (i:Nat) (l:List Nat):gW is (i::l)=(if fF (gR is i)then 1 else 0)+gW is l:=by
 unfold gW
 rw [List.filter_cons]
 split <;> simp <;> omega
theorem tg (hK : ∀ tm bJ s,Tm.eqv tm bJ→K tm s→K bJ s) {q b:Nat} {ai:AI} (hq:is[q]? = some ai) (hm:fF ai.kind=false) (Y:List (Nat×Nat)) :
 ∀ (X:List (Nat×Nat)) (bt:List St) (tm:Tm) (s:St),(∀ a∈X,jv is a.1 q=true)→(ai.kind = .load→gW is (X.map (·.1))≤b)→
  jh P is K (X++(q,b)::Y) bt tm s→
  ∃ d,iw ai tm s=some d∧(ai.kind = .load→∀ s'∈bt.take (b - gW is (X.map (·.1))),iw ai tm s'=some d)∧jh P is K (X++Y) bt (tm.put ai.dst d) s
 | [],bt,tm,s,_,_,h=>by
  simp only [List.nil_append,jh,hq,hm]at h
  obtain⟨d,h1,h2,h3⟩:=h
  exact⟨d,h1,fun hl s' mM=>h2 hl s' (by simpa [gW]using mM),h3⟩
 | (a,c)::X,bt,tm,s,cf,hb,h=>by
  have G1:=cf (a,c) (by simp)
  unfold jv at G1
  split at G1
  ·rename_i ia iq W0 qS
   rw [hq]at qS
   cases qS
   obtain⟨p1,p2,p3⟩:=apart_spec G1
   have Ju:gR is a=ia.kind:=by simp [gR,W0]
   have OM : ∀ x∈X,jv is x.1 q=true:=fun x hx=>cf x (List.mem_cons_of_mem _ hx)
   rw [List.map_cons,DC,Ju]at hb ⊢
   simp only [List.cons_append,jh,W0]at h ⊢
   cases hc:fF ia.kind
   ·simp only [hc,Bool.false_eq_true,if_false,Nat.zero_add]at h hb ⊢
    obtain⟨d,h1,h2,h3⟩:=h
    obtain⟨e,g1,g2,g3⟩:=tg hK hq hm Y X bt _ s OM hb h3
    have cg : ∀ s,iw ai tm s=iw ai (tm.put ia.dst d) s:=fun s=>oq (pV p1)
    have W1 : ∀ s,iw ia tm s=iw ia (tm.put ai.dst e) s:=fun s=>oq (pV p2)
    refine⟨e,by rw [cg];exact g1,fun hl s' mM=>by rw [cg];exact g2 hl s' mM,d,by rw [← W1];exact h1,fun hl s' mM=>by rw [← W1];exact h2 hl s' mM, ?_⟩
    exact pW hK _ _ _ _ _ (Tm.DB tm p3 d e) g3
   ·simp only [hc,if_true]at h hb ⊢
    obtain⟨d,s1,h1,h3⟩:=h
    obtain⟨e,g1,g2,g3⟩:=tg hK hq hm Y X (s::bt) _ s1 OM (fun hl=>by have:=hb hl;omega) h3
    have cg : ∀ s,iw ai tm s=iw ai (tm.put ia.dst d) s:=fun s=>oq (pV p1)
    have nV:iw ai tm s=some e:=by
     cases hk:ai.kind with
     | pure=>rw [cg,L0 hk (s':=s1)];exact g1
     | load=>
      have:=hb hk
      rw [cg]
      refine g2 hk s ?_
      rw [show b - gW is (X.map (·.1))=(b - (1+gW is (X.map (·.1))))+1 by omega,List.take_succ_cons]
      exact List.mem_cons_self
     | alloc=>rw [hk]at hm;cases hm
     | core=>rw [hk]at hm;cases hm
    refine⟨e,nV,fun hl s' mM=> ?_,d,s1,tf (pV p2) h1,pW hK _ _ _ _ _ (Tm.DB tm p3 d e) g3⟩
    have:=hb hl
    rw [cg]
    refine g2 hl s' ?_
    rw [show b - gW is (X.map (·.1))=(b - (1+gW is (X.map (·.1))))+1 by omega,List.take_succ_cons]
    exact List.mem_cons_of_mem _ mM
  ·cases G1
end
end Go.Abs

/-! Par1 -/

namespace Go.Abs
section
variable {P:Program}
theorem JI {o:Oper} {z:List D} (h:yW P o=some (.alloc z)) : ∃ t,o.op = .alloc t∧zeroOf P t=some z:=by
 obtain⟨dst,op,type,pos,after,guard⟩:=o
 unfold yW at h
 simp only at h
 split at h
 case h_4 t=>
  split at h
  ·obtain⟨z',h1,h2⟩:=map_some h;cases h2
  ·obtain⟨z',h1,h2⟩:=map_some h;cases h2;exact⟨t,rfl,h1⟩
 all_goals
  first
   | (rw [Option.map_eq_some_iff]at h;obtain⟨_,_,h⟩:=h;cases h)
   | skip
 all_goals
  (repeat' (split at h)) <;> first | (cases h;done) | (rw [Option.map_eq_some_iff]at h;obtain⟨_,_,h⟩:=h;cases h)
theorem wD {nt:Nat} {ops:Array Oper} {o:Oper} {ai:AI} (h:cI P nt ops o=some ai) :
 ∃ g,rq ops o.guard=some g∧(∀ t,o.dst=some t→t<nt)∧pR P ops o g=some ai:=by
 have h2:=tY h
 unfold cI at h
 split at h
 ·cases h
 ·rename_i g hg
  split at h
  ·exact⟨g,hg,h2,h⟩
  ·cases h
theorem qh {ops:Array Oper} {o:Oper} {g:Option (Nat×Bool)} {ai:AI} (h:pR P ops o g=some ai):ai.dst=o.dst:=by
 unfold pR at h
 split at h
 ·split at h
  ·obtain⟨xs,_,rfl⟩:=map_some h;rfl
  ·cases h
 ·obtain⟨xs,_,rfl⟩:=map_some h;rfl
 ·split at h
  ·cases h;rfl
  ·split at h
   ·cases h;rfl
   ·cases h;rfl
   ·cases h
theorem qi {nt:Nat} {ops:Array Oper} {o:Oper} {ai:AI} (h:cI P nt ops o=some ai):ai.dst=o.dst:=by
 obtain⟨g,_,_,h⟩:=wD h
 exact qh h
theorem ti {nt:Nat} {ops:Array Oper} {i:Nat} {o:Oper} {ai:AI} (hi:ops[i]? = some o) (hc:cI P nt ops o=some ai)
 {M:Map} {s:St} {w:World} {tm:Tm} {act:Act} (r:Rel M s w) (jI:Laid M s w) (ht:jZ M s tm act.tmps) {K':Tm→St→Prop} (h:gy P [ai] K' tm s)
 {K:Act→World→Prop} {Q:Exit→Act→World→Prop}
 (hK : ∀ d v s1 w1 M1,K' (tm.put ai.dst d) s1→Ext M s w M1 s1 w1→Rel M1 s1 w1→RD M1 s1 d v→K (act.put o.dst v) w1):wpOp P ops Q i K act w:=by
 obtain⟨g,hg,_,hb⟩:=wD hc
 rw [qh hb]at hK
 simp only [wpOp,hi]
 have skip:K' (tm.put o.dst (.tuple [])) s→K (act.put o.dst Go.undef) w:=fun hk=>hK _ _ _ _ _ hk (Ext.refl M s w) r .undef
 unfold pR at hb
 split at hb
 ·rename_i f args lP kA
  split at hb
  ·rename_i uQ
   obtain⟨xs,ml,rfl⟩:=map_some hb
   simp only [gy]at h
   rcases iG hg ht h with ⟨hw,hA⟩ | ⟨hw,hB⟩
   ·simp only [hw,if_true]
    left
    have hex:(execOp act.eval o).run P w = .ok (.enter f (args.map act.eval)) w:=by
     obtain⟨dst,op,type,pos,after,guard⟩:=o
     simp only at kA
     subst kA
     exact ta act.eval dst f args lP type pos after guard rfl uQ w
    obtain⟨c1,c2⟩:=sB ht ml
    unfold Oper.wp
    rw [hex,Oper.upon_enter]
    refine(hA M w (args.map act.eval) r jI (by simp [c1]) (fun i d v e1 e2=>c2 i d v e1 (by simpa using e2))).mono ?_
    rintro en w' ⟨M',d,v,s',rfl,hk,e',r',hv⟩
    exact hK _ _ _ _ _ hk e' r' hv
   ·simp only [hw]
    exact skip hB
  ·cases hb
 ·rename_i t args lP kA
  obtain⟨xs,ml,rfl⟩:=map_some hb
  simp only [gy]at h
  rcases iG hg ht h with ⟨hw,hA⟩ | ⟨hw,hB⟩
  ·simp only [hw,if_true]
   left
   split at hA
   ·rename_i f lq Dr
    obtain⟨uQ,hA⟩:=hA
    have Jx:=ht t
    rw [Dr]at Jx
    obtain⟨vs,mO,hlen,zm⟩:=Jx.FL
    have hex:(execOp act.eval o).run P w = .ok (.enter f (args.map act.eval++vs)) w:=by
     obtain⟨dst,op,type,pos,after,guard⟩:=o
     simp only at kA
     subst kA
     exact wx act.eval dst (.tmp t) f vs args lP type pos after guard mO uQ w
    have cc:=Bv ml ht hlen zm
    unfold Oper.wp
    rw [hex,Oper.upon_enter]
    refine(hA M w (args.map act.eval++vs) r jI cc.1 cc.2).mono ?_
    rintro en w' ⟨M',d,v,s',rfl,hk,e',r',hv⟩
    exact hK _ _ _ _ _ hk e' r' hv
   ·exact hA.elim
  ·simp only [hw]
   exact skip hB
 ·split at hb
  ·rename_i neg x Ds
   cases hb
   simp only [gy]at h
   rcases iG hg ht h with ⟨hw,hA⟩ | ⟨hw,hB⟩
   ·simp only [hw,if_true]
    left
    split at hA
    ·rename_i g' z rows hx
     obtain⟨b,hb,hex⟩:=vA (w:=w) Ds ht hx
     unfold Oper.wp
     rw [hex,Oper.upon_value]
     exact hK _ _ _ _ _ (hA b hb) (Ext.refl M s w) r (.bool _)
    ·exact hA.elim
   ·simp only [hw]
    exact skip hB
  ·have fin : ∀ ao,ai = .op o.dst g ao→(∀ d s',aP ao tm s=some (d,s')→c9 P M s w (execOp act.eval o) d s')→
    (if Region.wanted o (yielded ops act.tmps)=true then o.wp P act w K Q∨(o.asks P act w∧LetsOut Q)else K (act.put o.dst Go.undef) w):=by
    intro ao sC RA
    subst sC
    simp only [gy]at h
    rcases iG hg ht h with ⟨hw,hA⟩ | ⟨hw,hB⟩
    ·simp only [hw,if_true]
     left
     split at hA
     ·rename_i d s' oo
      obtain⟨v,w',M',dK,r',hv,e'⟩:=RA d s' oo
      unfold Oper.wp
      rcases dK with dK | ⟨dK,rfl⟩
      ·rw [dK,Oper.upon_value]
       exact hK _ _ _ _ _ hA e' r' hv
      ·rw [dK,Oper.upon_skip]
       exact hK _ _ _ _ _ hA e' r' hv
     ·exact hA.elim
    ·simp only [hw]
     exact skip hB
   split at hb
   ·rename_i z k n ps lQ
    cases hb
    refine fin _ rfl (fun d s' oo=> ?_)
    split at oo
    ·exact uP lQ r ht oo
    ·exact pT lQ r ht oo
   ·rename_i ao lQ
    cases hb
    exact fin _ rfl (fun d s' oo=>pT lQ r ht oo)
   ·cases hb
structure FV (M:Map) (s:St) (b:Nat):Prop where
 o : ∀ o,o<s.aw.length→M.mu o≠b
 t : ∀ t c z,s.live t→M.be t≠some (b,c,z)
 g : ∀ off,M.G b off=none
theorem FV.mono {M M':Map} {s s':St} {w w':World} {b:Nat} (h:FV M s b) (e:Ext M s w M' s' w') (hb:b<w.heap.size):FV M' s' b:=by
 refine⟨fun o ho=> ?_,fun t c z hl he=> ?_,fun off=> ?_⟩
 ·rcases Nat.lt_or_ge o s.aw.length with h1 | h1
  ·rw [e.le.mu o h1];exact h.o o h1
  ·have:=e.oy o h1 ho;omega
 ·rcases e.oz t b c z hl he with ⟨h1,c',z',h2⟩ | h1
  ·exact h.t t c' z' h1 h2
  ·omega
 ·by_cases hg:M'.G b off=M.G b off
  ·rw [hg];exact h.g off
  ·rcases e.qv b off hg with h1 | ⟨t,c,z,h1,h2⟩
   ·omega
   ·exact(h.t t c z h1 h2).elim
theorem Rel.idle {M:Map} {s:St} {w:World} (r:Rel M s w) (x:Obj):Rel M s (w.alloc x)∧Ext M s w M s (w.alloc x)∧FV M s w.heap.size:=by
 refine⟨⟨fun b o v e=> ?_,fun o ds e=> ?_,r.jA,r.inj,fun t n e=> ?_,r.eH,r.fm⟩, ?_,⟨fun o ho=> ?_,fun t c z hl e=> ?_,fun off=>r.Oh (Nat.le_refl _) off⟩⟩
 ·obtain⟨h3,h4⟩:=r.comm b o v e
  refine⟨?_,h4⟩
  rw [World.cell?_alloc_lt]
  ·exact h3
  ·exact r.Al e
 ·obtain⟨vs,T,h3,h4,h5,h6⟩:=r.obj o ds e
  exact⟨vs,T,by rw [heap_alloc_old w _ _ h3.lt];exact h3,h4,h5,h6⟩
 ·rcases r.tok t n e with h3 | ⟨b,cap,size,e7,T',h3,h4,h5⟩
  ·exact .inl h3
  ·exact .inr ⟨b,cap,size,e7,T',h3,by rw [heap_alloc_old w _ _ (jX h4)];exact h4,h5⟩
 ·exact⟨Le.refl M s,fun b hb _ _=>heap_alloc_old w _ b hb,fun o h3 h4=>by omega,fun t b c z h e=> .inl ⟨h,c,z,e⟩,fun _ _ h=>(h rfl).elim,by simp,rfl,rfl,rfl⟩
 ·have:=r.oC ho;omega
 ·have:=r.qY hl e;omega
theorem Rel.Uy {M:Map} {s:St} {w:World} (r:Rel M s w) {B:fY} (e:Ext B.M B.s B.w M s w) {b:Nat} (u:FV M s b) (hb:B.w.heap.size≤b)
 (ds:List D) (vs:Array Value) (T:TypeId) (hh:w.heap[b]? = some (.cells vs T (0,0))) (hl:vs.size=ds.length) (h1 : ∀ v∈vs,v.oneCell'=true)
 (h2 : ∀ (i:Nat) (d:D) (v:Value),ds[i]? = some d→vs[i]? = some v→RD M s d v) :
 Rel (M.dD s.aw.length b) {s with aw:=s.aw++ [ds]} w∧Ext B.M B.s B.w (M.dD s.aw.length b) {s with aw:=s.aw++ [ds]} w∧
 Le M s (M.dD s.aw.length b) {s with aw:=s.aw++ [ds]}:=by
 have le:=rr (M:=M) s b ds
 have oi : ∀ o,o<s.aw.length→(M.dD s.aw.length b).mu o=M.mu o:=le.mu
 have dN:(M.dD s.aw.length b).mu s.aw.length=b:=by simp [Map.dD,Map.mu]
 refine⟨⟨r.comm,fun o mf e'=> ?_,fun o ho off=> ?_,fun o o' ho lk e'=> ?_,r.tok,fun t b' c z o hl e' ho=> ?_,r.fm⟩, ?_,le⟩
 ·rcases Nat.lt_or_ge o s.aw.length with ho | ho
  ·rw [List.getElem?_append_left ho]at e'
   obtain⟨e7,T',h3,h4,h5,h6⟩:=r.obj o mf e'
   refine⟨e7,T', ?_,h4,⟨h5.1,by rw [le.ty o ho];exact h5.2⟩,fun i d v e1 e2=>(h6 i d v e1 e2).mono le⟩
   rw [oi o ho,le.ob o ho];exact h3
  ·rw [List.getElem?_append_right ho]at e'
   have:o=s.aw.length:=by
    have:=(List.getElem?_eq_some_iff.1 e').1
    simp at this;omega
   subst this
   simp at e';subst e'
   refine⟨vs,T, ?_,hl,⟨h1,fun T' h=>by simp [Map.dD,Map.ty,Ob.ty?]at h⟩,fun i d v e1 e2=>(h2 i d v e1 e2).mono le⟩
   rw [dN];exact kG.of hh (by simp [Map.dD,Map.ob])
 ·simp at ho
  rcases Nat.lt_or_ge o s.aw.length with h3 | h3
  ·rw [oi o h3];exact r.jA o h3 off
  ·have:o=s.aw.length:=by omega
   subst this
   rw [dN];exact u.g off
 ·simp at ho lk
  rcases Nat.lt_or_ge o s.aw.length with h3 | h3 <;> rcases Nat.lt_or_ge o' s.aw.length with h4 | h4
  ·rw [oi o h3,oi o' h4]at e';exact r.inj o o' h3 h4 e'
  ·have:o'=s.aw.length:=by omega
   subst this
   rw [oi o h3,dN]at e'
   exact(u.o o h3 e').elim
  ·have:o=s.aw.length:=by omega
   subst this
   rw [oi o' h4,dN]at e'
   exact(u.o o' h4 e'.symm).elim
  ·omega
 ·simp at ho
  rcases Nat.lt_or_ge o s.aw.length with h3 | h3
  ·rw [oi o h3];exact r.eH t b' c z o hl e' h3
  ·have:o=s.aw.length:=by omega
   subst this
   rw [dN]
   intro he
   subst he
   exact u.t t c z hl e'
 ·refine⟨e.le.trans le,e.kept,fun o h3 h4=> ?_,e.oz,e.qv,e.size,e.os,e.tape,e.output⟩
  simp at h4
  rcases Nat.lt_or_ge o s.aw.length with h5 | h5
  ·rw [oi o h5];exact e.oy o h3 h5
  ·have:o=s.aw.length:=by omega
   subst this
   rw [dN];exact hb
theorem E9 {nt:Nat} {ops:Array Oper} {i:Nat} {o:Oper} {t:Nat} {z:List D} (hi:ops[i]? = some o) (hc:cI P nt ops o=some (.op (some t) none (.alloc z)))
 {w:World} {act:Act} {K:Act→World→Prop} {Q:Exit→Act→World→Prop}
 (hK : ∀ vs T,vs.size=z.length→(∀ v∈vs,v.oneCell'=true)→(∀ (M:Map) (s:St) (i:Nat) (d:D) (v:Value),z[i]? = some d→vs[i]? = some v→RD M s d v)→
  K (act.put (some t) (.pointer (some ⟨w.heap.size,0,none⟩))) (w.alloc (.cells vs T))):wpOp P ops Q i K act w:=by
 obtain⟨g,hg,_,hb⟩:=wD hc
 have n6:=qh hb
 simp only [AI.dst]at n6
 simp only [wpOp,hi]
 have kA:g=none∧yW P o=some (.alloc z):=by
  unfold pR at hb
  split at hb
  ·split at hb
   ·obtain⟨xs,_,h⟩:=map_some hb;cases h
   ·cases hb
  ·obtain⟨xs,_,h⟩:=map_some hb;cases h
  ·split at hb
   ·cases hb
   ·split at hb
    ·rename_i lQ
     simp only [Option.some.injEq,AI.op.injEq]at hb
     obtain⟨_,_,h⟩:=hb
     split at h <;> cases h
    ·rename_i ao lQ
     simp only [Option.some.injEq,AI.op.injEq]at hb
     obtain⟨_,h1,h2⟩:=hb
     subst h2
     exact⟨h1,lQ⟩
    ·cases hb
 obtain⟨rfl,lQ⟩:=kA
 obtain⟨T,hT,hz⟩:=JI lQ
 have hw:Region.wanted o (yielded ops act.tmps)=true:=by
  have:o.guard=none:=by
   cases Bq:o.guard with
   | none=>rfl
   | some p=>
    obtain⟨j,b⟩:=p
    rw [Bq]at hg
    unfold rq at hg
    simp only at hg
    split at hg <;> cases hg
  simp [Region.wanted,this]
 simp only [hw,if_true]
 left
 unfold zeroOf at hz
 split at hz
 ·rename_i inf LU
  split at hz
  ·rename_i v hv
   split at hz
   ·have dK:(execOp act.eval o).run P w = .ok (.value (.pointer (some ⟨w.heap.size,0,none⟩))) (w.alloc (.cells v.cells T)):=by
     obtain⟨dst,op,type,pos,after,guard⟩:=o
     simp only at hT
     subst hT
     simp [execOp,Instr.alloc,zeroValue,gf P LU,hv,newVar,newRow]
    have h3:=fun M s=>jy (M:=M) (s:=s) hz
    obtain⟨h1,h2,_⟩:=h3 ⟨fun _ _=>none,fun _=>(0, .any),fun _=>none⟩ ⟨[],[]⟩
    unfold Oper.wp
    rw [dK,Oper.upon_value, ← n6]
    exact hK _ _ (by rw [h1];simp) (fun u hu=>h2 u (by simpa using hu)) (fun M s i d u e1 e2=>(h3 M s).2.2 i d u e1 (by simpa using e2))
   ·cases hz
  ·cases hz
 ·cases hz
end
end Go.Abs

/-! Par2 -/

namespace Go.Abs
section
variable {is:List AI} {af pt:List (List Nat)}
theorem vE {pq:List Nat} {l l':List Nat} (h:l'.Sublist l) (hb:jl is pq l=true):jl is pq l'=true:=by
 induction h with
 | slnil=>rfl
 | cons a h ih=>
  simp only [jl,Bool.and_eq_true]at hb
  exact ih hb.2
 | cons_cons a h ih=>
  simp only [jl,Bool.and_eq_true,Bool.or_eq_true]at hb ⊢
  refine⟨hb.1.imp id fun h1=> ?_,ih hb.2⟩
  rw [List.all_eq_true]at h1 ⊢
  exact fun x hx=>h1 x (h.subset hx)
theorem xw {f:Nat→Bool} {l l':List Nat} (h:l'.Sublist l) (ha:l.all f=true):l'.all f=true:=by
 rw [List.all_eq_true]at ha ⊢
 exact fun x hx=>ha x (h.subset hx)
theorem Fa {l l':List Nat} (h:l'.Sublist l):gW is l'≤gW is l:=(h.filter _).length_le
theorem G2 {pre Ax:List Nat} {q b:Nat} (h:Ax.Sublist pre) (hs:mK is pt pre q b=true):mK is pt Ax q b=true:=by
 unfold mK at *
 split at hs
 ·exact xw h hs
 ·exact xw h hs
 ·simp only [Bool.and_eq_true]at hs ⊢
  exact⟨xw h hs.1,vE h hs.2⟩
 ·simp only [Bool.and_eq_true,decide_eq_true_eq]at hs ⊢
  exact⟨⟨xw h hs.1.1,vE h hs.1.2⟩,Nat.le_trans (Fa (h.filter _)) hs.2⟩
theorem DD : ∀ {R:List (Nat×Nat)} {pre Ax:List Nat},Ax.Sublist pre→qQ is af pt pre R=true→qQ is af pt Ax R=true
 | [],_,_,_,_=>rfl
 | (q,b)::R,pre,Ax,h,ho=>by
  simp only [qQ,Bool.and_eq_true,Bool.not_eq_true']at ho ⊢
  obtain⟨⟨⟨h1,h2⟩,h3⟩,h4⟩:=ho
  refine⟨⟨⟨G2 h h1, ?_⟩,h3⟩,DD (h.cons_cons q) h4⟩
  rw [← Bool.not_eq_true,List.contains_iff_mem]at h2 ⊢
  exact fun hm=>h2 (h.subset hm)
theorem Ay : ∀ {X:List (Nat×Nat)} {e:Nat×Nat} {Y:List (Nat×Nat)} {pre:List Nat},qQ is af pt pre (X++e::Y)=true→qQ is af pt pre (X++Y)=true
 | [],(q,b),Y,pre,h=>by
  simp only [List.nil_append,qQ,Bool.and_eq_true]at h
  exact DD (List.sublist_cons_self q pre) h.2
 | (a,c)::X,e,Y,pre,h=>by
  simp only [List.cons_append,qQ,Bool.and_eq_true]at h ⊢
  obtain⟨⟨⟨h1,h2⟩,h3⟩,h4⟩:=h
  refine⟨⟨⟨h1,h2⟩, ?_⟩,Ay h4⟩
  rw [List.all_eq_true]at h3 ⊢
  intro j hj
  have:=h3 j hj
  simp only [Bool.and_eq_true,Bool.not_eq_true']at this ⊢
  refine⟨this.1, ?_⟩
  have h5:=this.2
  rw [← Bool.not_eq_true,List.contains_iff_mem]at h5 ⊢
  refine fun hm=>h5 ?_
  simp only [List.map_append,List.map_cons,List.mem_append,List.mem_cons]at hm ⊢
  exact hm.imp id .inr
theorem qj : ∀ {X:List (Nat×Nat)} {q b:Nat} {Y:List (Nat×Nat)} {pre:List Nat},qQ is af pt pre (X++(q,b)::Y)=true→
 mK is pt ((X.map (·.1)).reverse++pre) q b=true∧q∉X.map (·.1)∧q∉pre∧(∀ j∈fQ af q,j≠q∧j∉Y.map (·.1))∧qQ is af pt (q::((X.map (·.1)).reverse++pre)) Y=true
 | [],q,b,Y,pre,h=>by
  simp only [List.nil_append,qQ,Bool.and_eq_true,Bool.not_eq_true']at h
  obtain⟨⟨⟨h1,h2⟩,h3⟩,h4⟩:=h
  rw [← Bool.not_eq_true,List.contains_iff_mem]at h2
  refine⟨h1,by simp,h2,fun j hj=> ?_,h4⟩
  rw [List.all_eq_true]at h3
  have:=h3 j hj
  simp only [Bool.and_eq_true,bne_iff_ne,Bool.not_eq_true', ← Bool.not_eq_true,List.contains_iff_mem]at this
  exact this
 | (a,c)::X,q,b,Y,pre,h=>by
  simp only [List.cons_append,qQ,Bool.and_eq_true]at h
  obtain⟨_,h4⟩:=h
  obtain⟨g1,g2,g3,g4,g5⟩:=qj h4
  simp only [List.map_cons,List.reverse_cons,List.append_assoc,List.singleton_append]
  refine⟨g1, ?_,fun h=>g3 (List.mem_cons_of_mem _ h),g4,g5⟩
  intro hm
  rcases List.mem_cons.1 hm with rfl | hm
  ·exact g3 (by simp)
  ·exact g2 hm
theorem xx : ∀ {Y:List (Nat×Nat)} {pre:List Nat},qQ is af pt pre Y=true→∀ x∈Y,x.1∉pre∧(gR is x.1 = .alloc→∀ a∈pre,jv is a x.1=true)
 | [],_,_,x,hx=>by cases hx
 | (q,b)::Y,pre,h,x,hx=>by
  simp only [qQ,Bool.and_eq_true,Bool.not_eq_true']at h
  obtain⟨⟨⟨h1,h2⟩,_⟩,h4⟩:=h
  rw [← Bool.not_eq_true,List.contains_iff_mem]at h2
  rcases List.mem_cons.1 hx with rfl | hx
  ·refine⟨h2,fun hk a ha=> ?_⟩
   unfold mK at h1
   simp only [hk]at h1
   rw [List.all_eq_true]at h1
   exact h1 a ha
  ·obtain⟨g1,g2⟩:=xx h4 x hx
   exact⟨fun h=>g1 (List.mem_cons_of_mem _ h),fun hk a ha=>g2 hk a (List.mem_cons_of_mem _ ha)⟩
theorem xZ : ∀ {n:Nat},tR af pt n=true→∀ i,i<n→∀ j∈fQ pt i,j∈fQ af i∨∃ k∈fQ af i,j∈fQ pt k
 | 0,_,i,hi=>by omega
 | n+1,h,i,hi=>by
  simp only [tR,Bool.and_eq_true]at h
  rcases Nat.lt_or_ge i n with h1 | h1
  ·exact xZ h.2 i h1
  ·have:i=n:=by omega
   subst this
   intro j hj
   have:=h.1
   rw [List.all_eq_true]at this
   have:=this j hj
   simp only [Bool.or_eq_true,List.contains_iff_mem,List.any_eq_true]at this
   exact this
theorem uc {pq:List Nat} : ∀ {l:List Nat},jl is pq l=true→∀ (x:Nat) (l1 l2:List Nat),l=l1++x::l2→gR is x = .alloc→x∈pq→∀ y∈l2,y∈pq
 | [],_,x,l1,l2,h=>by simp at h
 | a::l,hb,x,l1,l2,h=>by
  simp only [jl,Bool.and_eq_true,Bool.or_eq_true,Bool.not_eq_true',Bool.and_eq_false_iff]at hb
  intro hk hx y hy
  cases l1 with
  | nil=>
   simp only [List.nil_append,List.cons.injEq]at h
   obtain⟨rfl,rfl⟩:=h
   rcases hb.1 with h1 | h1
   ·rcases h1 with h1 | h1
    ·simp [hk]at h1
    ·rw [← Bool.not_eq_true,List.contains_iff_mem]at h1
     exact(h1 hx).elim
   ·rw [List.all_eq_true]at h1
    have:=h1 y hy
    rwa [List.contains_iff_mem]at this
  | cons b l1=>
   simp only [List.cons_append,List.cons.injEq]at h
   exact uc hb.2 x l1 l2 h.2 hk hx y hy
end
structure Pd where
 q:Nat
 t:Nat
 z:List D
 b:Nat
structure RH (is:List AI) (R:List (Nat×Nat)) (B:fY) (M:Map) (s:St) (act:Act) (w:World) (p:Pd):Prop where
 mem:p.q∈R.map (·.1)
 ai:is[p.q]? = some (.op (some p.t) none (.alloc p.z))
 cells : ∃ (vs:Array Value) (T:TypeId),w.heap[p.b]? = some (.cells vs T (0,0))∧vs.size=p.z.length∧(∀ v∈vs,v.oneCell'=true)∧
  ∀ (M:Map) (s:St) (i:Nat) (d:D) (v:Value),p.z[i]? = some d→vs[i]? = some v→RD M s d v
 unk:FV M s p.b
 base:B.w.heap.size≤p.b
 slot:act.tmps.getD p.t Go.undef = .pointer (some ⟨p.b,0,none⟩)
def uS (P:Program) (is:List AI) (K:Tm→St→Prop) (B:fY) (nt:Nat) (R:List (Nat×Nat)) (du:List Pd) (act:Act) (w:World):Prop:=
 ∃ (M:Map) (s:St) (tm qk:Tm) (bt:List St),Ext B.M B.s B.w M s w∧Rel M s w∧jZ M s qk act.tmps∧(∀ t,(∀ p∈du,p.t≠t)→qk.get t=tm.get t)∧
  act.tmps.size=nt∧act.defers = []∧jh P is K R bt tm s∧(∀ p∈du,RH is R B M s act w p)∧
  (∀ p∈du,∀ p'∈du,p.q=p'.q∨p.t=p'.t∨p.b=p'.b→p=p')
structure oH (is:List AI) (af pt:List (List Nat)) (cJ:Array Bool) (R:List (Nat×Nat)) (du:List Pd):Prop where
 ok:qQ is af pt [] R=true
 BB : ∀ i,i<is.length→(cJ.getD i false=true↔(i∉R.map (·.1)∨∃ p∈du,p.q=i))
 cl : ∀ i,i<is.length→cJ.getD i false=true→∀ j∈fQ pt i,cJ.getD j false=true
 size:cJ.size=is.length
 lt : ∀ x∈R,x.1<is.length
section
variable {P:Program} {is:List AI} {af pt:List (List Nat)} {K:Tm→St→Prop} {B:fY} {nt:Nat}
theorem RI {cJ:Array Bool} {q b:Nat} {R:List (Nat×Nat)} {du:List Pd} {act:Act} {w:World} (hs:oH is af pt cJ ((q,b)::R) du) (h:uS P is K B nt ((q,b)::R) du act w)
 {p:Pd} (hp:p∈du) (qT:p.q=q) :
 oH is af pt cJ R (du.filter fun p'=>decide (p'.q≠q))∧uS P is K B nt R (du.filter fun p'=>decide (p'.q≠q)) act w:=by
 have ma : ∀ p',p'∈(du.filter fun p'=>decide (p'.q≠q))↔p'∈du∧p'.q≠q:=fun p'=>by simp
 constructor
 ·have Bx:=hs.ok
  have ym:=qj (X:= []) Bx
  refine⟨Ay (X:= []) Bx,fun i hi=> ?_,hs.cl,hs.size,fun x hx=>hs.lt x (List.mem_cons_of_mem _ hx)⟩
  rw [hs.BB i hi]
  simp only [List.map_cons,List.mem_cons,not_or]
  have RJ:q∉R.map (·.1):=fun hm=>by
   obtain⟨x,hx,rfl⟩:=List.mem_map.1 hm
   exact(xx ym.2.2.2.2 x hx).1 (by simp)
  constructor
  ·rintro(⟨h1,h2⟩ | ⟨p',h1,h2⟩)
   ·exact .inl h2
   ·by_cases hq:i=q
    ·subst hq;exact .inl RJ
    ·exact .inr ⟨p',(ma p').2 ⟨h1,by rw [h2];exact hq⟩,h2⟩
  ·rintro(h1 | ⟨p',h1,h2⟩)
   ·by_cases hq:i=q
    ·subst hq;exact .inr ⟨p,hp,qT⟩
    ·exact .inl ⟨hq,h1⟩
   ·exact .inr ⟨p',((ma p').1 h1).1,h2⟩
 ·obtain⟨M,s,tm,qk,bt,e,r,ht,nV,hn,hd,hg,sF,pX⟩:=h
  have hk:=sF p hp
  obtain⟨vs,T,hh,hl,h1,h2⟩:=hk.cells
  have sC:=hk.ai
  rw [qT]at sC
  simp only [jh,sC,AI.kind,fF]at hg
  obtain⟨d,s',xP,hg⟩:=hg
  have oo:aP (.alloc p.z) tm s=some (d,s'):=xP
  simp only [aP,Option.some.injEq,Prod.mk.injEq]at oo
  obtain⟨rfl,rfl⟩:=oo
  obtain⟨r',e',le⟩:=r.Uy e hk.unk hk.base p.z vs T hh hl h1 (h2 M s)
  refine⟨_,_,_,qk.put (some p.t) (.ptr s.aw.length 0),_,e',r',fun u=> ?_,fun t RK=> ?_,hn,hd,hg,fun p' mq=> ?_,fun p1 h1 p2 h2=>pX p1 ((ma p1).1 h1).1 p2 ((ma p2).1 h2).1⟩
  ·rw [Tm.jz]
   split
   ·rename_i heq
    cases heq
    rw [hk.slot]
    have:(M.dD s.aw.length p.b).mu s.aw.length=p.b:=by simp [Map.dD,Map.mu]
    have h5:=RD.ptr (M:=M.dD s.aw.length p.b) (s:= {s with aw:=s.aw++ [p.z]}) s.aw.length 0 (by simp) (by simp [Map.dD,Map.ob])
    rw [this]at h5
    exact h5
   ·exact(ht u).mono le
  ·simp only [AI.dst]
   rw [Tm.jz,Tm.jz]
   split
   ·rfl
   ·rename_i eQ
    refine nV t fun p' mq=> ?_
    by_cases hq:p'.q=q
    ·have:=pX p' mq p hp (.inl (hq.trans qT.symm))
     subst this
     exact fun h=>eQ (by rw [h])
    ·exact RK p' ((ma p').2 ⟨mq,hq⟩)
  ·obtain⟨W2,W3⟩:=(ma p').1 mq
   have x3:=sF p' W2
   refine⟨?_,x3.ai,x3.cells,⟨fun o ho=> ?_,x3.unk.t,x3.unk.g⟩,x3.base,x3.slot⟩
   ·have:=x3.mem
    simp only [List.map_cons,List.mem_cons]at this
    exact this.resolve_left W3
   ·simp at ho
    rcases Nat.lt_or_ge o s.aw.length with h5 | h5
    ·rw [le.mu o h5];exact x3.unk.o o h5
    ·have:o=s.aw.length:=by omega
     subst this
     have:(M.dD s.aw.length p.b).mu s.aw.length=p.b:=by simp [Map.dD,Map.mu]
     rw [this]
     intro hb
     have:=pX p hp p' W2 (.inr (.inr hb))
     subst this
     exact W3 qT
theorem norm {cJ:Array Bool} {act:Act} {w:World} : ∀ (R:List (Nat×Nat)) (du:List Pd),oH is af pt cJ R du→uS P is K B nt R du act w→
 ∃ R' sG,oH is af pt cJ R' sG∧uS P is K B nt R' sG act w∧∀ x l,R'=x::l→∀ p∈sG,p.q≠x.1
 | [],du,hs,h=>⟨[],du,hs,h,fun _ _ he=>by cases he⟩
 | (q,b)::R,du,hs,h=>by
  by_cases hp : ∃ p∈du,p.q=q
  ·obtain⟨p,hp,qT⟩:=hp
   obtain⟨h1,h2⟩:=RI hs h hp qT
   exact norm R _ h1 h2
  ·refine⟨(q,b)::R,du,hs,h,fun x l he p RL qT=>hp ⟨p,RL, ?_⟩⟩
   cases he
   exact qT
theorem ON {ops:Array Oper} {q:Nat} {o:Oper} {ai:AI} (hi:ops[q]? = some o) (hc:cI P nt ops o=some ai) {R R':List (Nat×Nat)} {du:List Pd} {act:Act} {w:World} {M:Map} {s s1:St} {tm qk:Tm} {d:D} {OO:List St}
 (e:Ext B.M B.s B.w M s w) (r:Rel M s w) (ht:jZ M s qk act.tmps) (nV : ∀ t,(∀ p∈du,p.t≠t)→qk.get t=tm.get t) (hn:act.tmps.size=nt) (hd:act.defers = [])
 (sF : ∀ p∈du,RH is R B M s act w p) (pX : ∀ p∈du,∀ p'∈du,p.q=p'.q∨p.t=p'.t∨p.b=p'.b→p=p')
 (hv:gy P [ai] (fun a b=>a=qk.put ai.dst d∧b=s1) qk s) (hg:jh P is K R' OO (tm.put ai.dst d) s1)
 (ma : ∀ p∈du,p.q∈R'.map (·.1)) (n6 : ∀ p∈du,ai.dst≠some p.t) {Q:Exit→Act→World→Prop} :
 wpOp P ops Q q (uS P is K B nt R' du) act w:=by
 refine ti hi hc r (B.laid.ext e) ht hv fun d' v s2 w1 M1 hk e1 r1 nK=> ?_
 obtain⟨xS,rfl⟩:=hk
 have W4:=qi hc
 have hD : ∀ t,o.dst=some t→t<act.tmps.size:=fun t h=>by rw [hn];exact tY hc t h
 refine⟨M1,s2,tm.put ai.dst d,qk.put ai.dst d,OO,e.trans e1,r1, ?_,fun t RK=> ?_, ?_, ?_,hg,fun p hp=> ?_,pX⟩
 ·rw [← xS,W4]
  exact(ht.mono e1.le).put hD nK
 ·rw [Tm.jz,Tm.jz,nV t RK]
 ·cases ho:o.dst <;> simp [Act.put,hn]
 ·cases ho:o.dst <;> simp [Act.put,hd]
 ·have hk:=sF p hp
  obtain⟨vs,T,hh,hl,h1,h2⟩:=hk.cells
  have hb:=jX hh
  refine⟨ma p hp,hk.ai,⟨vs,T,by rw [e1.kept p.b hb hk.unk.o hk.unk.t];exact hh,hl,h1,h2⟩,hk.unk.mono e1 hb,hk.base, ?_⟩
  rw [← hk.slot]
  have:=n6 p hp
  rw [W4]at this
  cases ho:o.dst with
  | none=>rfl
  | some t=>
   rw [ho]at this
   have eQ:t≠p.t:=fun h=>this (by rw [h])
   simp [Act.put,Array.getElem?_setIfInBounds_ne eQ]
theorem G3 {ai:AI} (hm:fF ai.kind=false) {tm:Tm} {s:St} {d:D} (h:iw ai tm s=some d):gy P [ai] (fun a b=>a=tm.put ai.dst d∧b=s) tm s:=by
 cases ai with
 | op dst g o=>
  have hko:=FU hm
  have key : ∀ {d},(aP o tm s).map (·.1)=some d→aP o tm s=some (d,s):=by
   intro d h
   cases he:aP o tm s with
   | none=>rw [he]at h;cases h
   | some p=>
    obtain⟨d',s'⟩:=p
    rw [he]at h
    simp only [Option.map_some,Option.some.injEq]at h
    subst h
    rw [E8 (by rw [← hko];exact hm) he]
  simp only [gy,AI.dst]
  cases g with
  | none=>
   simp only [iw]at h
   simp only [guarded,key h,and_self]
  | some p=>
   obtain⟨t,want⟩:=p
   simp only [iw]at h
   simp only [guarded]
   split at h
   ·rename_i b hb
    simp only [hb]
    split at h
    ·rename_i heq
     refine⟨fun _=>by simp only [key h,and_self],fun eQ=> ?_⟩
     subst heq
     cases b <;> cases eQ
    ·rename_i eQ
     cases h
     exact⟨fun heq=>(eQ heq).elim,fun _=>by simp⟩
   ·rename_i ds hb
    cases h
    simp only [hb,and_self]
   ·cases h
 | call dst g f xs=>cases hm
 | nil dst g n x=>cases hm
 | gQ dst g t xs=>cases hm
theorem wE {g:Option (Nat×Bool)} {tm:Tm} {A A' C C':Prop} (ha:A→A') (hc:C→C') (hh:guarded g tm A C):guarded g tm A' C':=by
 cases g with
 | none=>exact ha hh
 | some p=>
  obtain⟨t,want⟩:=p
  unfold guarded at *
  simp only at *
  split
  ·rename_i b hb;rw [hb]at hh;exact⟨fun e=>ha (hh.1 e),fun e=>hc (hh.2 e)⟩
  ·rename_i hb;rw [hb]at hh;exact hc hh
  ·rename_i x h1 h2
   split at hh
   ·exact h1 _ ‹_›
   ·exact h2 _ ‹_›
   ·exact hh
theorem DE {ai:AI} {tm:Tm} {s s1:St} {d:D} (h:pU P ai tm s d s1):gy P [ai] (fun a b=>a=tm.put ai.dst d∧b=s1) tm s:=by
 cases ai with
 | op dst g o=>
  refine wE (fun e=> ?_) (fun e=> ?_) h
  ·rw [e];exact⟨rfl,rfl⟩
  ·obtain⟨rfl,rfl⟩:=e;exact⟨rfl,rfl⟩
 | call dst g f xs=>
  refine wE (fun e=> ?_) (fun e=> ?_) h
  ·exact e.mono fun x y hxy=>by obtain⟨rfl,rfl⟩:=hxy;exact⟨rfl,rfl⟩
  ·obtain⟨rfl,rfl⟩:=e;exact⟨rfl,rfl⟩
 | nil dst g n x=>exact h.elim
 | gQ dst g t xs=>exact h.elim
end
end Go.Abs

/-! Par3 -/

namespace Go.Abs
section
variable {P:Program} {is:List AI} {af pt:List (List Nat)} {K:Tm→St→Prop} {B:fY} {nt:Nat}
theorem xy {ops:Array Oper} : ∀ {ol:List Oper} {is:List AI},oB P nt ops ol=some is→is.length=ol.length∧∀ (i:Nat) (o:Oper),ol[i]? = some o→∃ ai,is[i]? = some ai∧cI P nt ops o=some ai
 | [],is,h=>by cases h;exact⟨rfl,by simp⟩
 | o::ol,is,h=>by
  unfold oB at h
  split at h
  ·rename_i ai Jw h1 h2
   cases h
   obtain⟨g1,g2⟩:=xy h2
   refine⟨by simp [g1],fun i o' ho=> ?_⟩
   cases i with
   | zero=>simp at ho;subst ho;exact⟨ai,rfl,h1⟩
   | succ i=>exact g2 i o' (by simpa using ho)
  ·cases h
theorem pY {cJ:Array Bool} {i:Nat} (h:i<cJ.size):cJ.getD i true=cJ.getD i false:=by
 simp [h]
theorem oH.done {cJ:Array Bool} {X Y:List (Nat×Nat)} {q b:Nat} {du:List Pd} (hs:oH is af pt cJ (X++(q,b)::Y) du) (hq:q<is.length)
 (BD : ∀ j∈fQ pt q,cJ.getD j false=true):oH is af pt (cJ.setIfInBounds q true) (X++Y) du:=by
 obtain⟨g1,g2,g3,g4,g5⟩:=qj hs.ok
 have hqY:q∉Y.map (·.1):=fun hm=>by
  obtain⟨x,hx,rfl⟩:=List.mem_map.1 hm
  exact(xx g5 x hx).1 (by simp)
 refine⟨Ay hs.ok,fun i hi=> ?_,fun i hi hl j hj=> ?_,by simp [hs.size],fun x hx=>hs.lt x (by simp at hx ⊢;exact hx.imp id .inr)⟩
 ·by_cases qS:i=q
  ·subst qS
   have:i<cJ.size:=by rw [hs.size];exact hq
   simp only [List.map_append,List.mem_append,g2,hqY,or_self,not_false_eq_true,true_or,iff_true]
   simp [this]
  ·rw [getD_set_ne false (Ne.symm qS),hs.BB i hi]
   simp [qS]
 ·by_cases qS:i=q
  ·subst qS;exact getD_set_true (BD j hj)
  ·rw [getD_set_ne false (Ne.symm qS)]at hl
   exact getD_set_true (hs.cl i hi hl j hj)
theorem oH.flag {cJ:Array Bool} {R:List (Nat×Nat)} {du:List Pd} (hs:oH is af pt cJ R du) {p:Pd} (hq:p.q<is.length)
 (BD : ∀ j∈fQ pt p.q,cJ.getD j false=true):oH is af pt (cJ.setIfInBounds p.q true) R (p::du):=by
 refine⟨hs.ok,fun i hi=> ?_,fun i hi hl j hj=> ?_,by simp [hs.size],hs.lt⟩
 ·by_cases qS:i=p.q
  ·subst qS
   have:p.q<cJ.size:=by rw [hs.size];exact hq
   simp [this]
  ·rw [getD_set_ne false (Ne.symm qS),hs.BB i hi]
   have eQ:p.q≠i:=fun h=>qS h.symm
   simp [eQ]
 ·by_cases qS:i=p.q
  ·subst qS;exact getD_set_true (BD j hj)
  ·rw [getD_set_ne false (Ne.symm qS)]at hl
   exact getD_set_true (hs.cl i hi hl j hj)
theorem G4 {ai:AI} (h:ai.kind = .alloc) : ∃ t z,ai = .op (some t) none (.alloc z):=by
 cases ai with
 | op dst g o=>
  unfold AI.kind at h
  split at h
  ·rename_i heq;cases heq;exact⟨_,_,rfl⟩
  ·rename_i heq
   cases heq
   exfalso
   revert h
   cases o <;> simp [AO.kind]
  ·cases h
 | call dst g f xs=>cases h
 | nil dst g n x=>cases h
 | gQ dst g t xs=>cases h
theorem G5 {ops:Array Oper} (tj:oB P nt ops ops.toList=some is) (G6:tR af pt is.length=true)
 (hK : ∀ tm bJ s,Tm.eqv tm bJ→K tm s→K bJ s) {cJ:Array Bool} {R:List (Nat×Nat)} {du:List Pd} {act:Act} {w:World} (hs:oH is af pt cJ R du) (h:uS P is K B nt R du act w)
 (Uz : ∀ x l,R=x::l→∀ p∈du,p.q≠x.1) {q:Nat} (hq:q<is.length) (zq:cJ.getD q false=false) (nK : ∀ j∈fQ af q,j<is.length∧cJ.getD j false=true)
 {Q:Exit→Act→World→Prop} {K2:Act→World→Prop} (RN : ∀ R' sG a' w',oH is af pt (cJ.setIfInBounds q true) R' sG→uS P is K B nt R' sG a' w'→K2 a' w'):wpOp P ops Q q K2 act w:=by
 obtain⟨hlen,hJ⟩:=xy tj
 have OB:q<ops.size:=by rw [hlen]at hq;simpa using hq
 obtain⟨ai,sC,JK⟩:=hJ q ops[q] (by simp [OB])
 have hi:ops[q]? = some ops[q]:=by simp [OB]
 have BD : ∀ j∈fQ pt q,cJ.getD j false=true:=fun j hj=>by
  rcases xZ G6 q hq j hj with h1 | ⟨k,h1,h2⟩
  ·exact(nK j h1).2
  ·exact hs.cl k (nK k h1).1 (nK k h1).2 j h2
 have JL : ∀ p∈du,p.q≠q:=fun p hp qT=>by
  have:=(hs.BB q hq).2 (.inr ⟨p,hp,qT⟩)
  rw [zq]at this;cases this
 have RJ:q∈R.map (·.1):=by
  by_cases hm:q∈R.map (·.1)
  ·exact hm
  ·have:=(hs.BB q hq).2 (.inl hm)
   rw [zq]at this;cases this
 obtain⟨⟨q',b⟩,hx,W5⟩:=List.mem_map.1 RJ
 simp only at W5
 subst W5
 obtain⟨X,Y,rfl⟩:=List.append_of_mem hx
 obtain⟨g1,g2,g3,g4,g5⟩:=qj hs.ok
 rw [List.append_nil]at g1 g5
 obtain⟨M,s,tm,qk,bt,e,r,ht,nV,hn,hd,hg,sF,pX⟩:=h
 have JM:gR is q'=ai.kind:=by simp [gR,sC]
 -- what must have come up ahead of it, is not here any more, but for what was allocated early
 have OP : ∀ a∈X.map (·.1),a∈fQ pt q'→∃ p∈du,p.q=a:=fun a ha cf=>by
  have h1:=BD a cf
  obtain⟨x,W6,rfl⟩:=List.mem_map.1 ha
  rcases(hs.BB x.1 (hs.lt x (by simp [W6]))).1 h1 with h2 | h2
  ·exact(h2 (by simp;exact .inl ⟨x.2,W6⟩)).elim
  ·exact h2
 have OQ : ∀ x l,X=x::l→x.1∉fQ pt q':=fun x l hX hxp=>by
  obtain⟨p,hp,qT⟩:=OP x.1 (by simp [hX]) hxp
  exact Uz x (l++(q',b)::Y) (by simp [hX]) p hp qT
 have W7 : ∀ p∈du,gR is p.q = .alloc:=fun p hp=>by simp [gR,(sF p hp).ai,AI.kind]
 have ym : ∀ p∈du,(p.q∈X.map (·.1)→jv is p.q q'=true)→(∀ t,ai.dst=some t→t≠p.t)∧p.t∉ai.reads:=fun p hp hX=>by
  have hk:=sF p hp
  have hm:=hk.mem
  simp only [List.map_append,List.map_cons,List.mem_append,List.mem_cons]at hm
  rcases hm with hm | hm | hm
  ·have:=hX hm
   simp only [jv,hk.ai,sC]at this
   obtain⟨p1,p2,p3⟩:=apart_spec this
   exact⟨fun t ht he=>p3 p.t rfl (by rw [ht,he]),p1 p.t rfl⟩
  ·exact(JL p hp hm).elim
  ·obtain⟨x,hxY,OR⟩:=List.mem_map.1 hm
   have:=(xx g5 x hxY).2 (by rw [OR];exact W7 p hp) q' (by simp)
   rw [OR]at this
   simp only [jv,hk.ai,sC]at this
   obtain⟨p1,p2,p3⟩:=apart_spec this
   exact⟨fun t ht he=>p3 t ht (by rw [he];rfl),p2 p.t rfl⟩
 have JN:(∀ p∈du,p.t∉ai.reads)→∀ t∈ai.reads,tm.get t=qk.get t:=fun hp t ht=>(nV t fun p RL he=>hp p RL (by rw [he];exact ht)).symm
 have OS : ∀ p∈du,p.q∈(X++Y).map (·.1):=fun p hp=>by
  have hm:=(sF p hp).mem
  have:=JL p hp
  simp only [List.map_append,List.map_cons,List.mem_append,List.mem_cons]at hm ⊢
  rcases hm with hm | hm | hm
  ·exact .inl hm
  ·exact(this hm).elim
  ·exact .inr hm
 by_cases pw:ai.kind = .alloc
 ·-- an allocation
  obtain⟨t,z,rfl⟩:=G4 pw
  have cf : ∀ a∈X.map (·.1),jv is a q'=true:=fun a ha=>by
   unfold mK at g1
   rw [JM,pw]at g1
   simp only [List.all_reverse,List.all_eq_true]at g1
   exact g1 a ha
  have BE:=fun p hp=>ym p hp (cf p.q)
  refine E9 hi JK fun vs T hl h1 h2=> ?_
  obtain⟨r1,e1,u1⟩:=r.idle (.cells vs T)
  have RO:t<act.tmps.size:=by
   rw [hn]
   exact tY JK t (by rw [← qi JK];rfl)
  have:=hs.flag (p:=⟨q',t,z,w.heap.size⟩) hq BD
  refine RN _ _ _ _ this ⟨M,s,tm,qk.put (some t) .junk,bt,e.trans e1,r1,jZ.put ht (dst:=some t) (fun u hu=>by cases hu;exact RO) (.junk _),fun u hu=> ?_,by simp [Act.put,hn],by simp [Act.put,hd],hg,fun p hp=> ?_,fun p hp p' mq he=> ?_⟩
  ·have h3:=hu ⟨q',t,z,w.heap.size⟩ (by simp)
   rw [Tm.jz,if_neg (by simpa using h3)]
   exact nV u fun p hp=>hu p (List.mem_cons_of_mem _ hp)
  ·rcases List.mem_cons.1 hp with rfl | hp
   ·refine⟨by simp,sC,⟨vs,T,heap_alloc_new w _,hl,h1,h2⟩,u1,e.size, ?_⟩
    simp [Act.put,RO]
   ·have hk:=sF p hp
    obtain⟨e7,T',j7,nA,nC,qg⟩:=hk.cells
    refine⟨hk.mem,hk.ai,⟨e7,T',by rw [heap_alloc_old w _ _ (jX j7)];exact j7,nA,nC,qg⟩,hk.unk,hk.base, ?_⟩
    rw [← hk.slot]
    have eQ:t≠p.t:=(BE p hp).1 t rfl
    simp [Act.put,Array.getElem?_setIfInBounds_ne eQ]
  ·have dN : ∀ p∈du,¬ (q'=p.q∨t=p.t∨w.heap.size=p.b):=fun p hp h=>by
    rcases h with h | h | h
    ·exact JL p hp h.symm
    ·exact(BE p hp).1 t rfl h
    ·obtain⟨e7,T',j7,_⟩:=(sF p hp).cells
     have:=jX j7
     omega
   rcases List.mem_cons.1 hp with rfl | hp <;> rcases List.mem_cons.1 mq with rfl | mq
   ·rfl
   ·exact(dN p' mq he).elim
   ·exact(dN p hp (he.imp Eq.symm (Or.imp Eq.symm Eq.symm))).elim
   ·exact pX p hp p' mq he
 ·by_cases lQ:fF ai.kind=true
  ·-- a step that changes something: it stands first
   have hkc:ai.kind = .core:=by
    cases hk:ai.kind <;> simp_all [fF]
   have hX:X = []:=by
    cases X with
    | nil=>rfl
    | cons x l=>
     refine(OQ x l rfl ?_).elim
     unfold mK at g1
     rw [JM,hkc]at g1
     simp only [List.all_reverse,List.all_eq_true]at g1
     have:=g1 x.1 (by simp)
     rwa [List.contains_iff_mem]at this
   subst hX
   have BE:=fun p hp=>ym p hp (fun h=>by simp at h)
   simp only [List.nil_append,jh,sC,lQ]at hg
   obtain⟨d,s1,xP,hg⟩:=hg
   have XS:=tf (JN fun p hp=>(BE p hp).2) xP
   refine wpOp_mono (fun a' w' hr=>RN _ _ _ _ (hs.done hq BD) hr) ?_
   exact ON hi JK e r ht nV hn hd sF pX (DE XS) hg OS (fun p hp he=>(BE p hp).1 _ he rfl)
  ·-- a step that changes nothing
   have hm:fF ai.kind=false:=by simpa using lQ
   have mR : ∀ a∈X.map (·.1),a∉fQ pt q':=fun a ha cf=>by
    obtain⟨p,hp,qT⟩:=OP a ha cf
    have Ju:gR is a = .alloc:=by rw [← qT];exact W7 p hp
    have iY:jl is (fQ pt q') (X.map (·.1)).reverse=true:=by
     unfold mK at g1
     rw [JM]at g1
     cases hk:ai.kind with
     | pure=>simp only [hk,Bool.and_eq_true]at g1;exact g1.2
     | load=>simp only [hk,Bool.and_eq_true]at g1;exact g1.1.2
     | alloc=>exact(pw hk).elim
     | core=>rw [hk]at hm;cases hm
    cases X with
    | nil=>simp at ha
    | cons x l=>
     have ha2:a∈((x::l).map (·.1)).reverse:=List.mem_reverse.2 ha
     obtain⟨l1,l2,mS⟩:=List.append_of_mem ha2
     have yo:=uc iY a l1 l2 mS Ju cf
     refine OQ x l rfl ?_
     cases mh:l2.reverse with
     | nil=>
      have h3:l2 = []:=by simpa using mh
      subst h3
      have:=congrArg List.reverse mS
      simp at this
      rw [this.1];exact cf
     | cons y l3=>
      have:=congrArg List.reverse mS
      simp only [List.reverse_reverse,List.map_cons,List.reverse_append,List.reverse_cons,List.reverse_nil,List.append_assoc,mh,List.cons_append,List.nil_append,List.cons.injEq]at this
      rw [this.1]
      exact yo y (by rw [← List.mem_reverse,mh];simp)
   have cf : ∀ a∈X,jv is a.1 q'=true:=fun a ha=>by
    have h3 : ∀ x∈(X.map (·.1)).reverse,((fQ pt q').contains x || jv is x q')=true:=by
     unfold mK at g1
     rw [JM]at g1
     cases hk:ai.kind with
     | pure=>simp only [hk,Bool.and_eq_true]at g1;exact List.all_eq_true.1 g1.1
     | load=>simp only [hk,Bool.and_eq_true]at g1;exact List.all_eq_true.1 g1.1.1
     | alloc=>exact(pw hk).elim
     | core=>rw [hk]at hm;cases hm
    have:=h3 a.1 (List.mem_reverse.2 (List.mem_map_of_mem ha))
    simp only [Bool.or_eq_true,List.contains_iff_mem]at this
    exact this.resolve_left (mR a.1 (List.mem_map_of_mem ha))
   have RP:ai.kind = .load→gW is (X.map (·.1))≤b:=fun hk=>by
    unfold mK at g1
    rw [JM,hk]at g1
    simp only [Bool.and_eq_true,decide_eq_true_eq]at g1
    have h3:=g1.2
    have h4:(X.map (·.1)).reverse.filter (fun a=> !(fQ pt q').contains a)=(X.map (·.1)).reverse:=by
     rw [List.filter_eq_self]
     intro a ha
     have:=mR a (List.mem_reverse.1 ha)
     simpa using this
    rw [h4]at h3
    unfold gW at h3 ⊢
    rw [List.filter_reverse,List.length_reverse]at h3
    exact h3
   have BE:=fun p hp=>ym p hp (fun h=>by
    obtain⟨x,hx,OR⟩:=List.mem_map.1 h
    rw [← OR];exact cf x hx)
   obtain⟨d,h1,_,OT⟩:=tg hK sC hm Y X bt tm s cf RP hg
   have nC:iw ai qk s=some d:=by rw [← oq (JN fun p hp=>(BE p hp).2)];exact h1
   refine wpOp_mono (fun a' w' hr=>RN _ _ _ _ (hs.done hq BD) hr) ?_
   exact ON hi JK e r ht nV hn hd sF pX (G3 hm nC) OT OS (fun p hp he=>(BE p hp).1 _ he rfl)
theorem x4 {o:Oper} {j:Nat} : j∈kL o↔∃ e∈o.after,Region.binds .any e=true∧e.on=j:=by
 simp only [kL,List.mem_map,List.mem_filter,Array.mem_toList_iff]
 constructor
 ·rintro⟨e,⟨h1,h2⟩,h3⟩;exact⟨e,h1,h2,h3⟩
 ·rintro⟨e,h1,h2,h3⟩;exact⟨e,⟨h1,h2⟩,h3⟩
theorem G7 {ops:Array Oper} (tj:oB P nt ops ops.toList=some is) (G6:tR (ops.toList.map kL) pt is.length=true)
 (RQ : ∀ i,i<is.length→∀ j∈fQ (ops.toList.map kL) i,j<is.length) {Q:Exit→Tm→St→Prop} (hK : ∀ tm bJ s,Tm.eqv tm bJ→K tm s→K bJ s)
 (hKQ : ∀ tm s act w,K tm s→Holds B nt tm s act w→nE B nt Q .normal act w) :
 ∀ (fuel:Nat) (cJ:Array Bool) (R:List (Nat×Nat)) (du:List Pd) (act:Act) (w:World) (U:List Nat),U.length≤fuel→(∀ j,j<is.length→cJ.getD j false=false→j∈U)→
  oH is (ops.toList.map kL) pt cJ R du→uS P is K B nt R du act w→wpAny P .any ops (nE B nt Q) fuel cJ act w:=by
 obtain⟨hlen,_⟩:=xy tj
 have sH:is.length=ops.size:=by rw [hlen];simp
 have RR : ∀ (j:Nat) (o:Oper),ops[j]? = some o→fQ (ops.toList.map kL) j=kL o:=fun j o h=>by
  simp [fQ,List.getD,h]
 have fin : ∀ {cJ:Array Bool} {du:List Pd} {act:Act} {w:World},uS P is K B nt [] du act w→nE B nt Q .normal act w:=by
  intro cJ du act w h
  obtain⟨M,s,tm,qk,bt,e,r,ht,nV,hn,hd,hg,sF,pX⟩:=h
  have Ds : ∀ p∈du,False:=fun p hp=>by have:=(sF p hp).mem;simp at this
  exact hKQ qk s act w (hK tm qk s (fun t=>(nV t fun p hp=>(Ds p hp).elim).symm) hg) ⟨M,e,r,ht,hn,hd⟩
 have JO : ∀ {cJ:Array Bool} {R:List (Nat×Nat)} {du:List Pd} {x:Nat×Nat} {l:List (Nat×Nat)},oH is (ops.toList.map kL) pt cJ R du→R=x::l→(∀ p∈du,p.q≠x.1)→
  x.1∈Region.ready .any ops cJ:=by
  intro cJ R du x l hs hR JL
  subst hR
  have hx:=hs.lt x (by simp)
  rw [mem_ready]
  have zq:cJ.getD x.1 false=false:=by
   cases hl:cJ.getD x.1 false with
   | false=>rfl
   | true=>
    rcases(hs.BB x.1 hx).1 hl with h1 | ⟨p,hp,qT⟩
    ·exact(h1 (by simp)).elim
    ·exact(JL p hp qT).elim
  have W8:x.1<ops.size:=by rw [← sH];exact hx
  refine⟨by rw [pY (by rw [hs.size];exact hx)];exact zq,ops[x.1],by simp [W8],fun e he hb=> ?_⟩
  have hm:e.on∈fQ (ops.toList.map kL) x.1:=by rw [RR x.1 ops[x.1] (by simp [W8])];exact x4.2 ⟨e,he,hb,rfl⟩
  obtain⟨_,_,_,g4,_⟩:=qj (X:= []) (q:=x.1) (b:=x.2) hs.ok
  obtain⟨h1,h2⟩:=g4 _ hm
  refine(hs.BB e.on (RQ x.1 hx _ hm)).2 (.inl ?_)
  simp only [List.map_cons,List.mem_cons,not_or]
  exact⟨h1,h2⟩
 intro fuel
 induction fuel with
 | zero=>
  intro cJ R du act w U hU zq hs h
  obtain⟨R',sG,mM,h',hn⟩:=norm R du hs h
  have hUn:U = []:=List.length_eq_zero_iff.1 (by omega)
  have yo : ∀ j,j<is.length→cJ.getD j false=true:=fun j hj=>by
   cases hl:cJ.getD j false with
   | true=>rfl
   | false=>have:=zq j hj hl;rw [hUn]at this;cases this
  have hR:R' = []:=by
   cases hR:R' with
   | nil=>rfl
   | cons x l=>
    have hx:=mM.lt x (by simp [hR])
    have:=JO mM hR (hn x l hR)
    rw [mem_ready,pY (by rw [mM.size];exact hx),yo x.1 hx]at this
    cases this.1
  subst hR
  refine⟨?_,fin (cJ:=cJ) h'⟩
  cases hr:Region.ready .any ops cJ with
  | nil=>rfl
  | cons j js=>
   have hj:j∈Region.ready .any ops cJ:=by rw [hr];simp
   rw [mem_ready]at hj
   obtain⟨h1,o,ho,_⟩:=hj
   have x5:j<is.length:=by rw [sH];exact(Array.getElem?_eq_some_iff.1 ho).1
   rw [pY (by rw [hs.size];exact x5),yo j x5]at h1
   cases h1
 | succ fuel ih=>
  intro cJ R du act w U hU zq hs h
  obtain⟨R',sG,mM,h',hn⟩:=norm R du hs h
  refine⟨fun hr=> ?_,fun i hi=> ?_⟩
  ·cases hR:R' with
   | nil=>subst hR;exact fin (cJ:=cJ) h'
   | cons x l=>
    have:=JO mM hR (hn x l hR)
    rw [hr]at this
    cases this
  ·rw [mem_ready]at hi
   obtain⟨h1,o,ho,XT⟩:=hi
   have nM:i<is.length:=by rw [sH];exact(Array.getElem?_eq_some_iff.1 ho).1
   rw [pY (by rw [hs.size];exact nM)]at h1
   refine G5 tj G6 hK mM h' hn nM h1 (fun j hj=>⟨RQ i nM j hj, ?_⟩) fun R2 UB a2 w2 FN h2=> ?_
   ·rw [RR i o ho]at hj
    obtain⟨e,he,hb,rfl⟩:=x4.1 hj
    exact XT e he hb
   ·refine ih _ R2 UB a2 w2 (U.erase i) ?_ (fun j hj hl=> ?_) FN h2
    ·have:=List.length_erase_of_mem (zq i nM h1)
     omega
    ·have W9:j≠i:=fun e=>by
      subst e
      have:j<cJ.size:=by rw [hs.size];exact nM
      simp [this]at hl
     rw [getD_set_ne false (Ne.symm W9)]at hl
     exact(List.mem_erase_of_ne W9).2 (zq j hj hl)
theorem Sem.par {is:List AI} {jP:List (Nat×Nat)} {Q:Exit→Tm→St→Prop} {tm:Tm} {s:St} (h:jh P is (Q .normal) jP [] tm s):Sem P B nt (.par is jP) Q tm s:=by
 intro c hc act w hh
 obtain⟨id,ops,rfl,hi,hm,pt,hp⟩:=j6 hc
 simp only [C9,Bool.and_eq_true,List.all_eq_true,List.mem_range,List.contains_iff_mem,decide_eq_true_eq]at hp
 obtain⟨⟨⟨⟨h1,h2⟩,h3⟩,h4⟩,h5⟩:=hp
 obtain⟨hlen,_⟩:=xy hi
 have sH:is.length=ops.size:=by rw [hlen];simp
 refine wp_region_any hm ?_
 obtain⟨M,e,r,ht,hn,hd⟩:=hh
 have key : ∀ (R:List (Nat×Nat)) (bt:List St) (tm:Tm) (s:St),jh P is (Q .normal) R bt tm s→jh P is (fun tm s=>∃ bJ,tm.eqv bJ∧Q .normal bJ s) R bt tm s:=by
  intro R
  induction R with
  | nil=>intro bt tm s h;exact⟨tm,fun _=>rfl,h⟩
  | cons x R ih=>
   obtain⟨q,b⟩:=x
   intro bt tm s h
   unfold jh at h ⊢
   split at h
   ·exact h.elim
   ·split at h
    ·obtain⟨d,s',h1,h2⟩:=h;exact⟨d,s',h1,ih _ _ _ h2⟩
    ·obtain⟨d,h1,h2,h3⟩:=h;exact⟨d,h1,h2,ih _ _ _ h3⟩
 have hg:=key _ _ _ _ h
 refine G7 (K:=fun tm s=>∃ bJ,tm.eqv bJ∧Q .normal bJ s) hi h1 h5 (fun tm bJ s he ⟨t2,h3,h4⟩=>⟨t2,fun t=>(he t).symm.trans (h3 t),h4⟩)
  (fun tm s act w ⟨t2,h3,h4⟩ ⟨M,e,r,ht,hn,hd⟩=>⟨t2,s,h4,M,e,r,fun t=>by rw [← h3 t];exact ht t,hn,hd⟩) ops.size _ jP [] act _ (List.range is.length) (by simp [sH]) (fun j hj _=>by simpa using hj)
  ⟨h2,fun i hi=> ?_,fun i hi hl=> ?_,by simp [sH],h4⟩ ⟨M,s,tm,tm,[],⟨e.le,e.kept,e.oy,e.oz,e.qv,e.size,e.os,e.tape,e.output⟩,r.of_heap rfl,ht,fun _ _=>rfl,hn,hd,hg,by simp,by simp⟩
 ·have:i<ops.size:=by rw [← sH];exact hi
  have h6:=h3 i hi
  simp only [List.not_mem_nil,false_and,exists_false,or_false]
  rw [show(Array.replicate ops.size false).getD i false=false by simp [this]]
  simp [h6]
 ·have:i<ops.size:=by rw [← sH];exact hi
  rw [show(Array.replicate ops.size false).getD i false=false by simp [this]]at hl
  cases hl
end
end Go.Abs

/-! Step -/

namespace Go.Abs
theorem PW (k:IntKind) (n:Int):D.row (.int k n)=some [.int k n]:=rfl
theorem L1 (b:Bool):D.row (.bool b)=some [.bool b]:=rfl
theorem PX (l:List UInt8):D.row (.str l)=some [.str l]:=rfl
theorem L2:D.row .eR=some [.eR]:=rfl
theorem PY (o f:Nat):D.row (.ptr o f)=some [.ptr o f]:=rfl
theorem L3 (r:List D) (f:Nat):D.row (.dJ r f)=some [.dJ r f]:=rfl
theorem JP (g:Tag) (z:Nat) (r:List (List D)):D.row (.slice g z r)=some [.slice g z r]:=rfl
theorem PZ (cs:List D):D.row (.agg cs)=some cs:=rfl
theorem P0 (v:Value):D.row (.val v)=some [.val v]:=rfl
theorem JQ (T:TypeId) (o:Nat):D.row (.eW T o)=some [.eW T o]:=rfl
theorem P1 (f:Nat) (cs:List D):D.row (.fM f cs)=some [.fM f cs]:=rfl
theorem L4 (o:Nat):D.row (.fL o)=some [.fL o]:=rfl
theorem L5 (w:Bool):Tag.cut .full w=if w then .full else .shared:=rfl
theorem G8 (w:Bool):Tag.cut .shared w = .shared:=rfl
theorem L6 (t:Nat) (y:Bool) (w:Bool):Tag.cut (.tok t y) w = .tok t y:=rfl
section
variable {P:Program}
def KC (P:Program) (r:List AI) (K:Tm→St→Prop) (tm:Tm) (dst:Option Nat) (d:D) (s:St):Prop:=gy P r K (tm.put dst d) s
def GI (P:Program) (g:D) (want:Bool) (i:AI) (r:List AI) (K:Tm→St→Prop) (tm:Tm) (s:St):Prop:=
 match g with
 | .bool b=>(b=want→gy P (i::r) K tm s)∧(b=(!want)→gy P r K (tm.put i.dst (.tuple [])) s)
 | .tuple _=>gy P r K (tm.put i.dst (.tuple [])) s
 | _=>False
def NI (P:Program) (dst:Option Nat) (neg:Bool) (x:D) (r:List AI) (K:Tm→St→Prop) (tm:Tm) (s:St):Prop:=
 match x with
 | .slice _ _ rows=>∀ b:Bool,(rows≠ []→b=false)→gy P r K (tm.put dst (.bool (if neg then !b else b))) s
 | _=>False
def q7 (d:D) (A C:Prop):Prop:=
 match d with
 | .bool b=>(b=true→A)∧(b=false→C)
 | _=>False
theorem Sem.UC {B:fY} {nt:Nat} {Q:Exit→Tm→St→Prop} {tm:Tm} {s:St} {x:X} {a b:AC} (h:q7 (x.ev tm) (Sem P B nt a Q tm s) (Sem P B nt b Q tm s)):Sem P B nt (.cond x a b) Q tm s:=by
 unfold q7 at h
 split at h
 ·rename_i t ht
  exact Sem.cond ht h.1 h.2
 ·exact h.elim
def fH (P:Program) (K:Tm→St→Prop):List (AI×Nat)→List St→Tm→St→Prop
 | [],_,tm,s=>K tm s
 | (ai,b)::r,bt,tm,s=>
  match fF ai.kind with
  | true=>∃ d s',pU P ai tm s d s'∧fH P K r (s::bt) (tm.put ai.dst d) s'
  | false=>∃ d,iw ai tm s=some d∧(ai.kind = .load→∀ s'∈bt.take b,iw ai tm s'=some d)∧fH P K r bt (tm.put ai.dst d) s
def kR (is:List AI):List (Nat×Nat)→Option (List (AI×Nat))
 | []=>some []
 | (q,b)::r=>match is[q]?,kR is r with
  | some ai,some l=>some ((ai,b)::l)
  | _,_=>none
theorem Az {is:List AI} {K:Tm→St→Prop} : ∀ {jP:List (Nat×Nat)} {items:List (AI×Nat)} {bt:List St} {tm:Tm} {s:St},kR is jP=some items→fH P K items bt tm s→jh P is K jP bt tm s
 | [],items,bt,tm,s,h,g=>by cases h;exact g
 | (q,b)::r,items,bt,tm,s,h,g=>by
  simp only [kR]at h
  split at h
  ·rename_i ai l h1 h2
   cases h
   simp only [fH]at g
   simp only [jh,h1]
   split at g
   ·rename_i hk
    obtain⟨d,s',g1,g2⟩:=g
    try simp only [hk]
    exact⟨d,s',g1,Az h2 g2⟩
   ·rename_i hk
    obtain⟨d,g1,g2,g3⟩:=g
    try simp only [hk]
    exact⟨d,g1,g2,Az h2 g3⟩
  ·cases h
theorem Sem.XU {B:fY} {nt:Nat} {Q:Exit→Tm→St→Prop} {tm:Tm} {s:St} {is:List AI} {jP:List (Nat×Nat)} {items:List (AI×Nat)} (hi:kR is jP=some items) (h:fH P (Q .normal) items [] tm s):Sem P B nt (.par is jP) Q tm s:=
 Sem.par (Az hi h)
def AI.free:AI→AI
 | .op d _ o=> .op d none o
 | .call d _ f xs=> .call d none f xs
 | .nil d _ n x=> .nil d none n x
 | .gQ d _ t xs=> .gQ d none t xs
def GL (P:Program) (g:D) (want:Bool) (i:AI) (b:Nat) (r:List (AI×Nat)) (K:Tm→St→Prop) (bt:List St) (tm:Tm) (s:St):Prop:=
 match g with
 | .bool v=>(v=want→fH P K ((i,b)::r) bt tm s)∧(v=(!want)→fH P K r (if fF i.kind then s::bt else bt) (tm.put i.dst (.tuple [])) s)
 | .tuple _=>fH P K r (if fF i.kind then s::bt else bt) (tm.put i.dst (.tuple [])) s
 | _=>False
def CL (P:Program) (f:Nat) (args:List D) (s:St) (K:D→St→Prop):Prop:=∃ d s',aD P f args s d s'∧K d s'
def KL (P:Program) (K:Tm→St→Prop) (r:List (AI×Nat)) (bt:List St) (tm:Tm) (dst:Option Nat) (d:D) (s:St):Prop:=fH P K r bt (tm.put dst d) s
def lT (i:AI) (tm:Tm) (d:D):List St→Prop
 | []=>True
 | s::r=>iw i tm s=some d∧lT i tm d r
theorem zr {i:AI} {tm:Tm} {d:D} : ∀ {l:List St},lT i tm d l→∀ s∈l,iw i tm s=some d
 | [],_,s,h=>by cases h
 | a::l,h,s,hs=>by
  rcases List.mem_cons.1 hs with rfl | hs
  ·exact h.1
  ·exact zr h.2 s hs
def PL (P:Program) (o:AO) (dst:Option Nat) (b:Nat) (r:List (AI×Nat)) (K:Tm→St→Prop) (bt:List St) (tm:Tm) (s:St):Prop:=
 match aP o tm s with
 | some (d,_)=>lT (.op dst none o) tm d (bt.take b)∧fH P K r bt (tm.put dst d) s
 | none=>False
def ML (P:Program) (o:AO) (dst:Option Nat) (r:List (AI×Nat)) (K:Tm→St→Prop) (bt:List St) (tm:Tm) (s:St):Prop:=
 match aP o tm s with
 | some (d,s')=>fH P K r (s::bt) (tm.put dst d) s'
 | none=>False
def AO.core:AO→Bool
 | .alloc _=>true
 | .box _=>true
 | .rm .. =>true
 | .vZ _=>true
 | .store .. =>true
 | .app .. =>true
 | .qa .. =>true
 | .v7 .. =>true
 | .v8 .. =>true
 | .apps .. =>true
 | .qX=>true
 | .uH .. =>true
 | _=>false
theorem ql (dst:Option Nat) (g:Option (Nat×Bool)) (o:AO):fF (AI.op dst g o).kind=o.core:=by
 cases dst <;> cases g <;> cases o <;> rfl
def OL (P:Program) (o:AO) (dst:Option Nat) (b:Nat) (r:List (AI×Nat)) (K:Tm→St→Prop) (bt:List St) (tm:Tm) (s:St):Prop:=
 match o.core with
 | true=>ML P o dst r K bt tm s
 | false=>PL P o dst b r K bt tm s
theorem DF {K:Tm→St→Prop} {dst:Option Nat} {o:AO} {b:Nat} {r:List (AI×Nat)} {bt:List St} {tm:Tm} {s:St} (h:OL P o dst b r K bt tm s) :
 fH P K ((.op dst none o,b)::r) bt tm s:=by
 unfold OL at h
 simp only [fH,ql]
 cases hc:o.core with
 | true=>
  simp only [hc,ML]at h
  simp only []
  split at h
  ·rename_i d s' he
   exact⟨d,s',by simpa [pU,guarded]using he,h⟩
  ·exact h.elim
 | false=>
  simp only [hc,PL]at h
  simp only []
  split at h
  ·rename_i d s' he
   exact⟨d,by simp [iw,he],fun _=>zr h.1,h.2⟩
  ·exact h.elim
theorem Ha {K:Tm→St→Prop} {dst:Option Nat} {f:Nat} {xs:List X} {b:Nat} {r:List (AI×Nat)} {bt:List St} {tm:Tm} {s:St} (h:CL P f (xs.map (·.ev tm)) s (KL P K r (s::bt) tm dst)) :
 fH P K ((.call dst none f xs,b)::r) bt tm s:=by
 obtain⟨d,s',h1,h2⟩:=h
 exact⟨d,s',h1,h2⟩
theorem RS {K:Tm→St→Prop} {i:AI} {t:Nat} {w:Bool} {b:Nat} {r:List (AI×Nat)} {bt:List St} {tm:Tm} {s:St} {j:AI} (hf:(∃ d o,i = .op d none o∧j = .op d (some (t,w)) o)∨(∃ d f xs,i = .call d none f xs∧j = .call d (some (t,w)) f xs))
 (hg:tm.get t = .bool w) (h:fH P K ((i,b)::r) bt tm s):fH P K ((j,b)::r) bt tm s:=by
 rcases hf with ⟨d,o,rfl,rfl⟩ | ⟨d,f,xs,rfl,rfl⟩
 ·simp only [fH,ql]at h ⊢
  cases hc:o.core <;> simp only [hc]at h ⊢
  ·obtain⟨x,h1,h2,h3⟩:=h
   refine⟨x,by simpa [iw,hg]using h1,fun hk s' mM=> ?_,h3⟩
   have x3:(AI.op d none o).kind = .load:=by
    cases d <;> cases o <;> first | exact hk | (cases hc;done) | (cases hk;done)
   simpa [iw,hg]using h2 x3 s' mM
  ·obtain⟨x,s',h1,h2⟩:=h
   exact⟨x,s',by simpa [pU,guarded,hg]using h1,h2⟩
 ·obtain⟨x,s',h1,h2⟩:=h
  exact⟨x,s',by simpa [pU,guarded,hg]using h1,h2⟩
theorem JR {K:Tm→St→Prop} {i:AI} {t:Nat} {w:Bool} {b:Nat} {r:List (AI×Nat)} {bt:List St} {tm:Tm} {s:St} {j:AI} (hf:(∃ d o,i = .op d none o∧j = .op d (some (t,w)) o)∨(∃ d f xs,i = .call d none f xs∧j = .call d (some (t,w)) f xs))
 (hg:tm.get t = .bool (!w)∨∃ l,tm.get t = .tuple l) (h:fH P K r (if fF i.kind then s::bt else bt) (tm.put i.dst (.tuple [])) s):fH P K ((j,b)::r) bt tm s:=by
 rcases hf with ⟨d,o,rfl,rfl⟩ | ⟨d,f,xs,rfl,rfl⟩
 ·simp only [fH,ql]at h ⊢
  cases hc:o.core <;> simp only [hc]at h ⊢
  ·refine⟨.tuple [], ?_,fun hk s' mM=> ?_,h⟩
   ·rcases hg with hg | ⟨l,hg⟩ <;> simp [iw,hg]
   ·rcases hg with hg | ⟨l,hg⟩ <;> simp [iw,hg]
  ·refine⟨.tuple [],s, ?_,h⟩
   rcases hg with hg | ⟨l,hg⟩ <;> simp [pU,guarded,hg]
 ·refine⟨.tuple [],s, ?_,h⟩
  rcases hg with hg | ⟨l,hg⟩ <;> simp [pU,guarded,hg]
theorem FW {K:Tm→St→Prop} {i j:AI} {t:Nat} {w:Bool} {b:Nat} {r:List (AI×Nat)} {bt:List St} {tm:Tm} {s:St} (hf:(∃ d o,i = .op d none o∧j = .op d (some (t,w)) o)∨(∃ d f xs,i = .call d none f xs∧j = .call d (some (t,w)) f xs))
 (h:GL P (tm.get t) w i b r K bt tm s):fH P K ((j,b)::r) bt tm s:=by
 unfold GL at h
 split at h
 ·rename_i v hv
  by_cases e:v=w
  ·exact RS hf (by rw [hv,e]) (h.1 e)
  ·exact JR hf (.inl (by rw [hv];cases v <;> cases w <;> simp_all)) (h.2 (by cases v <;> cases w <;> simp_all))
 ·rename_i l hl
  exact JR hf (.inr ⟨l,hl⟩) h
 ·exact h.elim
theorem BF {K:Tm→St→Prop} {dst:Option Nat} {o:AO} {t:Nat} {w:Bool} {b:Nat} {r:List (AI×Nat)} {bt:List St} {tm:Tm} {s:St} (h:GL P (tm.get t) w (.op dst none o) b r K bt tm s) :
 fH P K ((.op dst (some (t,w)) o,b)::r) bt tm s:=FW (.inl ⟨dst,o,rfl,rfl⟩) h
theorem Fb {K:Tm→St→Prop} {dst:Option Nat} {f:Nat} {xs:List X} {t:Nat} {w:Bool} {b:Nat} {r:List (AI×Nat)} {bt:List St} {tm:Tm} {s:St} (h:GL P (tm.get t) w (.call dst none f xs) b r K bt tm s) :
 fH P K ((.call dst (some (t,w)) f xs,b)::r) bt tm s:=FW (.inr ⟨dst,f,xs,rfl,rfl⟩) h
theorem CU {f:Nat} {args:List D} {s:St} {d:D} {s':St} {K:D→St→Prop} (h:aD P f args s d s') (hk:K d s'):CL P f args s K:=⟨d,s',h,hk⟩
end
end Go.Abs

/-! Wp -/

namespace Go.Abs
theorem nd {α:Type} {a b:α} (h:a=b):a=b:=h
def GJ (g:D) (w:Bool) (A C:Prop):Prop:=
 match g with
 | .bool b=>(b=w→A)∧(b=(!w)→C)
 | .tuple _=>C
 | _=>False
class Xa where
 a:Prop
 c:Prop
def CB (d:D) [b:Xa] : Prop:=q7 d b.a b.c
def GB (d:D) (w:Bool) [b:Xa] : Prop:=GJ d w b.a b.c
def kS (g:Option (Nat×Bool)) (tm:Tm) (A C:Prop):Prop:=
 match g with
 | none=>A
 | some (t,w)=>GJ (tm.get t) w A C
def jc (P:Program):List AI→(Tm→St→Prop)→Tm→St→Prop
 | [],K,tm,s=>K tm s
 | .op dst g o::r,K,tm,s=>kS g tm (match aP o tm s with | some (d,s')=>jc P r K (tm.put dst d) s' | none=>False) (jc P r K (tm.put dst (.tuple [])) s)
 | .call dst g f xs::r,K,tm,s=>kS g tm (CL P f (xs.map (·.ev tm)) s fun d s'=>jc P r K (tm.put dst d) s') (jc P r K (tm.put dst (.tuple [])) s)
 | .nil dst g neg x::r,K,tm,s=>
  kS g tm (match x.ev tm with
   | .slice _ _ rows=>∀ b:Bool,(rows≠ []→b=false)→jc P r K (tm.put dst (.bool (if neg then !b else b))) s
   | _=>False) (jc P r K (tm.put dst (.tuple [])) s)
 | .gQ dst g t xs::r,K,tm,s=>
  kS g tm (match tm.get t with
   | .fM f lq=>enters P f=true∧CL P f (xs.map (·.ev tm)++lq) s fun d s'=>jc P r K (tm.put dst d) s'
   | _=>False) (jc P r K (tm.put dst (.tuple [])) s)
theorem pZ {g:Option (Nat×Bool)} {tm:Tm} {A C A' C':Prop} (h:kS g tm A C) (ha:A→A') (hc:C→C'):guarded g tm A' C':=by
 unfold kS at h
 unfold guarded
 cases g with
 | none=>exact ha h
 | some p=>
  obtain⟨t,w⟩:=p
  simp only [GJ]at h ⊢
  split at h
  ·rename_i hb;try simp only [hb]
   exact⟨fun e=>ha (h.1 e),fun e=>hc (h.2 e)⟩
  ·rename_i hb;try simp only [hb]
   exact hc h
  ·exact h.elim
theorem l5 {P:Program} {K:Tm→St→Prop} : ∀ {is:List AI} {tm:Tm} {s:St},jc P is K tm s→gy P is K tm s
 | [],tm,s,h=>h
 | .op dst g o::r,tm,s,h=>by
  refine pZ h (fun h=> ?_) l5
  split at h
  ·rename_i he;try simp only [he]
   exact l5 h
  ·exact h.elim
 | .call dst g f xs::r,tm,s,h=>pZ h (fun⟨d,s',h1,h2⟩=>h1.use (l5 h2)) l5
 | .nil dst g neg x::r,tm,s,h=>by
  refine pZ h (fun h=> ?_) l5
  split at h
  ·rename_i he;try simp only [he]
   exact fun b hb=>l5 (h b hb)
  ·exact h.elim
 | .gQ dst g t xs::r,tm,s,h=>by
  refine pZ h (fun h=> ?_) l5
  split at h
  ·rename_i he;try simp only [he]
   obtain⟨h0,d,s',h1,h2⟩:=h
   exact⟨h0,h1.use (l5 h2)⟩
  ·exact h.elim
def fh (P:Program) (K:Tm→St→Prop):List (AI×Nat)→List St→Tm→St→Prop
 | [],_,tm,s=>K tm s
 | (.op dst g o,b)::r,bt,tm,s=>
  match o.core with
  | true=>kS g tm (match aP o tm s with | some (d,s')=>fh P K r (s::bt) (tm.put dst d) s' | none=>False) (fh P K r (s::bt) (tm.put dst (.tuple [])) s)
  | false=>kS g tm (match aP o tm s with | some (d,_)=>lT (.op dst none o) tm d (bt.take b)∧fh P K r bt (tm.put dst d) s | none=>False) (fh P K r bt (tm.put dst (.tuple [])) s)
 | (.call dst g f xs,_)::r,bt,tm,s=>kS g tm (CL P f (xs.map (·.ev tm)) s fun d s'=>fh P K r (s::bt) (tm.put dst d) s') (fh P K r (s::bt) (tm.put dst (.tuple [])) s)
 | (.nil ..,_)::_,_,_,_=>False
 | (.gQ ..,_)::_,_,_,_=>False
theorem wG {P:Program} {t:Nat} {w:Bool} {tm:Tm} {i:AI} {b:Nat} {r:List (AI×Nat)} {K:Tm→St→Prop} {bt:List St} {s:St} {A C:Prop} (h:kS (some (t,w)) tm A C) (ha:A→fH P K ((i,b)::r) bt tm s)
 (hc:C→fH P K r (if fF i.kind then s::bt else bt) (tm.put i.dst (.tuple [])) s):GL P (tm.get t) w i b r K bt tm s:=by
 simp only [kS,GJ]at h
 unfold GL
 split at h
 ·rename_i hb;try simp only [hb]
  exact⟨fun e=>ha (h.1 e),fun e=>hc (h.2 e)⟩
 ·rename_i hb;try simp only [hb]
  exact hc h
 ·exact h.elim
theorem km {P:Program} {K:Tm→St→Prop} : ∀ {l:List (AI×Nat)} {bt:List St} {tm:Tm} {s:St},fh P K l bt tm s→fH P K l bt tm s
 | [],bt,tm,s,h=>h
 | (.op dst g o,b)::r,bt,tm,s,h=>by
  simp only [fh]at h
  cases hc:o.core with
  | true=>
   simp only [hc]at h
   have ha:(match aP o tm s with | some (d,s')=>fh P K r (s::bt) (tm.put dst d) s' | none=>False)→fH P K ((.op dst none o,b)::r) bt tm s:=by
    intro h
    refine DF ?_
    simp only [OL,hc,ML]
    split at h
    ·rename_i he;try simp only [he]
     exact km h
    ·exact h.elim
   cases g with
   | none=>exact ha h
   | some p=>
    obtain⟨t,w⟩:=p
    refine BF (wG h ha fun h=> ?_)
    simp only [ql,hc,if_true]
    exact km h
  | false=>
   simp only [hc]at h
   have ha:(match aP o tm s with | some (d,_)=>lT (.op dst none o) tm d (bt.take b)∧fh P K r bt (tm.put dst d) s | none=>False)→fH P K ((.op dst none o,b)::r) bt tm s:=by
    intro h
    refine DF ?_
    simp only [OL,hc,PL]
    split at h
    ·rename_i he;try simp only [he]
     exact⟨h.1,km h.2⟩
    ·exact h.elim
   cases g with
   | none=>exact ha h
   | some p=>
    obtain⟨t,w⟩:=p
    refine BF (wG h ha fun h=> ?_)
    simp only [ql,hc]
    exact km h
 | (.call dst g f xs,b)::r,bt,tm,s,h=>by
  simp only [fh]at h
  have ha:(CL P f (xs.map (·.ev tm)) s fun d s'=>fh P K r (s::bt) (tm.put dst d) s')→fH P K ((.call dst none f xs,b)::r) bt tm s:=
   fun⟨d,s',h1,h2⟩=>Ha ⟨d,s',h1,km h2⟩
  cases g with
  | none=>exact ha h
  | some p=>
   obtain⟨t,w⟩:=p
   exact Fb (wG h ha fun h=>km h)
 | (.nil ..,_)::_,bt,tm,s,h=>h.elim
 | (.gQ ..,_)::_,bt,tm,s,h=>h.elim
section
variable {P:Program} {B:fY} {nt:Nat}
def jn (P:Program) (B:fY) (nt:Nat):AC→(Exit→Tm→St→Prop)→Tm→St→Prop
 | .skip,Q,tm,s=>Q .normal tm s
 | .run is,Q,tm,s=>jc P is (Q .normal) tm s
 | .par is jP,Q,tm,s=>match kR is jP with | some l=>fh P (Q .normal) l [] tm s | none=>False
 | .seq a b,Q,tm,s=>jn P B nt a (nU (jn P B nt b Q) Q) tm s
 | .cond x a b,Q,tm,s=>q7 (x.ev tm) (jn P B nt a Q tm s) (jn P B nt b Q tm s)
 | .block id a,Q,tm,s=>jn P B nt a (ly id Q) tm s
 | .loop a,Q,tm,s=>bl P B nt a Q tm s
 | .exit id,Q,tm,s=>Q (.exit id) tm s
 | .scope a,Q,tm,s=>GM P B nt a a Q tm s
 | .label _,Q,tm,s=>Q .normal tm s
 | .goto l,Q,tm,s=>Q (.goto l) tm s
 | .ret,Q,tm,s=>Q .ret tm s
theorem ib : ∀ {ac:AC} {Q:Exit→Tm→St→Prop} {tm:Tm} {s:St},jn P B nt ac Q tm s→Sem P B nt ac Q tm s:=by
 intro ac
 induction ac with
 | skip=>exact fun h=>Sem.skip h
 | run is=>exact fun h=>Sem.run (l5 h)
 | par is jP=>
  intro Q tm s h
  simp only [jn]at h
  split at h
  ·exact Sem.XU ‹_› (km h)
  ·exact h.elim
 | seq a b RU RV=>
  intro Q tm s h
  refine Sem.seq ((RU h).mono fun e tm s hq=> ?_)
  cases e with
  | normal=>exact RV hq
  | _=>exact hq
 | cond x a b RU RV=>
  intro Q tm s h
  refine Sem.UC ?_
  simp only [jn]at h
  unfold q7 at h ⊢
  split at h
  ·exact⟨fun e=>RU (h.1 e),fun e=>RV (h.2 e)⟩
  ·exact h.elim
 | block id a ih=>exact fun h=>Sem.block (ih h)
 | loop a ih=>exact fun h=>Sem.loop h
 | exit id=>exact fun h=>Sem.exit h
 | scope a ih=>exact fun h=>Sem.scope h
 | label l=>exact fun h=>Sem.label h
 | goto l=>exact fun h=>Sem.goto h
 | ret=>exact fun h=>Sem.ret h
section
variable (Q:Exit→Tm→St→Prop) (N:Tm→St→Prop) (tm:Tm) (s:St) (a b:AC) (is:List AI) (x:X)
theorem L7:jn P B nt .skip Q tm s=Q .normal tm s:=nd rfl
theorem P3:jn P B nt (.run is) Q tm s=jc P is (Q .normal) tm s:=nd rfl
theorem P4 (jP:List (Nat×Nat)):jn P B nt (.par is jP) Q tm s=match kR is jP with | some l=>fh P (Q .normal) l [] tm s | none=>False:=nd rfl
theorem P5:jn P B nt (.seq a b) Q tm s=jn P B nt a (nU (jn P B nt b Q) Q) tm s:=nd rfl
theorem L8:jn P B nt (.cond x a b) Q tm s = @CB (x.ev tm) ⟨jn P B nt a Q tm s,jn P B nt b Q tm s⟩:=nd rfl
theorem JS (id:Nat):jn P B nt (.block id a) Q tm s=jn P B nt a (ly id Q) tm s:=nd rfl
theorem L9:jn P B nt (.loop a) Q tm s=bl P B nt a Q tm s:=nd rfl
theorem JT:jn P B nt (.scope a) Q tm s=GM P B nt a a Q tm s:=nd rfl
theorem Ma (id:Nat):jn P B nt (.exit id) Q tm s=Q (.exit id) tm s:=nd rfl
theorem JU (id:Nat):jn P B nt (.label id) Q tm s=Q .normal tm s:=nd rfl
theorem Mb (id:Nat):jn P B nt (.goto id) Q tm s=Q (.goto id) tm s:=nd rfl
theorem P6:jn P B nt .ret Q tm s=Q .ret tm s:=nd rfl
theorem P7:nU N Q .normal tm s=N tm s:=nd rfl
theorem P8:nU N Q .ret tm s=Q .ret tm s:=nd rfl
theorem P9 (id:Nat):nU N Q (.exit id) tm s=Q (.exit id) tm s:=nd rfl
theorem Qa (id:Nat):nU N Q (.goto id) tm s=Q (.goto id) tm s:=nd rfl
theorem Mc (id:Nat):ly id Q .normal tm s=Q .normal tm s:=nd rfl
theorem Md (id:Nat):ly id Q .ret tm s=Q .ret tm s:=nd rfl
theorem Me (id l:Nat):ly id Q (.goto l) tm s=Q (.goto l) tm s:=nd rfl
theorem Mf (id i:Nat):ly id Q (.exit i) tm s=if i=id then Q .normal tm s else Q (.exit i) tm s:=nd rfl
end
theorem bl.uT {a:AC} {Q:Exit→Tm→St→Prop} {tm:Tm} {s:St} (h:jn P B nt a (nU (bl P B nt a Q) Q) tm s):bl P B nt a Q tm s:=bl.once (ib h)
def sI (tm:Tm) (n m:Nat):Tm→Prop
 | []=>True
 | (k,d)::r=>Wk ((tm.get k).fg n m) d∧sI tm n m r
theorem sI.get {tm:Tm} {n m:Nat} : ∀ {bJ:Tm},sI tm n m bJ→∀ t,Wk ((tm.get t).fg n m) (bJ.get t)
 | [],_,t=>Wk.junk _
 | (k,d)::r,h,t=>by
  simp only [Tm.get]
  split
  ·rename_i hk;subst hk;exact h.1
  ·exact sI.get h.2 t
theorem Holds.re {Q:Exit→Tm→St→Prop} {tm bJ:Tm} {s:St} {kI:List (List D)} {act:Act} {w:World} (n m:Nat) (hn:B.s.aw.length≤n) (hm:B.s.aB.length≤m) (ht:sI tm n m bJ) (ho:gH (s.cut n m).aw kI)
 (h:Holds B nt tm s act w):Holds B nt bJ ⟨kI,(s.cut n m).aB⟩ act w:=by
 obtain⟨M,e,r,hr,h1,h2⟩:=h
 obtain⟨r',le⟩:=(r.cut n m).DA ho
 have e':=e.cut hn hm
 refine⟨M,e'.trans ⟨le,fun _ _ _ _=>rfl,fun o h1 h2=> ?_,fun t b c z hl e=> .inl ⟨hl,c,z,e⟩,fun _ _ h=>(h rfl).elim,Nat.le_refl _,rfl,rfl,rfl⟩,r',fun k=>((ht.get k) _ _ _ ((hr k).fg n m)).mono le,h1,h2⟩
 rw [← ho.len]at h2
 exact absurd h2 (Nat.not_lt.2 h1)
theorem bl.re {a:AC} {Q:Exit→Tm→St→Prop} {tm:Tm} {s:St} (bJ:Tm) (kI:List (List D)) (n m:Nat) (hn:B.s.aw.length≤n) (hm:B.s.aB.length≤m) (ht:sI tm n m bJ) (ho:gH (s.cut n m).aw kI)
 (h:bl P B nt a Q bJ ⟨kI,(s.cut n m).aB⟩):bl P B nt a Q tm s:=
 fun c hc act w hh=>h c hc act w (hh.re (Q:=Q) n m hn hm ht ho)
theorem bl.ind {ι:Type} {a:AC} {Q:Exit→Tm→St→Prop} (I:ι→Prop) (μ:ι→Nat) (TM:ι→Tm) (ST:ι→St)
 (step : ∀ i,I i→(∀ j,I j→μ j<μ i→bl P B nt a Q (TM j) (ST j))→jn P B nt a (nU (bl P B nt a Q) Q) (TM i) (ST i)) : ∀ i,I i→bl P B nt a Q (TM i) (ST i):=by
 have key : ∀ n i,μ i<n→I i→bl P B nt a Q (TM i) (ST i):=by
  intro n
  induction n with
  | zero=>intro i h;exact absurd h (Nat.not_lt_zero _)
  | succ n ih=>exact fun i h hi=>bl.uT (step i hi fun j hj hD=>ih j (by omega) hj)
 exact fun i hi=>key (μ i+1) i (Nat.lt_succ_self _) hi
theorem drop_cons {α:Type} {l rest:List α} {k:Nat} {x:α} (h:l.drop k=x::rest):l[k]? = some x∧l.drop (k+1)=rest∧decide ((k:Int)<(l.length:Int))=true∧k<l.length:=by
 have h1:l[k]? = some x:=by
  have:(l.drop k)[0]? = some x:=by rw [h];rfl
  simpa using this
 have h2:=(List.getElem?_eq_some_iff.1 h1).1
 refine⟨h1, ?_,by simpa using h2,h2⟩
 have:l.drop (k+1)=(l.drop k).drop 1:=by rw [List.drop_drop]
 rw [this,h];rfl
theorem drop_nil {α:Type} {l:List α} {k:Nat} (h:l.drop k = []):decide ((k:Int)<(l.length:Int))=false:=by
 have:=List.drop_eq_nil_iff.1 h
 simp;omega
theorem bl.kT {a:AC} {Q:Exit→Tm→St→Prop} {tm:Tm} {s:St} (t z':Nat) {z:Nat} (hw:tm.get t = .slice .full z [])
 (h:bl P B nt a Q (tm.set t (.slice (.tok s.aB.length) z' [])) {s with aB:=s.aB++ [some 0]}):bl P B nt a Q tm s:=by
 intro c hc act w ⟨M,e,r,ht,h1,h2⟩
 obtain⟨r',le⟩:=r.blank
 refine h c hc act w ⟨_,Bz e le,r',fun k=> ?_,h1,h2⟩
 rw [Tm.Ao]
 split
 ·rename_i hk;subst hk;have:=ht k;rw [hw]at this;exact this.own
 ·exact(ht k).mono le
theorem bl.Mg {a:AC} {Q:Exit→Tm→St→Prop} {tm:Tm} {s:St} (o i z':Nat) {z:Nat} {cs:List D} (hc:s.aw[o]? = some cs) (hi:cs[i]? = some (.slice .full z []))
 (h:bl P B nt a Q tm ⟨s.aw.set o (cs.set i (.slice (.tok s.aB.length) z' [])),s.aB++ [some 0]⟩):bl P B nt a Q tm s:=by
 intro c Ru act w hh
 obtain⟨M,e,r,ht,h1,h2⟩:=hh
 obtain⟨r',le⟩:=r.blank
 have Xb:Le M s (M.dS s.aB.length none) ⟨s.aw.set o (cs.set i (.slice (.tok s.aB.length) z' [])),s.aB++ [some 0]⟩:=⟨le.G,by simp,le.loc,le.t,le.tk⟩
 have RW:Le (M.dS s.aB.length none) {s with aB:=s.aB++ [some 0]} (M.dS s.aB.length none) ⟨s.aw.set o (cs.set i (.slice (.tok s.aB.length) z' [])),s.aB++ [some 0]⟩:=
  ⟨fun _ _ _ h=>h,by simp,fun _ _=>rfl,Nat.le_refl _,fun t n' _ e=>⟨n',e,Nat.le_refl _,fun _=>rfl⟩⟩
 have r2:Rel (M.dS s.aB.length none) ⟨s.aw.set o (cs.set i (.slice (.tok s.aB.length) z' [])),s.aB++ [some 0]⟩ w:=by
  refine⟨r'.comm,fun o' ds e=> ?_,fun o ho=>r'.jA o (by simpa using ho),fun o o' ho lk=>r'.inj o o' (by simpa using ho) (by simpa using lk),r'.tok,
   fun t b c z o hv e ho=>r'.eH t b c z o hv e (by simpa using ho),r'.fm⟩
  simp only [List.getElem?_set]at e
  split at e
  ·rename_i ho
   subst ho
   split at e
   ·cases e
    obtain⟨vs,T,g1,g2,g3,g4⟩:=r.obj o cs hc
    refine⟨vs,T,g1,by simpa using g2,g3,fun j d v e1 e2=> ?_⟩
    rw [List.getElem?_set]at e1
    split at e1
    ·rename_i hj
     subst hj
     split at e1
     ·cases e1
      exact((g4 i _ v hi e2).own (z':=z')).mono RW
     ·cases e1
    ·exact(g4 j d v e1 e2).mono Xb
   ·cases e
  ·obtain⟨vs,T,g1,g2,g3,g4⟩:=r'.obj o' ds e
   exact⟨vs,T,g1,g2,g3,fun i d v e1 e2=>(g4 i d v e1 e2).mono RW⟩
 have ee:Ext B.M B.s B.w (M.dS s.aB.length none) ⟨s.aw.set o (cs.set i (.slice (.tok s.aB.length) z' [])),s.aB++ [some 0]⟩ w:=by
  refine(Bz e le).trans ⟨RW,fun _ _ _ _=>rfl,fun o h1 h2=> ?_,fun t b c z hl e=> .inl ⟨hl,c,z,e⟩,fun _ _ h=>(h rfl).elim,Nat.le_refl _,rfl,rfl,rfl⟩
  simp at h2
  exact absurd h2 (Nat.not_lt.2 h1)
 exact h c Ru act w ⟨_,ee,r2,fun k=>(ht k).mono Xb,h1,h2⟩
theorem Sem.lz {a b:AC} {Q:Exit→Tm→St→Prop} {tm:Tm} {s:St} (h:jn P B nt a (nU (Sem P B nt b Q) Q) tm s):Sem P B nt (.seq a b) Q tm s:=Sem.seq (ib h)
theorem Sem.re {a:AC} {Q:Exit→Tm→St→Prop} {tm:Tm} {s:St} (bJ:Tm) (kI:List (List D)) (n m:Nat) (hn:B.s.aw.length≤n) (hm:B.s.aB.length≤m) (ht:sI tm n m bJ) (ho:gH (s.cut n m).aw kI)
 (h:Sem P B nt a Q bJ ⟨kI,(s.cut n m).aB⟩):Sem P B nt a Q tm s:=
 fun c hc act w hh=>h c hc act w (hh.re (Q:=Q) n m hn hm ht ho)
def Has (P:Program) (f nt:Nat) (res:List (Nat×Option (Bool×Nat))) (body:AC):Prop:=∃ fn,P.funcs[f]? = some fn∧cF P fn=some ⟨nt,res,body⟩
theorem aD.go {f:FuncId} {res:List (Nat×Option (Bool×Nat))} {body:AC} {args:List D} {s:St} {d:D} {s':St} (h0:Has P f nt res body) (hl:Nat.ble args.length nt=true)
 (h : ∀ (B:fY) (Q:Exit→Tm→St→Prop),B.s=s→kQ s.aw.length s.aB.length res d s'=Q→jn P B nt body Q (mn 0 args) s):aD P f args s d s':=by
 obtain⟨fn,hf,hc⟩:=h0
 exact aD.intro ⟨fn,hf,hc⟩ (Nat.le_of_ble_eq_true hl) fun B hB=>ib (h B _ hB rfl)
theorem aD.Hb {f:FuncId} {pre post:List D} {rows pS:List (List D)} {z z' k k':Nat} (h:aD P f (pre++ .slice (.tok 0) z rows::post) ⟨[],[some k]⟩ (.slice (.tok 0) z' pS) ⟨[],[some k']⟩)
 (hp:D.bM 0 0 pre=true) (ha:D.bM 0 0 post=true) (hw:D.jb 0 0 rows=true) (hw':D.jb 0 0 pS=true)
 {s:St} {t:Nat} (ht:s.aB[t]? = some (some k)):aD P f (pre++ .slice (.tok t) z rows::post) s (.slice (.tok t) z' pS) ⟨s.aw,s.aB.set t (some k')⟩:=by
 refine ej.frame [] [t] h (by simp) (by simp) (by simp) (by simpa using (List.getElem?_eq_some_iff.1 ht).1) rfl (fun i o' ds e1 e2=>by simp at e1) rfl (fun i t' e1=> ?_)
  ?_ ?_ ?_
 ·cases i with
  | zero=>simp at e1;subst e1;simp [ht]
  | succ i=>simp at e1
 ·have h1:=fS [] [t] _ hp
  have h2:=fS [] [t] _ ha
  rw [ff]at h1 h2
  simp [ff,D.dI,Tag.dI,h1,h2,ln _ _ _ hw]
 ·have h1:=iW (n':=0) (m':=1) (Nat.le_refl 0) (Nat.zero_le 1) _ hp
  have h2:=iW (n':=0) (m':=1) (Nat.le_refl 0) (Nat.zero_le 1) _ ha
  rw [Dt]at h1 h2 ⊢
  simp only [List.length_nil,List.length_cons,List.all_append,h1,Bool.true_and,List.all_cons,h2,Bool.and_true,D.ok,Tag.ok,n8 (Nat.zero_le 0) (Nat.zero_le 1) _ hw]
  rfl
 ·rintro _ _ ⟨rfl,rfl⟩
  refine⟨by simp [D.back,D.dI,Tag.dI,jU,ln _ _ _ hw'], ?_⟩
  simp [St.back,jD]
theorem XX (A C:Prop) : @CB (.bool true) ⟨A,C⟩=A:=by simp [CB,q7]
theorem XY (A C:Prop) : @CB (.bool false) ⟨A,C⟩=C:=by simp [CB,q7]
theorem RX (b:Bool) (A C:Prop) : @CB (.bool (!b)) ⟨A,C⟩ = @CB (.bool b) ⟨C,A⟩:=by
 cases b <;> simp [CB,q7]
theorem DG {b:Bool} {A C:Prop} (h1:b=true→A) (h2:b=false→C) : @CB (.bool b) ⟨A,C⟩:=⟨h1,h2⟩
theorem RY {b:Bool} {A C:Prop} (h:b=true) (h1:b=true→A) : @CB (.bool b) ⟨A,C⟩:=DG h1 (fun h'=>by rw [h]at h';cases h')
theorem RZ {b:Bool} {A C:Prop} (h:b=false) (h1:b=false→C) : @CB (.bool b) ⟨A,C⟩:=DG (fun h'=>by rw [h]at h';cases h') h1
theorem UF {n m:Nat} {res:List (Nat×Option (Bool×Nat))} {d:D} {s':St} {tm:Tm} {s:St} {Q:Exit→Tm→St→Prop} (hQ:kQ n m res d s'=Q)
 (h : ∃ l,aE res tm s=some l∧Wk ((aF l).fg n m) d∧gH (s.cut n m).aw s'.aw∧(s.cut n m).aB=s'.aB):Q .ret tm s:=hQ ▸ h
theorem UG {n m:Nat} {res:List (Nat×Option (Bool×Nat))} {d:D} {s':St} {tm:Tm} {s:St} {Q:Exit→Tm→St→Prop} (hQ:kQ n m res d s'=Q)
 (h : ∃ l,aE res tm s=some l∧Wk ((aF l).fg n m) d∧gH (s.cut n m).aw s'.aw∧(s.cut n m).aB=s'.aB):Q .normal tm s:=hQ ▸ h
end
attribute [go_sem] L7 P3 P4 P5 L8 JS L9 JT Ma JU Mb P6 P7 P8 P9 Qa Mc Md Me Mf
theorem JV : ∀ (tm:Tm) (s:St) (x:X),aP (AO.mv x) tm s=some (X.ev tm x,s):=
 fun tm s x=>nd (aP.eq_1 tm s x)
theorem JW : ∀ (tm:Tm) (s:St) (c a b:X),
 aP (AO.pick c a b) tm s =
  match X.ev tm c with
  | D.bool t=>some (if t=true then X.ev tm a else X.ev tm b,s)
  | x=>none:=
 fun tm s c a b=>nd (aP.eq_2 tm s c a b)
theorem JX : ∀ (tm:Tm) (s:St) (zero:List D),
 aP (AO.alloc zero) tm s=some (D.ptr s.aw.length 0,{aw:=s.aw++ [zero],aB:=s.aB}):=
 fun tm s zero=>nd (aP.eq_3 tm s zero)
theorem JY : ∀ (tm:Tm) (s:St) (x:X),
 aP (AO.box x) tm s =
  match (X.ev tm x).row with
  | some r=>some (D.ptr s.aw.length 0,{aw:=s.aw++ [r],aB:=s.aB})
  | none=>none:=
 fun tm s x=>nd (aP.eq_4 tm s x)
theorem JZ : ∀ (tm:Tm) (s:St) (zero:List D) (parts:List (Nat×Nat×X)),
 aP (AO.build zero parts) tm s =
  match oA zero (List.map (fun(p:Nat×Nat×X)=>(p.fst,p.snd.fst,X.ev tm p.snd.snd)) parts)with
  | some cs=>some (D.agg cs,s)
  | none=>none:=
 fun tm s zero parts=>nd (aP.eq_5 tm s zero parts)
theorem J0 : ∀ (tm:Tm) (s:St) (zero:List D) (size n:Nat) (parts:List (Nat×X)),
 aP (AO.cT zero size n parts) tm s =
  match iA size (gB zero n) (List.map (fun(p:Nat×X)=>(p.fst,X.ev tm p.snd)) parts)with
  | some rows=>some (D.slice Tag.full size rows,s)
  | none=>none:=
 fun tm s zero size n parts=>nd (aP.eq_6 tm s zero size n parts)
theorem J1 : ∀ (tm:Tm) (s:St) (zero:List D) (size n:Nat) (parts:List (Nat×X)),
 aP (AO.rm zero size n parts) tm s =
  match iA size (gB zero n) (List.map (fun(p:Nat×X)=>(p.fst,X.ev tm p.snd)) parts)with
  | some rows=>
   some (D.slice (Tag.tok s.aB.length) size rows,{aw:=s.aw,aB:=s.aB++ [some rows.length]})
  | none=>none:=
 fun tm s zero size n parts=>nd (aP.eq_7 tm s zero size n parts)
theorem J2 : ∀ (tm:Tm) (s:St) (x:X),
 aP (AO.vZ x) tm s =
  match X.ev tm x with
  | D.slice (Tag.tok t _) z rows=>
   if rows≠ []∧s.aB[t]? = some (some rows.length)then
    some (D.slice Tag.shared z rows,{aw:=s.aw,aB:=s.aB.set t none})
   else none
  | x=>none:=
 fun tm s x=>nd (aP.eq_8 tm s x)
theorem J3 : ∀ (tm:Tm) (s:St) (x:X) (agg:Bool) (size:Nat),
 aP (AO.load x agg size) tm s =
  match X.ev tm x with
  | D.ptr o off=>
   match s.aw[o]? with
   | some cs=>
    match part cs off agg size with
    | some d=>some (d,s)
    | none=>none
   | none=>none
  | D.dJ row off=>
   match part row off agg size with
   | some d=>some (d,s)
   | none=>none
  | x=>none:=
 fun tm s x agg size=>nd (aP.eq_9 tm s x agg size)
theorem Hc : ∀ (tm:Tm) (s:St) (p x:X) (size:Nat),
 aP (AO.store p x size) tm s =
  match X.ev tm p,(X.ev tm x).row with
  | D.ptr o off,some r=>
   match s.aw[o]? with
   | some cs=>
    if r.length=size∧off+size≤cs.length then
     some (D.tuple [],{aw:=s.aw.set o (iu cs off r),aB:=s.aB})
    else none
   | none=>none
  | x,ew=>none:=
 fun tm s p x size=>nd (aP.eq_10 tm s p x size)
theorem Hd : ∀ (tm:Tm) (s:St) (x:X),
 aP (AO.gK x) tm s =
  match X.ev tm x with
  | D.ptr o off=>some (D.ptr o off,s)
  | D.dJ row off=>some (D.dJ row off,s)
  | x=>none:=
 fun tm s x=>nd (aP.eq_11 tm s x)
theorem He : ∀ (tm:Tm) (s:St) (op:BinOp) (x y:X),
 aP (AO.bin op x y) tm s =
  match s6 op (X.ev tm x) (X.ev tm y)with
  | some d=>some (d,s)
  | none=>none:=
 fun tm s op x y=>nd (aP.eq_12 tm s op x y)
theorem Hf : ∀ (tm:Tm) (s:St) (neg:Bool) (x y:X),
 aP (AO.vv neg x y) tm s =
  match X.ev tm x,X.ev tm y with
  | D.bool a,D.bool b=>some (D.bool (if neg=true then !a==b else a==b),s)
  | x,ew=>none:=
 fun tm s neg x y=>nd (aP.eq_13 tm s neg x y)
theorem Hg : ∀ (tm:Tm) (s:St) (neg:Bool) (ks:List Nat) (x y:X),
 aP (AO.eqs neg ks x y) tm s =
  match X.ev tm x,X.ev tm y with
  | D.agg a,D.agg b=>
   match jw ks a b with
   | some e=>some (D.bool (if neg=true then !e else e),s)
   | none=>none
  | x,ew=>none:=
 fun tm s neg ks x y=>nd (aP.eq_14 tm s neg ks x y)
theorem Hh : ∀ (tm:Tm) (s:St) (neg:Bool) (x y:X),
 aP (AO.C6 neg x y) tm s =
  match X.ev tm x,X.ev tm y with
  | D.eR,D.eR=>some (D.bool !neg,s)
  | D.ptr o off,D.eR=>some (D.bool neg,s)
  | D.dJ row off,D.eR=>some (D.bool neg,s)
  | x,ew=>none:=
 fun tm s neg x y=>nd (aP.eq_15 tm s neg x y)
theorem Hi : ∀ (tm:Tm) (s:St) (op:UnOp) (x:X),
 aP (AO.un op x) tm s =
  match Db op (X.ev tm x)with
  | some d=>some (d,s)
  | none=>none:=
 fun tm s op x=>nd (aP.eq_16 tm s op x)
theorem Hj : ∀ (tm:Tm) (s:St) (k:IntKind) (x:X),
 aP (AO.conv k x) tm s =
  match X.ev tm x with
  | D.int k_1 n=>some (D.int k (k.wrap n),s)
  | x=>none:=
 fun tm s k x=>nd (aP.eq_17 tm s k x)
theorem Hk : ∀ (tm:Tm) (s:St) (x:X),
 aP (AO.yT x) tm s =
  match X.ev tm x with
  | D.slice g size rows=>
   match lZ rows with
   | some b=>some (D.str b,s)
   | none=>none
  | x=>none:=
 fun tm s x=>nd (aP.eq_18 tm s x)
theorem Hl : ∀ (tm:Tm) (s:St) (x:X),
 aP (AO.tP x) tm s =
  match X.ev tm x with
  | D.str l=>some (D.slice Tag.shared 1 (List.map (fun(c:UInt8)=> [D.int IntKind.u8 ↑c.toNat]) l),s)
  | x=>none:=
 fun tm s x=>nd (aP.eq_19 tm s x)
theorem Hm : ∀ (tm:Tm) (s:St) (size:Nat) (x:X) (lo hi:Option X),
 aP (AO.C7 size x lo hi) tm s =
  match X.ev tm x with
  | D.slice g z rows=>
   match wb (Option.map (fun(x:X)=>X.ev tm x) lo),
    wc (Option.map (fun(x:X)=>X.ev tm x) hi) rows.length with
   | some l,some h=>
    if(rows = []∨z=size)∧0≤l∧l≤h∧h≤ ↑rows.length then
     some
      (D.slice (if l=0 then g.cut (decide (h = ↑rows.length))else Tag.shared) z
       (List.drop l.toNat (List.take h.toNat rows)),
       s)
    else none
   | x,ew=>none
  | x=>none:=
 fun tm s size x lo hi=>nd (aP.eq_20 tm s size x lo hi)
theorem Hn : ∀ (tm:Tm) (s:St) (x:X) (lo hi:Option X),
 aP (AO.C8 x lo hi) tm s =
  match X.ev tm x with
  | D.str t=>
   match wb (Option.map (fun(x:X)=>X.ev tm x) lo),wc (Option.map (fun(x:X)=>X.ev tm x) hi) t.length with
   | some l,some h=>
    if 0≤l∧l≤h∧h≤ ↑t.length then some (D.str (List.drop l.toNat (List.take h.toNat t)),s)else none
   | x,ew=>none
  | x=>none:=
 fun tm s x lo hi=>nd (aP.eq_21 tm s x lo hi)
theorem Ho : ∀ (tm:Tm) (s:St) (x:X) (off:Nat),
 aP (AO.av x off) tm s =
  match X.ev tm x with
  | D.ptr o k=>some (D.ptr o (k+off),s)
  | D.dJ row k=>some (D.dJ row (k+off),s)
  | x=>none:=
 fun tm s x off=>nd (aP.eq_22 tm s x off)
theorem Hp : ∀ (tm:Tm) (s:St) (x:X) (off:Nat) (agg:Bool) (size:Nat),
 aP (AO.tQ x off agg size) tm s =
  match X.ev tm x with
  | D.agg cs=>
   match part cs off agg size with
   | some d=>some (d,s)
   | none=>none
  | x=>none:=
 fun tm s x off agg size=>nd (aP.eq_23 tm s x off agg size)
theorem Hq : ∀ (tm:Tm) (s:St) (x i:X) (size:Nat),
 aP (AO.bF x i size) tm s =
  match X.ev tm x,X.ev tm i with
  | D.slice g z rows,D.int k n=>
   if 0≤n∧z=size then
    match rows[n.toNat]? with
    | some row=>some (D.dJ row 0,s)
    | none=>none
   else none
  | x,ew=>none:=
 fun tm s x i size=>nd (aP.eq_24 tm s x i size)
theorem Hr : ∀ (tm:Tm) (s:St) (x i:X),
 aP (AO.rn x i) tm s =
  match X.ev tm x,X.ev tm i with
  | D.str t,D.int k n=>
   if 0≤n then
    match t[n.toNat]? with
    | some c=>some (D.int IntKind.u8 ↑c.toNat,s)
    | none=>none
   else none
  | x,ew=>none:=
 fun tm s x i=>nd (aP.eq_25 tm s x i)
theorem Hs : ∀ (tm:Tm) (s:St) (x:X) (i:Nat),
 aP (AO.ext x i) tm s =
  match X.ev tm x with
  | D.tuple ds=>
   match ds[i]? with
   | some d=>some (d,s)
   | none=>none
  | x=>none:=
 fun tm s x i=>nd (aP.eq_26 tm s x i)
theorem Ht : ∀ (tm:Tm) (s:St) (x:X),
 aP (AO.py x) tm s =
  match X.ev tm x with
  | D.str t=>some (D.int IntKind.i64 ↑t.length,s)
  | x=>none:=
 fun tm s x=>nd (aP.eq_27 tm s x)
theorem Hu : ∀ (tm:Tm) (s:St) (x:X),
 aP (AO.len x) tm s =
  match X.ev tm x with
  | D.slice g size rows=>some (D.int IntKind.i64 ↑rows.length,s)
  | x=>none:=
 fun tm s x=>nd (aP.eq_28 tm s x)
theorem Hv : ∀ (tm:Tm) (s:St) (size bytes:Nat) (x y:X),
 aP (AO.app size bytes x y) tm s=gC size bytes (X.ev tm x) (X.ev tm y) s:=
 fun tm s size bytes x y=>nd (aP.eq_29 tm s size bytes x y)
theorem Hw : ∀ (tm:Tm) (s:St) (isMax:Bool) (x y:X),
 aP (AO.mm isMax x y) tm s =
  match X.ev tm x,X.ev tm y with
  | D.int k a,D.int k' b=>
   if k=k' then some (D.int k (if isMax=true then if b > a then b else a else if b<a then b else a),s)
   else none
  | x,ew=>none:=
 fun tm s isMax x y=>nd (aP.eq_30 tm s isMax x y)
theorem Hx (tm:Tm) (s:St) (r:List D) (T:TypeId):aP (AO.qa (.eR::r) T) tm s=some (.ptr s.aw.length 0,{aw:=s.aw++ [.eW T s.aw.length::r],aB:=s.aB}):=nd rfl
theorem Hy (tm:Tm) (s:St) (x:X) (T:TypeId):aP (AO.v7 x T) tm s =
 match (x.ev tm).row with
 | some (.eR::r)=>some (.ptr s.aw.length 0,{aw:=s.aw++ [.eW T s.aw.length::r],aB:=s.aB})
 | _=>none:=nd rfl
theorem Hz (tm:Tm) (s:St) (x y:X):aP (AO.apps x y) tm s =
 match y.ev tm with
 | .str l=>we (x.ev tm) (.slice .shared 1 (l.map fun c=> [.int .u8 c.toNat])) s
 | _=>none:=nd rfl
theorem HA (tm:Tm) (s:St) (x y:X):aP (AO.v8 x y) tm s=we (x.ev tm) (y.ev tm) s:=nd rfl
theorem HC (tm:Tm) (s:St) (f:Nat) (xs:List X):aP (AO.qW f xs) tm s=some (.fM f (xs.map fun x=>x.ev tm),s):=nd rfl
theorem HD (tm:Tm) (s:St):aP AO.qX tm s=some (.fL s.aw.length,{aw:=s.aw++ [[]],aB:=s.aB}):=nd rfl
theorem HE (tm:Tm) (s:St) (m k v:X):aP (AO.uH m k v) tm s =
 match m.ev tm,k.ev tm,v.ev tm with
 | .fL o, .str key, .slice g z rows=>
  match s.aw[o]? with
  | some cs=>match s7 key (.slice g z rows) cs with | some hO=>some (.tuple [],{aw:=s.aw.set o hO,aB:=s.aB}) | none=>none
  | none=>none
 | _,_,_=>none:=nd rfl
theorem HF (tm:Tm) (s:St) (m k:X) (zero:D):aP (AO.sq m k zero) tm s =
 match m.ev tm,k.ev tm with
 | .fL o, .str key=>
  match s.aw[o]? with
  | some cs=>match uI key zero cs with | some d=>some (d,s) | none=>none
  | none=>none
 | _,_=>none:=nd rfl
theorem DH (f:Nat) (xs:List X):(AO.qW f xs).core=false:=nd rfl
theorem DI:AO.qX.core=true:=nd rfl
theorem DJ (m k v:X):(AO.uH m k v).core=true:=nd rfl
theorem DK (m k:X) (zero:D):(AO.sq m k zero).core=false:=nd rfl
theorem J4 (n m f:Nat) (cs:List D):D.fg n m (.fM f cs) = .fM f (D.gd n m cs):=nd (by simp only [D.fg])
theorem J5 (n m:Nat) (o:Nat):D.fg n m (.fL o)=if o<n then .fL o else .junk:=nd (by simp only [D.fg])
theorem HG (d:Option Nat) (g:Option (Nat×Bool)) (t:Nat) (xs:List X):(AI.gQ d g t xs).dst=d:=nd rfl
theorem DL (x y:X):(AO.v8 x y).core=true:=nd rfl
theorem DM (z:List D) (T:TypeId):(AO.qa z T).core=true:=nd rfl
theorem DN (x:X) (T:TypeId):(AO.v7 x T).core=true:=nd rfl
theorem DO (x y:X):(AO.apps x y).core=true:=nd rfl
theorem J6 (n m:Nat) (v:Value):D.fg n m (.val v) = .val v:=nd (by simp only [D.fg])
theorem J7 (n m:Nat) (T:TypeId) (o:Nat):D.fg n m (.eW T o)=if o<n then .eW T o else .junk:=nd (by simp only [D.fg])
theorem Mh : ∀ (tm:Tm) (t:Nat),X.ev tm (X.s t)=tm.get t:=
 fun tm t=>nd (X.ev.eq_1 tm t)
theorem Mi : ∀ (tm:Tm) (d:D),X.ev tm (X.k d)=d:=
 fun tm d=>nd (X.ev.eq_2 tm d)
theorem HH : ∀ (tm:Tm) (d:D) (t:Nat),tm.put (some t) d=tm.set t d:=
 fun tm d t=>nd (Tm.put.eq_1 tm d t)
theorem HI : ∀ (tm:Tm) (d:D),tm.put none d=tm:=
 fun tm d=>nd (Tm.put.eq_2 tm d)
theorem HJ : ∀ (x:Nat) (ew:D),Tm.set [] x ew = [(x,ew)]:=
 fun x ew=>nd (Tm.set.eq_1 x ew)
theorem HK : ∀ (x:Nat) (ew:D) (k:Nat) (e:D) (r:List (Nat×D)),
 Tm.set ((k,e)::r) x ew=if k=x then(k,ew)::r else(k,e)::Tm.set r x ew:=
 fun x ew k e r=>nd (Tm.set.eq_2 x ew k e r)
theorem HL : ∀ (x:Nat),Tm.get [] x=D.junk:=
 fun x=>nd (Tm.get.eq_1 x)
theorem HM : ∀ (x k:Nat) (d:D) (r:List (Nat×D)),Tm.get ((k,d)::r) x=if k=x then d else Tm.get r x:=
 fun x k d r=>nd (Tm.get.eq_2 x k d r)
theorem J8 : ∀ (x:Nat),mn x [] = []:=
 fun x=>nd (mn.eq_1 x)
theorem J9 : ∀ (x:Nat) (d:D) (r:List D),mn x (d::r)=(x,d)::mn (x+1) r:=
 fun x d r=>nd (mn.eq_2 x d r)
theorem HN : ∀ (d:Option Nat) (g:Option (Nat×Bool)) (o:AO),(AI.op d g o).dst=d:=
 fun d g o=>nd (AI.dst.eq_1 d g o)
theorem HO : ∀ (d:Option Nat) (g:Option (Nat×Bool)) (f:Nat) (xs:List X),(AI.call d g f xs).dst=d:=
 fun d g f xs=>nd (AI.dst.eq_2 d g f xs)
theorem HP : ∀ (d:Option Nat) (g:Option (Nat×Bool)) (neg:Bool) (ew:X),(AI.nil d g neg ew).dst=d:=
 fun d g neg ew=>nd (AI.dst.eq_3 d g neg ew)
theorem Mj : ∀ (cs:List D) (off size:Nat),
 part cs off true size=if off+size≤cs.length then some (D.agg (List.take size (List.drop off cs)))else none:=
 fun cs off size=>nd (part.eq_1 cs off size)
theorem Mk : ∀ (cs:List D) (off size:Nat),part cs off false size=cs[off]? :=
 fun cs off size=>nd (part.eq_2 cs off size)
theorem HQ : ∀ (cs:List D) (off:Nat) (r:List D),
 iu cs off r=List.take off cs++r++List.drop (off+r.length) cs:=
 fun cs off r=>nd (iu.eq_1 cs off r)
theorem Ka : ∀ (cells:List D),oA cells [] = some cells:=
 fun cells=>nd (oA.eq_1 cells)
theorem Kb : ∀ (cells:List D) (off size:Nat) (d:D) (rest:List (Nat×Nat×D)),
 oA cells ((off,size,d)::rest) =
  match d.row with
  | none=>none
  | some r=>if r.length=size∧off+size≤cells.length then oA (iu cells off r) rest else none:=
 fun cells off size d rest=>nd (oA.eq_2 cells off size d rest)
theorem DP : ∀ (size:Nat) (rows:List (List D)),iA size rows [] = some rows:=
 fun size rows=>nd (iA.eq_1 size rows)
theorem DQ : ∀ (size:Nat) (rows:List (List D)) (i:Nat) (d:D) (rest:List (Nat×D)),
 iA size rows ((i,d)::rest) =
  match d.row with
  | none=>none
  | some r=>if r.length=size∧i<rows.length then iA size (rows.set i r) rest else none:=
 fun size rows i d rest=>nd (iA.eq_2 size rows i d rest)
theorem DR : ∀ (zero:List D),gB zero 0 = []:=
 fun zero=>nd (gB.eq_1 zero)
theorem DS : ∀ (zero:List D) (i:Nat),gB zero i.succ=zero::gB zero i:=
 fun zero i=>nd (gB.eq_2 zero i)
theorem Ml : ∀ (op:BinOp) (k:IntKind) (a:Int) (k':IntKind) (b:Int),
 s6 op (D.int k a) (D.int k' b)=if k=k' then fc op k a b else none:=
 fun op k a k' b=>nd (s6.eq_1 op k a k' b)
theorem Mm : ∀ (op:BinOp) (a b:List UInt8),s6 op (D.str a) (D.str b)=lN op a b:=
 fun op a b=>nd (s6.eq_2 op a b)
theorem HR : ∀ (k:IntKind) (a b:Int),fc BinOp.add k a b=some (D.int k (k.wrap (a+b))):=
 fun k a b=>nd (fc.eq_1 k a b)
theorem HS : ∀ (k:IntKind) (a b:Int),fc BinOp.sub k a b=some (D.int k (k.wrap (a - b))):=
 fun k a b=>nd (fc.eq_2 k a b)
theorem HT : ∀ (k:IntKind) (a b:Int),fc BinOp.mul k a b=some (D.int k (k.wrap (a*b))):=
 fun k a b=>nd (fc.eq_3 k a b)
theorem HU : ∀ (k:IntKind) (a b:Int),
 fc BinOp.quo k a b=if b=0 then none else some (D.int k (k.wrap (a.tdiv b))):=
 fun k a b=>nd (fc.eq_4 k a b)
theorem HV : ∀ (k:IntKind) (a b:Int),fc BinOp.rem k a b=if b=0 then none else some (D.int k (a.tmod b)):=
 fun k a b=>nd (fc.eq_5 k a b)
theorem HW : ∀ (k:IntKind) (a b:Int),fc BinOp.eql k a b=some (D.bool (a==b)):=
 fun k a b=>nd (fc.eq_6 k a b)
theorem HX : ∀ (k:IntKind) (a b:Int),fc BinOp.neq k a b=some (D.bool (a != b)):=
 fun k a b=>nd (fc.eq_7 k a b)
theorem HY : ∀ (k:IntKind) (a b:Int),fc BinOp.lss k a b=some (D.bool (decide (a<b))):=
 fun k a b=>nd (fc.eq_8 k a b)
theorem HZ : ∀ (k:IntKind) (a b:Int),fc BinOp.leq k a b=some (D.bool (decide (a≤b))):=
 fun k a b=>nd (fc.eq_9 k a b)
theorem Fc : ∀ (k:IntKind) (a b:Int),fc BinOp.gtr k a b=some (D.bool (decide (a > b))):=
 fun k a b=>nd (fc.eq_10 k a b)
theorem Fe : ∀ (k:IntKind) (a b:Int),fc BinOp.geq k a b=some (D.bool (decide (a≥b))):=
 fun k a b=>nd (fc.eq_11 k a b)
theorem H0 : ∀ (a b:List UInt8),
 lN BinOp.add a b=if a.length+b.length≤bk then some (D.str (a++b))else none:=
 fun a b=>nd (lN.eq_1 a b)
theorem H2 : ∀ (a b:List UInt8),lN BinOp.eql a b=some (D.bool (a==b)):=
 fun a b=>nd (lN.eq_2 a b)
theorem H3 : ∀ (a b:List UInt8),lN BinOp.neq a b=some (D.bool !a==b):=
 fun a b=>nd (lN.eq_3 a b)
theorem H4 : ∀ (a b:List UInt8),lN BinOp.lss a b=some (D.bool (bytesLess a b)):=
 fun a b=>nd (lN.eq_4 a b)
theorem Qb : ∀ (k:IntKind) (n:Int),Db UnOp.neg (D.int k n)=some (D.int k (k.wrap (0 - n))):=
 fun k n=>nd (Db.eq_1 k n)
theorem Qc : ∀ (b:Bool),Db UnOp.not (D.bool b)=some (D.bool !b):=
 fun b=>nd (Db.eq_2 b)
theorem H5 : ∀ (k:IntKind) (a:Int) (k':IntKind) (b:Int),
 kM 0 (D.int k a) (D.int k' b)=if k=k' then some (a==b)else none:=
 fun k a k' b=>nd (kM.eq_1 k a k' b)
theorem H6 : ∀ (a b:Bool),kM 1 (D.bool a) (D.bool b)=some (a==b):=
 fun a b=>nd (kM.eq_2 a b)
theorem H7 : ∀ (a b:List UInt8),kM 2 (D.str a) (D.str b)=some (a==b):=
 fun a b=>nd (kM.eq_3 a b)
theorem Ff:jw [] [] [] = some true:=
 nd (jw.eq_1)
theorem Fg : ∀ (k:Nat) (ks:List Nat) (OU:D) (xs:List D) (y:D) (ys:List D),
 jw (k::ks) (OU::xs) (y::ys) =
  match kM k OU y with
  | none=>none
  | some true=>jw ks xs ys
  | some false=>some false:=
 fun k ks OU xs y ys=>nd (jw.eq_2 k ks OU xs y ys)
theorem Qd:wb none=some 0:=
 nd (wb.eq_1)
theorem Qe : ∀ (k:IntKind) (n:Int),wb (some (D.int k n))=some n:=
 fun k n=>nd (wb.eq_2 k n)
theorem Qf : ∀ (len:Nat),wc none len=some ↑len:=
 fun len=>nd (wc.eq_1 len)
theorem Qg : ∀ (len:Nat) (k:IntKind) (n:Int),wc (some (D.int k n)) len=some n:=
 fun len k n=>nd (wc.eq_2 len k n)
theorem Fh : ∀ (zero:List D),(AO.alloc zero).core=true:=
 fun zero=>nd (AO.core.eq_1 zero)
theorem Fi : ∀ (ew:X),(AO.box ew).core=true:=
 fun ew=>nd (AO.core.eq_2 ew)
theorem Fj : ∀ (zero:List D) (size n:Nat) (parts:List (Nat×X)),(AO.rm zero size n parts).core=true:=
 fun zero size n parts=>nd (AO.core.eq_3 zero size n parts)
theorem Fk : ∀ (ew:X),(AO.vZ ew).core=true:=
 fun ew=>nd (AO.core.eq_4 ew)
theorem Fl : ∀ (p ew:X) (size:Nat),(AO.store p ew size).core=true:=
 fun p ew size=>nd (AO.core.eq_5 p ew size)
theorem Fm : ∀ (size bytes:Nat) (ew y:X),(AO.app size bytes ew y).core=true:=
 fun size bytes ew y=>nd (AO.core.eq_6 size bytes ew y)
theorem Fo : ∀ (val:Nat) (zero:List D),(AI.op (some val) none (AO.alloc zero)).kind=AK.alloc:=
 fun val zero=>nd (AI.kind.eq_1 val zero)
theorem Fp : ∀ (zero:List D),(AO.alloc zero).kind=AK.core:=
 fun zero=>nd (AO.kind.eq_1 zero)
theorem Fq : ∀ (ew:X),(AO.box ew).kind=AK.core:=
 fun ew=>nd (AO.kind.eq_2 ew)
theorem Fs : ∀ (zero:List D) (size n:Nat) (parts:List (Nat×X)),(AO.rm zero size n parts).kind=AK.core:=
 fun zero size n parts=>nd (AO.kind.eq_3 zero size n parts)
theorem Ft : ∀ (ew:X),(AO.vZ ew).kind=AK.core:=
 fun ew=>nd (AO.kind.eq_4 ew)
theorem Fu : ∀ (p ew:X) (size:Nat),(AO.store p ew size).kind=AK.core:=
 fun p ew size=>nd (AO.kind.eq_5 p ew size)
theorem Fv : ∀ (size bytes:Nat) (ew y:X),(AO.app size bytes ew y).kind=AK.core:=
 fun size bytes ew y=>nd (AO.kind.eq_6 size bytes ew y)
theorem Fw : ∀ (ew:X) (agg:Bool) (size:Nat),(AO.load ew agg size).kind=AK.load:=
 fun _ _ _=>nd rfl
theorem H8:fF AK.core=true:=
 nd (fF.eq_1)
theorem H9:fF AK.alloc=true:=
 nd (fF.eq_2)
theorem Ia : ∀ (i:AI) (tm:Tm) (d:D),lT i tm d [] = True:=
 fun i tm d=>nd (lT.eq_1 i tm d)
theorem Ib : ∀ (i:AI) (tm:Tm) (d:D) (s:St) (r:List St),
 lT i tm d (s::r)=(iw i tm s=some d∧lT i tm d r):=
 fun i tm d s r=>nd (lT.eq_2 i tm d s r)
theorem Qh : ∀ (tm:Tm) (s:St) (dst:Option Nat) (o:AO),
 iw (AI.op dst none o) tm s=Option.map (fun(x:D×St)=>x.fst) (aP o tm s):=
 fun tm s dst o=>nd (iw.eq_1 tm s dst o)
theorem Qi : ∀ (tm:Tm) (s:St) (dst:Option Nat) (t:Nat) (want:Bool) (o:AO),
 iw (AI.op dst (some (t,want)) o) tm s =
  match tm.get t with
  | D.bool b=>if b=want then Option.map (fun(x:D×St)=>x.fst) (aP o tm s)else some (D.tuple [])
  | D.tuple vs=>some (D.tuple [])
  | x=>none:=
 fun tm s dst t want o=>nd (iw.eq_2 tm s dst t want o)
theorem Fx : ∀ (is:List AI),kR is [] = some []:=
 fun is=>nd (kR.eq_1 is)
theorem Fy : ∀ (is:List AI) (q b:Nat) (r:List (Nat×Nat)),
 kR is ((q,b)::r) =
  match is[q]?,kR is r with
  | some ai,some l=>some ((ai,b)::l)
  | x,ew=>none:=
 fun is q b r=>nd (kR.eq_2 is q b r)
theorem Qj : ∀ (tm:Tm) (n m:Nat),sI tm n m [] = True:=
 fun tm n m=>nd (sI.eq_1 tm n m)
theorem Qk : ∀ (tm:Tm) (n m k:Nat) (d:D) (r:List (Nat×D)),
 sI tm n m ((k,d)::r)=(Wk (D.fg n m (tm.get k)) d∧sI tm n m r):=
 fun tm n m k d r=>nd (sI.eq_2 tm n m k d r)
theorem Mn : ∀ (n m o off:Nat),D.fg n m (D.ptr o off)=if o<n then D.ptr o off else D.junk:=
 fun n m o off=>nd (D.fg.eq_1 n m o off)
theorem Mp : ∀ (n m:Nat) (row:List D) (off:Nat),D.fg n m (D.dJ row off)=D.dJ (D.gd n m row) off:=
 fun n m row off=>nd (D.fg.eq_2 n m row off)
theorem Mq : ∀ (n m:Nat) (g:Tag) (z:Nat) (rows:List (List D)),
 D.fg n m (D.slice g z rows)=D.slice (Tag.fg m g) z (D.ja n m rows):=
 fun n m g z rows=>nd (D.fg.eq_3 n m g z rows)
theorem Mr : ∀ (n m:Nat) (cs:List D),D.fg n m (D.agg cs)=D.agg (D.gd n m cs):=
 fun n m cs=>nd (D.fg.eq_4 n m cs)
theorem Ms : ∀ (n m:Nat) (ds:List D),D.fg n m (D.tuple ds)=D.tuple (D.gd n m ds):=
 fun n m ds=>nd (D.fg.eq_5 n m ds)
theorem Mt : ∀ (n m:Nat),D.fg n m D.junk=D.junk:=
 fun n m=>nd (D.fg.eq_6 n m)
theorem Mu : ∀ (n m:Nat) (k:IntKind) (ew:Int),D.fg n m (D.int k ew)=D.int k ew:=
 fun n m k ew=>nd (D.fg.eq_7 n m k ew)
theorem Mv : ∀ (n m:Nat) (b:Bool),D.fg n m (D.bool b)=D.bool b:=
 fun n m b=>nd (D.fg.eq_8 n m b)
theorem Mw : ∀ (n m:Nat) (l:List UInt8),D.fg n m (D.str l)=D.str l:=
 fun n m l=>nd (D.fg.eq_9 n m l)
theorem Kc : ∀ (n m:Nat),D.fg n m D.eR=D.eR:=
 fun n m=>nd (D.fg.eq_10 n m)
theorem Kd : ∀ (n m:Nat),D.gd n m [] = []:=
 fun n m=>nd (D.gd.eq_1 n m)
theorem Ke : ∀ (n m:Nat) (d:D) (r:List D),D.gd n m (d::r)=D.fg n m d::D.gd n m r:=
 fun n m d r=>nd (D.gd.eq_2 n m d r)
theorem Kf : ∀ (n m:Nat),D.ja n m [] = []:=
 fun n m=>nd (D.ja.eq_1 n m)
theorem Kg : ∀ (n m:Nat) (d:List D) (r:List (List D)),D.ja n m (d::r)=D.gd n m d::D.ja n m r:=
 fun n m d r=>nd (D.ja.eq_2 n m d r)
theorem Ic : ∀ (m t:Nat) (y:Bool),Tag.fg m (Tag.tok t y)=if t<m then Tag.tok t y else Tag.shared:=
 fun _ _ _=>nd rfl
theorem Ie : ∀ (s:St) (n m:Nat),
 s.cut n m = {aw:=List.map (D.gd n m) (List.take n s.aw),aB:=List.take m s.aB}:=
 fun s n m=>nd (St.cut.eq_1 s n m)
theorem Mx : ∀ (d:D),aF [d] = d:=
 fun d=>nd (aF.eq_1 d)
theorem My (size bytes t:Nat) (rows:List (List D)) (g:Tag) (r:List D) (s:St):gC size bytes (.slice (.tok t) size rows) (.slice g size [r]) s =
 if(rows.length+1)*(bytes+1)≤bk∧s.aB[t]? = some (some rows.length)then some (.slice (.tok t) size (rows++ [r]),⟨s.aw,s.aB.set t (some (rows.length+1))⟩)else none:=by
 simp only [gC,List.length_singleton]
 by_cases h1:(rows.length+1)*(bytes+1)≤bk <;> by_cases h2:s.aB[t]? = some (some rows.length) <;> simp [h1,h2]
theorem yp {size bytes t:Nat} {rows new:List (List D)} {g:Tag} {s:St} (h1:(rows.length+new.length)*(bytes+1)≤bk) (h2:s.aB[t]? = some (some rows.length)) :
 gC size bytes (.slice (.tok t) size rows) (.slice g size new) s=some (.slice (.tok t) size (rows++new),⟨s.aw,s.aB.set t (some (rows.length+new.length))⟩):=by
 cases new with
 | nil=>
  have:s.aB.set t (some rows.length)=s.aB:=by
   apply List.ext_getElem?
   intro i
   rw [List.getElem?_set]
   split
   ·rename_i hi;subst hi;rw [h2,if_pos (List.getElem?_eq_some_iff.1 h2).1]
   ·rfl
  simp only [List.length_nil,Nat.add_zero]at h1
  simp [gC,h1,this]
 | cons x l=>
  simp only [gC,h1,h2]
  simp
theorem Kh (size bytes z:Nat) (g:Tag) (r:List D) (s:St):gC size bytes (.slice .full z []) (.slice g size [r]) s =
 if bytes+1≤bk then some (.slice (.tok s.aB.length) size [r],⟨s.aw,s.aB++ [some 1]⟩)else none:=by
 simp [gC]
theorem Ql {P:Program} {B:fY} {nt:Nat} (ac:AC) (Q:Exit→Tm→St→Prop) (tm:Tm) (s:St):GN P B nt ac Q .normal tm s=Q .normal tm s:=nd rfl
theorem Qm {P:Program} {B:fY} {nt:Nat} (ac:AC) (Q:Exit→Tm→St→Prop) (tm:Tm) (s:St):GN P B nt ac Q .ret tm s=Q .ret tm s:=nd rfl
theorem Qn {P:Program} {B:fY} {nt:Nat} (ac:AC) (Q:Exit→Tm→St→Prop) (tm:Tm) (s:St) (i:Nat):GN P B nt ac Q (.exit i) tm s=Q (.exit i) tm s:=nd rfl
theorem Qo (m:Nat):Tag.fg m .full = .full:=nd rfl
theorem Ki (m:Nat):Tag.fg m .shared = .shared:=nd rfl
theorem UH {P:Program} (K:Tm→St→Prop) (tm:Tm) (s:St):jc P [] K tm s=K tm s:=nd rfl
theorem s_op {P:Program} (dst:Option Nat) (o:AO) (r:List AI) (K:Tm→St→Prop) (tm:Tm) (s:St) :
 jc P (.op dst none o::r) K tm s=(match aP o tm s with | some (d,s')=>jc P r K (tm.put dst d) s' | none=>False):=nd rfl
def KJ (P:Program) (r:List AI) (K:Tm→St→Prop) (tm:Tm) (dst:Option Nat) (d:D) (s:St):Prop:=jc P r K (tm.put dst d) s
theorem X0 {P:Program} (r:List AI) (K:Tm→St→Prop) (tm:Tm) (dst:Option Nat) (d:D) (s:St):KJ P r K tm dst d s=jc P r K (tm.put dst d) s:=nd rfl
theorem s_call {P:Program} (dst:Option Nat) (f:Nat) (xs:List X) (r:List AI) (K:Tm→St→Prop) (tm:Tm) (s:St) :
 jc P (.call dst none f xs::r) K tm s=CL P f (xs.map (·.ev tm)) s (KJ P r K tm dst):=nd rfl
def NJ (P:Program) (dst:Option Nat) (neg:Bool) (x:D) (r:List AI) (K:Tm→St→Prop) (tm:Tm) (s:St):Prop:=
 match x with
 | .slice _ _ rows=>∀ b:Bool,(rows≠ []→b=false)→jc P r K (tm.put dst (.bool (if neg then !b else b))) s
 | _=>False
theorem R0 {P:Program} (dst:Option Nat) (neg:Bool) (x:X) (r:List AI) (K:Tm→St→Prop) (tm:Tm) (s:St) :
 jc P (.nil dst none neg x::r) K tm s=NJ P dst neg (x.ev tm) r K tm s:=nd rfl
theorem Qp {P:Program} (dst:Option Nat) (neg:Bool) (g:Tag) (z:Nat) (d:List D) (l:List (List D)) (r:List AI) (K:Tm→St→Prop) (tm:Tm) (s:St) :
 NJ P dst neg (.slice g z (d::l)) r K tm s=jc P r K (tm.put dst (.bool neg)) s:=by
 simp only [NJ,ne_eq,reduceCtorEq,not_false_eq_true,true_imp_iff,eq_iff_iff]
 refine⟨fun h=>by have:=h false rfl;cases neg <;> exact this,fun h b hb=> ?_⟩
 subst hb;cases neg <;> exact h
theorem UI {P:Program} (dst:Option Nat) (t:Nat) (w:Bool) (o:AO) (r:List AI) (K:Tm→St→Prop) (tm:Tm) (s:St) :
 jc P (.op dst (some (t,w)) o::r) K tm s = @GB (tm.get t) w ⟨(jc P (.op dst none o::r) K tm s),(jc P r K (tm.put dst (.tuple [])) s)⟩:=nd rfl
def CV (P:Program) (x:D) (UJ:List D) (s:St) (K:D→St→Prop):Prop:=
 match x with
 | .fM f lq=>enters P f=true∧CL P f (UJ++lq) s K
 | _=>False
theorem Qq {P:Program} (dst:Option Nat) (t:Nat) (xs:List X) (r:List AI) (K:Tm→St→Prop) (tm:Tm) (s:St) :
 jc P (.gQ dst none t xs::r) K tm s=CV P (tm.get t) (xs.map (·.ev tm)) s (KJ P r K tm dst):=nd rfl
theorem CV.use {P:Program} {f:Nat} {lq UJ:List D} {s s':St} {d:D} {K:D→St→Prop} (he:enters P f=true) (h:aD P f (UJ++lq) s d s') (k:K d s'):CV P (.fM f lq) UJ s K:=⟨he,d,s',h,k⟩
theorem Mz {P:Program} (dst:Option Nat) (t:Nat) (w:Bool) (u:Nat) (xs:List X) (r:List AI) (K:Tm→St→Prop) (tm:Tm) (s:St) :
 jc P (.gQ dst (some (t,w)) u xs::r) K tm s = @GB (tm.get t) w ⟨(jc P (.gQ dst none u xs::r) K tm s),(jc P r K (tm.put dst (.tuple [])) s)⟩:=nd rfl
theorem Qr {P:Program} (dst:Option Nat) (t:Nat) (w:Bool) (f:Nat) (xs:List X) (r:List AI) (K:Tm→St→Prop) (tm:Tm) (s:St) :
 jc P (.call dst (some (t,w)) f xs::r) K tm s = @GB (tm.get t) w ⟨(jc P (.call dst none f xs::r) K tm s),(jc P r K (tm.put dst (.tuple [])) s)⟩:=nd rfl
theorem R3 {P:Program} (dst:Option Nat) (t:Nat) (w:Bool) (neg:Bool) (x:X) (r:List AI) (K:Tm→St→Prop) (tm:Tm) (s:St) :
 jc P (.nil dst (some (t,w)) neg x::r) K tm s = @GB (tm.get t) w ⟨(jc P (.nil dst none neg x::r) K tm s),(jc P r K (tm.put dst (.tuple [])) s)⟩:=nd rfl
theorem X2 (b:Bool) (A C:Prop) : @GB (.bool b) true ⟨A,C⟩ = @CB (.bool b) ⟨A,C⟩:=nd rfl
theorem X3 (b:Bool) (A C:Prop) : @GB (.bool b) false ⟨A,C⟩ = @CB (.bool b) ⟨C,A⟩:=by
 cases b <;> simp [GB,CB,GJ,q7]
theorem X4 (l:List D) (w:Bool) (A C:Prop) : @GB (.tuple l) w ⟨A,C⟩=C:=nd rfl
theorem UK {P:Program} {K:Tm→St→Prop} (bt:List St) (tm:Tm) (s:St):fh P K [] bt tm s=K tm s:=nd rfl
def OJ (P:Program) (o:AO) (dst:Option Nat) (b:Nat) (r:List (AI×Nat)) (K:Tm→St→Prop) (bt:List St) (tm:Tm) (s:St):Bool→Prop
 | true=>match aP o tm s with | some (d,s')=>fh P K r (s::bt) (tm.put dst d) s' | none=>False
 | false=>match aP o tm s with | some (d,_)=>lT (.op dst none o) tm d (bt.take b)∧fh P K r bt (tm.put dst d) s | none=>False
theorem X6 {P:Program} {K:Tm→St→Prop} (dst:Option Nat) (o:AO) (b:Nat) (r:List (AI×Nat)) (bt:List St) (tm:Tm) (s:St) :
 fh P K ((.op dst none o,b)::r) bt tm s=OJ P o dst b r K bt tm s o.core:=by
 simp only [fh,kS]
 cases o.core <;> rfl
theorem X7 {P:Program} (o:AO) (dst:Option Nat) (b:Nat) (r:List (AI×Nat)) (K:Tm→St→Prop) (bt:List St) (tm:Tm) (s:St) :
 OJ P o dst b r K bt tm s true=match aP o tm s with | some (d,s')=>fh P K r (s::bt) (tm.put dst d) s' | none=>False:=nd rfl
theorem X8 {P:Program} (o:AO) (dst:Option Nat) (b:Nat) (r:List (AI×Nat)) (K:Tm→St→Prop) (bt:List St) (tm:Tm) (s:St) :
 OJ P o dst b r K bt tm s false=match aP o tm s with | some (d,_)=>lT (.op dst none o) tm d (bt.take b)∧fh P K r bt (tm.put dst d) s | none=>False:=nd rfl
theorem UL {P:Program} {K:Tm→St→Prop} (dst:Option Nat) (t:Nat) (w:Bool) (o:AO) (b:Nat) (r:List (AI×Nat)) (bt:List St) (tm:Tm) (s:St) :
 fh P K ((.op dst (some (t,w)) o,b)::r) bt tm s = @GB (tm.get t) w ⟨(fh P K ((.op dst none o,b)::r) bt tm s),(fh P K r (if o.core then s::bt else bt) (tm.put dst (.tuple [])) s)⟩:=by
 simp only [GB,fh,kS]
 cases o.core <;> rfl
def KG (P:Program) (K:Tm→St→Prop) (r:List (AI×Nat)) (bt:List St) (tm:Tm) (dst:Option Nat) (d:D) (s:St):Prop:=fh P K r bt (tm.put dst d) s
theorem X9 {P:Program} (K:Tm→St→Prop) (r:List (AI×Nat)) (bt:List St) (tm:Tm) (dst:Option Nat) (d:D) (s:St):KG P K r bt tm dst d s=fh P K r bt (tm.put dst d) s:=nd rfl
theorem g_call {P:Program} {K:Tm→St→Prop} (dst:Option Nat) (f:Nat) (xs:List X) (b:Nat) (r:List (AI×Nat)) (bt:List St) (tm:Tm) (s:St) :
 fh P K ((.call dst none f xs,b)::r) bt tm s=CL P f (xs.map (·.ev tm)) s (KG P K r (s::bt) tm dst):=nd rfl
theorem Qs {P:Program} {K:Tm→St→Prop} (dst:Option Nat) (t:Nat) (w:Bool) (f:Nat) (xs:List X) (b:Nat) (r:List (AI×Nat)) (bt:List St) (tm:Tm) (s:St) :
 fh P K ((.call dst (some (t,w)) f xs,b)::r) bt tm s = @GB (tm.get t) w ⟨(fh P K ((.call dst none f xs,b)::r) bt tm s),(fh P K r (s::bt) (tm.put dst (.tuple [])) s)⟩:=nd rfl
class Ok (p:Prop):Prop where
 out:p
instance:Ok True:=⟨trivial⟩
instance {p q:Prop} [Ok p] [Ok q] : Ok (p∧q):=⟨⟨Ok.out,Ok.out⟩⟩
instance {α:Type} (a:α):Ok (a=a):=⟨rfl⟩
instance (d:D):Ok (Wk d .junk):=⟨Wk.junk d⟩
instance {l l':List D} [Ok (kP l l')] : Ok (Wk (.tuple l) (.tuple l')):=⟨Wk.tuple Ok.out⟩
instance {l l':List D} [Ok (kP l l')] : Ok (Wk (.agg l) (.agg l')):=⟨Wk.agg Ok.out⟩
instance {g:Tag} {z:Nat} {l l':List (List D)} [Ok (gH l l')] : Ok (Wk (.slice g z l) (.slice g z l')):=⟨Wk.rows Ok.out⟩
instance {g:Tag} {z:Nat} {l l':List (List D)} [Ok (gH l l')] : Ok (Wk (.slice g z l) (.slice .shared z l')):=⟨Wk.slice Ok.out⟩
instance (z z':Nat):Ok (Wk (.slice .full z []) (.slice .full z' [])):=⟨Wk.XR z z'⟩
instance (g:Tag) (z z':Nat):Ok (Wk (.slice g z []) (.slice .shared z' [])):=⟨Wk.nil g z z'⟩
instance (d:D):Ok (Wk d d):=⟨Wk.refl d⟩
instance:Ok (kP [] []):=⟨.nil⟩
instance {d d':D} {l l':List D} [Ok (Wk d d')] [Ok (kP l l')] : Ok (kP (d::l) (d'::l')):=⟨.cons Ok.out Ok.out⟩
instance (l:List D):Ok (kP l l):=⟨kP.refl l⟩
instance:Ok (gH [] []):=⟨.nil⟩
instance {d d':List D} {l l':List (List D)} [Ok (kP d d')] [Ok (gH l l')] : Ok (gH (d::l) (d'::l')):=⟨.cons Ok.out Ok.out⟩
instance {a a' b b':List (List D)} [Ok (gH a a')] [Ok (gH b b')] : Ok (gH (a++b) (a'++b')):=⟨gH.append Ok.out Ok.out⟩
instance (l:List (List D)):Ok (gH l l):=⟨gH.refl l⟩
theorem bs:(∀ b,(true || b)=true)∧(∀ b,(false || b)=b)∧(∀ b,(b || true)=true)∧(∀ b,(b || false)=b)∧(∀ b,(true && b)=b)∧(∀ b,(false && b)=false)∧(∀ b,(b && true)=b)∧(∀ b,(b && false)=false)∧
 (!true)=false∧(!false)=true∧(∀ b,(!!b)=b)∧((false=true)=False)∧(∀ (α β:Type) (a:α) (f:α→Option β),(some a).bind f=f a)∧
 (∀ (α β γ:Type) (x:Option α) (f:α→Option β) (g:β→Option γ),(x.bind f).bind g=x.bind fun y=>(f y).bind g):=
 ⟨Bool.true_or,Bool.false_or,Bool.or_true,Bool.or_false,Bool.true_and,Bool.false_and,Bool.and_true,Bool.and_false,rfl,rfl,Bool.not_not,by simp,fun _ _ _ _=>rfl,fun _ _ _ x f g=>Option.bind_assoc x f g⟩
attribute [go_sem] RX XX XY UH s_op X0 s_call R0 Qp UI Qr R3 X2 X3 X4 UK X6 X7 X8 UL X9 g_call Qs AO.core AI.kind AO.kind fF
attribute [go_sem] Qq Mz HC HD HE HF DH DI DJ DK J4 J5 HG P1 L4
attribute [go_sem] HA DL Hx Hy Hz DM DN DO J6 J7 P0 JQ PW L1 PX L2 PY L3 JP PZ L5 G8 L6
attribute [go_sem] JV JW JX JY JZ J0 J1 J2 J3 Hc Hd He Hf Hg Hh Hi Hj Hk Hl Hm Hn Ho Hp Hq Hr Hs Ht Hu Hv Hw Mh Mi HH HI HJ HK HL HM J8 J9 HN HO HP Mj Mk HQ Ka Kb DP DQ DR DS Ml Mm HR HS HT HU HV HW HX HY HZ Fc Fe H0 H2 H3 H4 Qb Qc H5 H6 H7 Ff Fg Qd Qe Qf Qg Fh Fi Fj Fk Fl Fm Fo Fp Fq Fs Ft Fu Fv Fw H8 H9 Ia Ib Qh Qi Fx Fy Qj Qk Mn Mp Mq Mr Ms Mt Mu Mv Mw Kc Kd Ke Kf Kg Ic Ie Mx My Kh Qo Ki Ql Qm Qn
attribute [go_sem] List.map_cons List.map_nil List.getElem?_cons_zero List.getElem?_cons_succ List.length_cons List.length_nil List.set_cons_zero List.set_cons_succ List.take_succ_cons List.take_zero List.take_nil List.drop_succ_cons List.drop_zero List.drop_nil List.cons_append List.nil_append List.append_nil Nat.zero_add Nat.add_zero Option.map_some Option.map_none
attribute [go_sem] Bool.not_false Bool.not_true List.length_map List.getElem?_map Int.toNat_natCast Int.natCast_nonneg Int.toNat_zero and_self and_true true_and
attribute [go_sem_proc ↓] reduceIte
attribute [go_sem_proc] Int.reduceLE reduceCtorEq Nat.reduceEqDiff Nat.reduceLeDiff Nat.reduceAdd Nat.reduceMul Nat.reduceSub Nat.reduceLT
theorem ax {b:Bool} {A C:Prop} (h1:b=true→A) (h:b=true:=by assumption) : @CB (.bool b) ⟨A,C⟩:=RY h h1
theorem ay {b:Bool} {A C:Prop} (h1:b=false→C) (h:b=false:=by assumption) : @CB (.bool b) ⟨A,C⟩:=RZ h h1
theorem az {b:Bool} {A C:Prop} (h1:b=true→A) (h2:b=false→C) : @CB (.bool b) ⟨A,C⟩:=⟨h1,h2⟩
theorem gA {a b:Prop} (x:a) (y:b):a∧b:=⟨x,y⟩
theorem aN {α:Type _} (a b:α):(some a=some b)=(a=b):=Option.some.injEq a b
theorem aO {α:Sort _} {p:α→Prop} {a:α} : (∃ x,a=x∧p x)↔p a:=exists_eq_left'
theorem mr {n m:Nat} (h:Nat.ble n m=true):n≤m:=Nat.le_of_ble_eq_true h
theorem aA {n m:Nat} {res:List (Nat×Option (Bool×Nat))} {d:D} {s':St} {e:Exit} {tm:Tm} {s:St} {Q:Exit→Tm→St→Prop} (hQ:kQ n m res d s'=Q) (h : ∃ l,aE res tm s=some l∧Wk ((aF l).fg n m) d∧gH (s.cut n m).aw s'.aw∧(s.cut n m).aB=s'.aB) (he:e = .ret∨e = .normal:=by first | exact .inl rfl | exact .inr rfl):Q e tm s:=by cases he with | inl x=>cases x;exact UF hQ h | inr x=>cases x;exact UG hQ h
theorem aQ {p:Prop} (h:p:=by repeat' (first | exact Ok.out | with_reducible refine gA ?_ ?_ | (simp;done))):p:=h
theorem aT {p:Prop} (h:p:=by repeat' (first | exact Ok.out | with_reducible refine gA ?_ ?_)):p:=h
theorem bx {p:Prop} (h:p:=by(try cases h);simp only [aE,aF,aN,aO,go_sem,hD,hJ,hP,hY];repeat' (first | exact Ok.out | with_reducible refine gA ?_ ?_ | (simp;done))):p:=h
theorem Xc {p:Prop} (h:p:=by simp only [go_sem,hD,hJ,hP,hY];repeat' (first | exact Ok.out | with_reducible refine gA ?_ ?_)):p:=h
theorem cP {P:Program} {B:fY} {nt:Nat} {a:AC} {Q:Exit→Tm→St→Prop} {tm bJ:Tm} {s:St} {kI:List (List D)} (n m:Nat) (h:bl P B nt a Q bJ ⟨kI,(s.cut n m).aB⟩) (hn:B.s.aw.length≤n:=by rw [hB];exact mr rfl) (hm:B.s.aB.length≤m:=by rw [hB];exact mr rfl) (ht:sI tm n m bJ:=by exact Xc) (ho:gH (s.cut n m).aw kI:=by exact Xc):bl P B nt a Q tm s:=bl.re bJ kI n m hn hm ht ho h
theorem bX {P:Program} {B:fY} {nt:Nat} {a:AC} {Q:Exit→Tm→St→Prop} {tm bJ:Tm} {s:St} {kI:List (List D)} (n m:Nat) (ht:sI tm n m bJ) (ho:gH (s.cut n m).aw kI) (h:bl P B nt a Q bJ ⟨kI,(s.cut n m).aB⟩) (hn:B.s.aw.length≤n:=by rw [hB];exact mr rfl) (hm:B.s.aB.length≤m:=by rw [hB];exact mr rfl):bl P B nt a Q tm s:=bl.re bJ kI n m hn hm ht ho h
theorem bK:0<1∧0<1∧0<1∧0<1:=⟨Nat.zero_lt_one,Nat.zero_lt_one,Nat.zero_lt_one,Nat.zero_lt_one⟩
end Go.Abs

/-! Types -/

namespace Go.Abs
mutual
theorem Ig (n m:Nat) : ∀ d,D.ok 0 0 d=true→D.fg n m d=d
 | .junk,_=>by simp [D.fg]
 | .int k n,_=>by simp [D.fg]
 | .bool b,_=>by simp [D.fg]
 | .str l,_=>by simp [D.fg]
 | .eR,_=>by simp [D.fg]
 | .val v,_=>by simp [D.fg]
 | .eW T o,h=>by simp [D.ok]at h
 | .fL o,h=>by simp [D.ok]at h
 | .fM f cs,h=>by
  simp only [D.ok]at h
  simp only [D.fg,gp n m cs h]
 | .ptr o f,h=>by simp [D.ok]at h
 | .dJ r f,h=>by
  simp only [D.ok]at h
  simp only [D.fg,gp n m r h]
 | .slice g z rows,h=>by
  simp only [D.ok,Bool.and_eq_true]at h
  simp only [D.fg,DT n m rows h.2]
  cases g with
  | tok t y=>simp [Tag.ok]at h
  | full=>rfl
  | shared=>rfl
 | .agg cs,h=>by
  simp only [D.ok]at h
  simp only [D.fg,gp n m cs h]
 | .tuple cs,h=>by
  simp only [D.ok]at h
  simp only [D.fg,gp n m cs h]
theorem gp (n m:Nat) : ∀ l,D.bM 0 0 l=true→D.gd n m l=l
 | [],_=>by simp [D.gd]
 | d::r,h=>by
  simp only [D.bM,Bool.and_eq_true]at h
  simp only [D.gd,Ig n m d h.1,gp n m r h.2]
theorem DT (n m:Nat) : ∀ l,D.jb 0 0 l=true→D.ja n m l=l
 | [],_=>by simp [D.ja]
 | d::r,h=>by
  simp only [D.jb,Bool.and_eq_true]at h
  simp only [D.ja,gp n m d h.1,DT n m r h.2]
end
theorem fZ {α:Type} {f:α→List D} (h : ∀ x,D.bM 0 0 (f x)=true) (l:List α):D.jb 0 0 (l.map f)=true:=by
 simp [Du,h]
theorem kU {α:Type} {f:α→List D} (h : ∀ x,D.bM 0 0 (f x)=true) (n m:Nat) (l:List α):D.ja n m (l.map f)=l.map f:=DT n m _ (fZ h l)
theorem FX (n m:Nat) : ∀ a b,D.ja n m (a++b)=D.ja n m a++D.ja n m b
 | [],b=>by simp [D.ja]
 | x::a,b=>by simp [D.ja,FX n m a b]
abbrev aH:=List UInt8
structure nN where
 kind:Int
 text:aH
 n:Int
 pos:Int
deriving DecidableEq
structure Ex where
 op:Int
 n:Int
 name:aH
 kids:List Ex
structure Ar where
 ref:Bool
 name:aH
 x:Ex
structure Sm where
 id:Int
 kind:Int
 labels:List aH
 name:aH
 proc:aH
 x:Ex
 has:Bool
 args:List Ar
 bp:List Sm
 bc:List Sm
structure Pm where
 name:aH
 ref:Bool
structure Pc where
 name:aH
 params:List Pm
 vars:List aH
 body:List Sm
 fin:List aH
structure Pg where
 globals:List aH
 procs:List Pc
def oI:Ex:=⟨0,0,[],[]⟩
def ar0:Ar:=⟨false,[],oI⟩
def FY:Sm:=⟨0,0,[],[],[],oI,false,[],[],[]⟩
def Kj:Pg:=⟨[],[]⟩
def encStr (s:aH):List D:= [.str s]
def ix (t:nN):List D:= [.int .i64 t.kind, .str t.text, .int .i64 t.n, .int .i64 t.pos]
def sl (z:Nat) (rows:List (List D)):D:= .slice .shared z rows
mutual
def bL:Ex→List D
 | ⟨op,n,name,kids⟩=> [.int .i64 op, .int .i64 n, .str name, .slice .shared 4 (rG kids)]
def rG:List Ex→List (List D)
 | []=> []
 | x::l=>bL x::rG l
end
theorem BG : ∀ l,rG l=l.map bL
 | []=>by simp [rG]
 | x::l=>by simp [rG,BG l]
theorem gD (x:Ex):bL x = [.int .i64 x.op, .int .i64 x.n, .str x.name, .slice .shared 4 (x.kids.map bL)]:=by
 cases x;simp [bL,BG]
def dt (a:Ar):List D:= [.bool a.ref, .str a.name, .int .i64 a.x.op, .int .i64 a.x.n, .str a.x.name, .slice .shared 4 (a.x.kids.map bL)]
mutual
def bn:Sm→List D
 | ⟨id,kind,labels,name,proc,x,has,args,bp,bc⟩=> [.int .i64 id, .int .i64 kind, .slice .shared 1 (labels.map encStr), .str name, .str proc,
  .int .i64 x.op, .int .i64 x.n, .str x.name, .slice .shared 4 (x.kids.map bL), .bool has, .slice .shared 6 (args.map dt), .slice .shared 13 (qm bp), .slice .shared 13 (qm bc)]
def qm:List Sm→List (List D)
 | []=> []
 | x::l=>bn x::qm l
end
theorem BH : ∀ l,qm l=l.map bn
 | []=>by simp [qm]
 | x::l=>by simp [qm,BH l]
theorem cB (s:Sm):bn s = [.int .i64 s.id, .int .i64 s.kind, .slice .shared 1 (s.labels.map encStr), .str s.name, .str s.proc,
 .int .i64 s.x.op, .int .i64 s.x.n, .str s.x.name, .slice .shared 4 (s.x.kids.map bL), .bool s.has, .slice .shared 6 (s.args.map dt), .slice .shared 13 (s.bp.map bn), .slice .shared 13 (s.bc.map bn)]:=by
 cases s;simp [bn,BH]
def fI (p:Pm):List D:= [.str p.name, .bool p.ref]
def bR (p:Pc):List D:= [.str p.name, .slice .shared 2 (p.params.map fI), .slice .shared 1 (p.vars.map encStr), .slice .shared 13 (p.body.map bn), .slice .shared 1 (p.fin.map encStr)]
def bD (p:Pg):List D:= [.slice .shared 1 (p.globals.map encStr), .slice .shared 5 (p.procs.map bR)]
theorem R4 (x:nN):(ix x).length=4:=nd rfl
theorem Qt (x:nN):List.take 4 (ix x)=ix x:=nd rfl
theorem Qu (x:nN):List.drop 4 (ix x) = []:=nd rfl
theorem Kk (x:nN):(ix x)[0]? = some (.int .i64 x.kind):=nd rfl
theorem Kl (x:nN):(ix x)[1]? = some (.str x.text):=nd rfl
theorem Km (x:nN):(ix x)[2]? = some (.int .i64 x.n):=nd rfl
theorem Kn (x:nN):(ix x)[3]? = some (.int .i64 x.pos):=nd rfl
theorem UM (zt:Int) (OV:aH) (n_:Int) (R6:Int):ix ⟨zt,OV,n_,R6⟩ = [.int .i64 zt, .str OV, .int .i64 n_, .int .i64 R6]:=by simp only [ix]
theorem OW (x:Ex):(bL x).length=4:=by simp only [gD];rfl
theorem R7 (x:Ex):List.take 4 (bL x)=bL x:=by simp only [gD];rfl
theorem R8 (x:Ex):List.drop 4 (bL x) = []:=by simp only [gD];rfl
theorem MA (x:Ex):(bL x)[0]? = some (.int .i64 x.op):=by simp only [gD];rfl
theorem MB (x:Ex):(bL x)[1]? = some (.int .i64 x.n):=by simp only [gD];rfl
theorem MC (x:Ex):(bL x)[2]? = some (.str x.name):=by simp only [gD];rfl
theorem MD (x:Ex):(bL x)[3]? = some (.slice .shared 4 (x.kids.map bL)):=by simp only [gD];rfl
theorem Ya (Xd:Int) (n_:Int) (mw:aH) (OX:List Ex):bL ⟨Xd,n_,mw,OX⟩ = [.int .i64 Xd, .int .i64 n_, .str mw, .slice .shared 4 (OX.map bL)]:=by simp only [gD]
theorem UN (x:Ar):(dt x).length=6:=nd rfl
theorem R9 (x:Ar):List.take 6 (dt x)=dt x:=nd rfl
theorem Sb (x:Ar):List.drop 6 (dt x) = []:=nd rfl
theorem ME (x:Ar):(dt x)[0]? = some (.bool x.ref):=nd rfl
theorem MF (x:Ar):(dt x)[1]? = some (.str x.name):=nd rfl
theorem MG (x:Ar):(dt x)[2]? = some (.int .i64 x.x.op):=nd rfl
theorem MH (x:Ar):(dt x)[3]? = some (.int .i64 x.x.n):=nd rfl
theorem MI (x:Ar):(dt x)[4]? = some (.str x.x.name):=nd rfl
theorem MJ (x:Ar):(dt x)[5]? = some (.slice .shared 4 (x.x.kids.map bL)):=nd rfl
theorem MK (x:Ar):List.take 4 (List.drop 2 (dt x))=bL x.x:=by simp only [dt,gD];rfl
theorem Yb (DU:Bool) (mw:aH) (x_:Ex):dt ⟨DU,mw,x_⟩ = [.bool DU, .str mw, .int .i64 x_.op, .int .i64 x_.n, .str x_.name, .slice .shared 4 (x_.kids.map bL)]:=by simp only [dt]
theorem CY (x:Sm):(bn x).length=13:=by simp only [cB];rfl
theorem Sc (x:Sm):List.take 13 (bn x)=bn x:=by simp only [cB];rfl
theorem Sd (x:Sm):List.drop 13 (bn x) = []:=by simp only [cB];rfl
theorem MM (x:Sm):(bn x)[0]? = some (.int .i64 x.id):=by simp only [cB];rfl
theorem MN (x:Sm):(bn x)[1]? = some (.int .i64 x.kind):=by simp only [cB];rfl
theorem MO (x:Sm):(bn x)[2]? = some (.slice .shared 1 (x.labels.map encStr)):=by simp only [cB];rfl
theorem MP (x:Sm):(bn x)[3]? = some (.str x.name):=by simp only [cB];rfl
theorem MQ (x:Sm):(bn x)[4]? = some (.str x.proc):=by simp only [cB];rfl
theorem MR (x:Sm):(bn x)[5]? = some (.int .i64 x.x.op):=by simp only [cB];rfl
theorem MS (x:Sm):(bn x)[6]? = some (.int .i64 x.x.n):=by simp only [cB];rfl
theorem MT (x:Sm):(bn x)[7]? = some (.str x.x.name):=by simp only [cB];rfl
theorem MU (x:Sm):(bn x)[8]? = some (.slice .shared 4 (x.x.kids.map bL)):=by simp only [cB];rfl
theorem MV (x:Sm):(bn x)[9]? = some (.bool x.has):=by simp only [cB];rfl
theorem Ko (x:Sm):(bn x)[10]? = some (.slice .shared 6 (x.args.map dt)):=by simp only [cB];rfl
theorem Kp (x:Sm):(bn x)[11]? = some (.slice .shared 13 (x.bp.map bn)):=by simp only [cB];rfl
theorem Kq (x:Sm):(bn x)[12]? = some (.slice .shared 13 (x.bc.map bn)):=by simp only [cB];rfl
theorem MW (x:Sm):List.take 4 (List.drop 5 (bn x))=bL x.x:=by simp only [cB,gD];rfl
theorem Yc (Xe:Int) (zt:Int) (FZ:List aH) (mw:aH) (OY:aH) (x_:Ex) (Se:Bool) (OZ:List Ar) (Sf:List Sm) (Sg:List Sm):bn ⟨Xe,zt,FZ,mw,OY,x_,Se,OZ,Sf,Sg⟩ = [.int .i64 Xe, .int .i64 zt, .slice .shared 1 (FZ.map encStr), .str mw, .str OY, .int .i64 x_.op, .int .i64 x_.n, .str x_.name, .slice .shared 4 (x_.kids.map bL), .bool Se, .slice .shared 6 (OZ.map dt), .slice .shared 13 (Sf.map bn), .slice .shared 13 (Sg.map bn)]:=by simp only [cB]
theorem UO (x:Pm):(fI x).length=2:=nd rfl
theorem Si (x:Pm):List.take 2 (fI x)=fI x:=nd rfl
theorem Sj (x:Pm):List.drop 2 (fI x) = []:=nd rfl
theorem MX (x:Pm):(fI x)[0]? = some (.str x.name):=nd rfl
theorem MY (x:Pm):(fI x)[1]? = some (.bool x.ref):=nd rfl
theorem Yd (mw:aH) (DU:Bool):fI ⟨mw,DU⟩ = [.str mw, .bool DU]:=by simp only [fI]
theorem UP (x:Pc):(bR x).length=5:=nd rfl
theorem Sk (x:Pc):List.take 5 (bR x)=bR x:=nd rfl
theorem Sl (x:Pc):List.drop 5 (bR x) = []:=nd rfl
theorem MZ (x:Pc):(bR x)[0]? = some (.str x.name):=nd rfl
theorem M3 (x:Pc):(bR x)[1]? = some (.slice .shared 2 (x.params.map fI)):=nd rfl
theorem M4 (x:Pc):(bR x)[2]? = some (.slice .shared 1 (x.vars.map encStr)):=nd rfl
theorem M5 (x:Pc):(bR x)[3]? = some (.slice .shared 13 (x.body.map bn)):=nd rfl
theorem M6 (x:Pc):(bR x)[4]? = some (.slice .shared 1 (x.fin.map encStr)):=nd rfl
theorem Ye (mw:aH) (F0:List Pm) (O0:List aH) (O1:List Sm) (Sn:List aH):bR ⟨mw,F0,O0,O1,Sn⟩ = [.str mw, .slice .shared 2 (F0.map fI), .slice .shared 1 (O0.map encStr), .slice .shared 13 (O1.map bn), .slice .shared 1 (Sn.map encStr)]:=by simp only [bR]
theorem UQ (x:Pg):(bD x).length=2:=nd rfl
theorem Sp (x:Pg):List.take 2 (bD x)=bD x:=nd rfl
theorem Sq (x:Pg):List.drop 2 (bD x) = []:=nd rfl
theorem M7 (x:Pg):(bD x)[0]? = some (.slice .shared 1 (x.globals.map encStr)):=nd rfl
theorem M8 (x:Pg):(bD x)[1]? = some (.slice .shared 5 (x.procs.map bR)):=nd rfl
theorem Yf (DV:List aH) (Kr:List Pc):bD ⟨DV,Kr⟩ = [.slice .shared 1 (DV.map encStr), .slice .shared 5 (Kr.map bR)]:=by simp only [bD]
attribute [go_sem] R4 Qt Qu Kk Kl Km Kn UM OW R7 R8 MA MB MC MD Ya UN R9 Sb ME MF MG MH MI MJ MK Yb CY Sc Sd MM MN MO MP MQ MR MS MT MU MV Ko Kp Kq MW Yc UO Si Sj MX MY Yd UP Sk Sl MZ M3 M4 M5 M6 Ye UQ Sp Sq M7 M8 Yf
theorem zu (s:aH):D.bM 0 0 (encStr s)=true:=rfl
theorem O2 (t:nN):D.bM 0 0 (ix t)=true:=rfl
mutual
theorem iN : ∀ x,D.bM 0 0 (bL x)=true
 | ⟨op,n,name,kids⟩=>by simp [bL,D.bM,D.ok,Tag.ok,O3 kids]
theorem O3 : ∀ l,D.jb 0 0 (rG l)=true
 | []=>rfl
 | x::l=>by simp [rG,D.jb,iN x,O3 l]
end
theorem DW (a:Ar):D.bM 0 0 (dt a)=true:=by simp [dt,D.bM,D.ok,Tag.ok,fZ iN]
mutual
theorem kV : ∀ x,D.bM 0 0 (bn x)=true
 | ⟨id,kind,labels,name,proc,x,has,args,bp,bc⟩=>by simp [bn,D.bM,D.ok,Tag.ok,Ih bp,Ih bc,fZ zu,fZ iN,fZ DW]
theorem Ih : ∀ l,D.jb 0 0 (qm l)=true
 | []=>rfl
 | x::l=>by simp [qm,D.jb,kV x,Ih l]
end
theorem Ii (p:Pm):D.bM 0 0 (fI p)=true:=rfl
theorem rH (p:Pc):D.bM 0 0 (bR p)=true:=by simp [bR,D.bM,D.ok,Tag.ok,fZ Ii,fZ zu,fZ kV]
theorem fT (p:Pg):D.bM 0 0 (bD p)=true:=by simp [bD,D.bM,D.ok,Tag.ok,fZ zu,fZ rH]
theorem Sr (n m:Nat) (x:nN):D.gd n m (ix x)=ix x:=gp n m _ (O2 x)
theorem UR (n m:Nat) (x:Ex):D.gd n m (bL x)=bL x:=gp n m _ (iN x)
theorem US (n m:Nat) (x:Ar):D.gd n m (dt x)=dt x:=gp n m _ (DW x)
theorem UT (n m:Nat) (x:Sm):D.gd n m (bn x)=bn x:=gp n m _ (kV x)
theorem UU (n m:Nat) (x:Pm):D.gd n m (fI x)=fI x:=gp n m _ (Ii x)
theorem UW (n m:Nat) (x:Pc):D.gd n m (bR x)=bR x:=gp n m _ (rH x)
theorem UX (n m:Nat) (x:Pg):D.gd n m (bD x)=bD x:=gp n m _ (fT x)
attribute [go_sem] Sr UR US UT UU UW UX
theorem dL (l:List aH):D.jb 0 0 (l.map encStr)=true:=fZ zu l
theorem O4 (l:List Ex):D.jb 0 0 (l.map bL)=true:=fZ iN l
theorem CZ (l:List Ar):D.jb 0 0 (l.map dt)=true:=fZ DW l
theorem q8 (l:List Sm):D.jb 0 0 (l.map bn)=true:=fZ kV l
theorem UY (l:List Pm):D.jb 0 0 (l.map fI)=true:=fZ Ii l
theorem C0 (l:List Pc):D.jb 0 0 (l.map bR)=true:=fZ rH l
theorem Ks (n m:Nat) (l:List aH):D.ja n m (l.map encStr)=l.map encStr:=kU zu n m l
theorem Ss (n m:Nat) (l:List nN):D.ja n m (l.map ix)=l.map ix:=kU O2 n m l
theorem UZ (n m:Nat) (l:List Ex):D.ja n m (l.map bL)=l.map bL:=kU iN n m l
theorem U0 (n m:Nat) (l:List Ar):D.ja n m (l.map dt)=l.map dt:=kU DW n m l
theorem U1 (n m:Nat) (l:List Sm):D.ja n m (l.map bn)=l.map bn:=kU kV n m l
theorem U2 (n m:Nat) (l:List Pm):D.ja n m (l.map fI)=l.map fI:=kU Ii n m l
theorem O5 (n m:Nat) (l:List Pc):D.ja n m (l.map bR)=l.map bR:=kU rH n m l
theorem Sv (x:Ex) (r:List D):bL x++r = .int .i64 x.op:: .int .i64 x.n:: .str x.name:: .slice .shared 4 (x.kids.map bL)::r:=by rw [gD];rfl
theorem Qv (d:D) (x:Ex):d::bL x = [d, .int .i64 x.op, .int .i64 x.n, .str x.name, .slice .shared 4 (x.kids.map bL)]:=by rw [gD]
attribute [go_sem] Sv Qv
theorem U3:((0:Nat):Int)=0:=nd rfl
theorem U4:((1:Nat):Int)=1:=nd rfl
theorem U5:((2:Nat):Int)=2:=nd rfl
attribute [go_sem] U3 U4 U5 FX List.length_append List.map_append encStr oI ar0 FY Kj Ks Ss UZ U0 U1 U2 O5
theorem mx (a b:Nat):(if(b:Int) > (a:Int)then(b:Int)else(a:Int))=((max a b:Nat):Int):=by split <;> omega
theorem dE {x:Int} (h1 : -9223372036854775808≤x) (h2:x<9223372036854775808):IntKind.wrap .i64 x=x:=by
 rw [IntKind.wrap_i64];omega
@[go_sem] theorem au {n:Nat} (h:n<4611686018427387904):IntKind.wrap .i64 ((n:Int)+1)=((n+1:Nat):Int):=by
 rw [dE] <;> omega
def inc (n:Nat):Option Nat:=if n<4611686018427387904 then some (n+1)else none
def Yg (n:Int):Option Int:=if -4611686018427387904<n∧n<4611686018427387904 then some (n+1)else none
@[go_sem] theorem Xf {n:Nat} (h:n+1<4611686018427387904):IntKind.wrap .i64 ((n:Int)+1)=((n+1:Nat):Int):=by
 rw [dE] <;> omega
@[go_sem] theorem Xg {n:Nat} (h:n<4611686018427387904):IntKind.wrap .i64 ((n:Int)+2)=((n+2:Nat):Int):=by
 rw [dE] <;> omega
def Sw {α:Type} (l:List α) (i:Nat):Option α:=if i<4611686018427387904 then l[i]? else none
def push {α:Type} (k:Nat) (l:List α) (x:α):Option (List α):=if(l.length+1)*k≤bk then some (l++ [x])else none
end Go.Abs

/-! Mir -/

namespace Go.Abs
mutual
def Ex.size:Ex→Nat
 | ⟨_,_,_,kids⟩=>1+Ex.aU kids
def Ex.aU:List Ex→Nat
 | []=>0
 | x::l=>1+x.size+Ex.aU l
end
mutual
def Ex.depth:Ex→Nat
 | ⟨_,_,_,kids⟩=>Ex.jd kids+1
def Ex.jd:List Ex→Nat
 | []=>0
 | x::l=>max x.depth (Ex.jd l)
end
def Sx (x:Ex):Option Int:=if x.size<4611686018427387904 then some (x.depth:Int)else none
theorem Ex.bS {x:Ex} : ∀ {l:List Ex},x∈l→x.size<Ex.aU l
 | y::l,h=>by
  simp only [Ex.aU]
  rcases List.mem_cons.1 h with rfl | h
  ·omega
  ·have:=Ex.bS h;omega
theorem Ex.c7 : ∀ (l:List Ex),l.length≤Ex.aU l
 | []=>Nat.le_refl _
 | x::l=>by simp only [Ex.aU,List.length_cons];have:=Ex.c7 l;omega
def Ij (t:nN):Int×Int:=
 if t.kind != 4 then(0,0)
 else if t.text == [124,124]then(17,1)
 else if t.text == [38,38]then(16,2)
 else if t.text == [61,61]then(14,3)
 else if t.text == [33,61]then(15,3)
 else if t.text == [60]then(10,4)
 else if t.text == [60,61]then(11,4)
 else if t.text == [62]then(12,4)
 else if t.text == [62,61]then(13,4)
 else if t.text == [43]then(8,5)
 else if t.text == [45]then(9,5)
 else if t.text == [42]then(5,6)
 else if t.text == [47]then(6,6)
 else if t.text == [37]then(7,6)
 else(0,0)
structure Rd where
 l:List nN
 i:Nat
 code:Int
 DX:Int
 n:Nat
abbrev Rd.good (r:Rd):Bool:=r.code==0
def Rd.rI (r:Rd):Option nN:=(Sw r.l r.i).bind fun t=>if decide (0≤t.kind) && decide (t.kind≤4)then some t else none
def Rd.bad (c:Int) (r:Rd):Option Rd:=if r.good then r.rI.bind fun t=>some {r with code:=c,DX:=t.pos}else some r
def Rd.is (text:aH) (r:Rd):Option Bool:=r.rI.bind fun t=>some ((t.kind==3 || t.kind==4) && t.text==text)
def Rd.take (text:aH) (r:Rd):Option (Bool×Rd):=
 if !r.good then some (false,r)else(r.is text).bind fun b=>if !b then some (false,r)else some (true,{r with i:=r.i+1})
def Rd.want (text:aH) (r:Rd):Option Rd:=(r.take text).bind fun p=>if !p.1 then p.2.bad 3 else some p.2
def Rd.name (room:Bool) (r:Rd):Option (aH×Rd):=
 r.rI.bind fun t=>if !r.good || t.kind != 1 then(r.bad 3).bind fun r=>some ([],r)else if !room then(r.bad 4).bind fun r=>some ([],r)else some (t.text,{r with i:=r.i+1})
def Rd.on (r:Rd):Rd:= {r with i:=r.i+1}
mutual
def Rd.one:Nat→Rd→Option (Ex×Rd)
 | 0,_=>none
 | n+1,r=>r.rI.bind fun t=>
  if !r.good then some (oI,r)
  else if t.kind==2 then some (⟨1,t.n,[],[]⟩,{r with i:=r.i+1})
  else if t.kind==1 then some (⟨2,0,t.text,[]⟩,{r with i:=r.i+1})
  else(r.take [40]).bind fun p=>
   if p.1 then(Rd.two n 1 p.2).bind fun x=>(x.2.want [41]).bind fun r=>some (x.1,r)
   else(p.2.take [45]).bind fun p=>
    if p.1 then(Rd.one n p.2).bind fun x=>some (⟨3,0,[],[x.1]⟩,x.2)
    else(p.2.take [33]).bind fun p=>
     if p.1 then(Rd.one n p.2).bind fun x=>some (⟨4,0,[],[x.1]⟩,x.2)
     else(p.2.bad 3).bind fun r=>some (oI,r)
def Rd.two:Nat→Int→Rd→Option (Ex×Rd)
 | 0,_,_=>none
 | n+1,least,r=>(Rd.one n r).bind fun x=>Rd.Sy n least x.1 x.2
def Rd.Sy:Nat→Int→Ex→Rd→Option (Ex×Rd)
 | 0,_,_,_=>none
 | n+1,least,x,r=>
  if r.good then r.rI.bind fun t=>
   if decide ((Ij t).2<least) || (Ij t).1==0 then some (x,r)
   else(Rd.two n ((Ij t).2+1) {r with i:=r.i+1}).bind fun y=>Rd.Sy n least ⟨(Ij t).1,0,[],[x,y.1]⟩ y.2
  else some (x,r)
end
def Rd.whole (n:Nat) (r:Rd):Option (Ex×Rd):=
 r.rI.bind fun t=>(Rd.two n 1 r).bind fun x=>
  if x.2.good then(Sx x.1).bind fun d=>if decide (d > 20)then some (x.1,{x.2 with code:=4,DX:=t.pos})else some (x.1,x.2)
  else some (x.1,x.2)
def Rd.names:Nat→List aH→Int→Rd→Option (List aH×Rd)
 | 0,_,_,_=>none
 | n+1,l,gS,r=>
  if r.good then(r.name (decide ((l.length:Int)<gS))).bind fun p=>(push 17 l p.1).bind fun l=>(p.2.take [44]).bind fun q=>
   if !q.1 then(q.2.want [59]).bind fun r=>some (l,r)else Rd.names n l gS q.2
  else some (l,r)
def Rd.ahead (sign:aH) (r:Rd):Option Bool:=
 if r.good then r.rI.bind fun t=>if t.kind==1 then(Sw r.l (r.i+1)).bind fun u=>some (u.kind==4 && u.text==sign)else some false
 else some false
def Rd.labels:Nat→List aH→Rd→Option (List aH×Rd)
 | 0,_,_=>none
 | n+1,l,r=>(r.ahead [58]).bind fun b=>if b then r.rI.bind fun t=>(push 17 l t.text).bind fun l=>Rd.labels n l {r with i:=r.i+2}else some (l,r)
def Rd.Sz (r:Rd):Option Bool:=
 r.rI.bind fun t=>some (if t.kind==1 then true else if t.kind != 3 then false
  else t.text == [105,102] || t.text == [119,104,105,108,101] || t.text == [98,114,101,97,107] || t.text == [99,111,110,116,105,110,117,101] || t.text == [114,101,116,117,114,110] || t.text == [103,111,116,111] || t.text == [114,101,97,100] || t.text == [112,114,105,110,116])
def Rd.Ik (m:Nat):Nat→List Ar→Rd→Option (List Ar×Rd)
 | 0,_,_=>none
 | n+1,l,r=>
  if r.good then(r.take [114,101,102]).bind fun p=>
   if p.1 then(p.2.name true).bind fun x=>(push 81 l ⟨true,x.1,oI⟩).bind fun l=>(x.2.take [44]).bind fun c=>if !c.1 then some (l,c.2)else Rd.Ik m n l c.2
   else(Rd.whole m p.2).bind fun x=>(push 81 l ⟨false,[],x.1⟩).bind fun l=>(x.2.take [44]).bind fun c=>if !c.1 then some (l,c.2)else Rd.Ik m n l c.2
  else some (l,r)
def Rd.other (sign:aH) (r:Rd):Option Bool:=if r.good then(r.is sign).bind fun b=>some !b else some false
def Rd.call (m:Nat) (name proc:aH) (r:Rd):Option (Sm×Rd):=
 (r.want [40]).bind fun r=>(r.other [41]).bind fun b=>
  if b then(Rd.Ik m m [] r).bind fun q=>(q.2.want [41]).bind fun r=>(r.want [59]).bind fun r=>some (⟨0,4,[],name,proc,oI,false,q.1,[],[]⟩,r)
  else(r.want [41]).bind fun r=>(r.want [59]).bind fun r=>some (⟨0,4,[],name,proc,oI,false,[],[],[]⟩,r)
def Rd.named (m:Nat) (r:Rd):Option (Sm×Rd):=
 (r.name true).bind fun x=>(x.2.is [40]).bind fun b=>
  if b then Rd.call m [] x.1 x.2
  else(x.2.want [61]).bind fun r=>(r.ahead [40]).bind fun b=>
   if b then(r.name true).bind fun y=>Rd.call m x.1 y.1 y.2
   else(Rd.whole m r).bind fun y=>(y.2.want [59]).bind fun r=>some (⟨0,1,[],x.1,[],y.1,false,[],[],[]⟩,r)
def Rd.plain (m:Nat) (word:aH) (r:Rd):Option (Sm×Rd):=
 if word == [98,114,101,97,107]then some (⟨0,7,[],[],[],oI,false,[],[],[]⟩,r)
 else if word == [99,111,110,116,105,110,117,101]then some (⟨0,8,[],[],[],oI,false,[],[],[]⟩,r)
 else if word == [114,101,116,117,114,110]then(r.is [59]).bind fun b=>
  if !b then(Rd.whole m r).bind fun x=>some (⟨0,9,[],[],[],x.1,true,[],[],[]⟩,x.2)else some (⟨0,9,[],[],[],oI,false,[],[],[]⟩,r)
 else if word == [103,111,116,111]then(r.name true).bind fun x=>some (⟨0,10,[],x.1,[],oI,false,[],[],[]⟩,x.2)
 else if word == [114,101,97,100]then(r.name true).bind fun x=>some (⟨0,2,[],x.1,[],oI,false,[],[],[]⟩,x.2)
 else if word == [112,114,105,110,116]then(Rd.whole m r).bind fun x=>some (⟨0,3,[],[],[],x.1,false,[],[],[]⟩,x.2)
 else some (FY,r)
def Rd.head (m:Nat) (r:Rd):Option (Ex×Rd):=(r.want [40]).bind fun r=>(Rd.whole m r).bind fun x=>(x.2.want [41]).bind fun r=>some (x.1,r)
mutual
def Rd.rows (m:Nat):Nat→Int→Bool→Rd→Option ((List Sm×List aH)×Rd)
 | 0,_,_,_=>none
 | n+1,nest,body,r=>Rd.O6 m n nest body [] r
def Rd.O6 (m:Nat):Nat→Int→Bool→List Sm→Rd→Option ((List Sm×List aH)×Rd)
 | 0,_,_,_,_=>none
 | n+1,nest,body,out,r=>
  if r.good then(Rd.labels m [] r).bind fun l=>(l.2.is [125]).bind fun b=>
   if b && (body || (l.1.length:Int)==0)then some ((out,l.1),{l.2 with i:=l.2.i+1})
   else(Rd.stmt m n nest l.2).bind fun s=>(push 209 out {s.1 with labels:=l.1}).bind fun out=>Rd.O6 m n nest body out s.2
  else some (([],[]),r)
def Rd.stmt (m:Nat):Nat→Int→Rd→Option (Sm×Rd)
 | 0,_,_=>none
 | n+1,nest,r=>r.Sz.bind fun b=>
  if !b then(r.bad 3).bind fun r=>some (FY,r)
  else(inc r.n).bind fun k=>
   if decide ((k:Int) > 200) || decide (nest > 12)then(({r with n:=k} : Rd).bad 4).bind fun r=>some (FY,r)
   else({r with n:=k} : Rd).rI.bind fun t=>
    if t.kind==1 then Rd.named m {r with n:=k}
    else if t.text == [105,102]then Rd.choice m n nest {r with n:=k,i:=r.i+1}
    else if t.text == [119,104,105,108,101]then(Rd.head m {r with n:=k,i:=r.i+1}).bind fun x=>(Rd.block m n nest x.2).bind fun b=>some (⟨0,6,[],[],[],x.1,false,[],b.1,[]⟩,b.2)
    else(Rd.plain m t.text {r with n:=k,i:=r.i+1}).bind fun s=>(s.2.want [59]).bind fun r=>some (s.1,r)
def Rd.block (m:Nat):Nat→Int→Rd→Option (List Sm×Rd)
 | 0,_,_=>none
 | n+1,nest,r=>(r.want [123]).bind fun r=>(Yg nest).bind fun k=>(Rd.rows m n k false r).bind fun p=>some (p.1.1,p.2)
def Rd.choice (m:Nat):Nat→Int→Rd→Option (Sm×Rd)
 | 0,_,_=>none
 | n+1,nest,r=>(Rd.head m r).bind fun x=>(Rd.block m n nest x.2).bind fun t=>(t.2.take [101,108,115,101]).bind fun q=>
  if q.1 then(Rd.block m n nest q.2).bind fun e=>some (⟨0,5,[],[],[],x.1,false,[],t.1,e.1⟩,e.2)
  else some (⟨0,5,[],[],[],x.1,false,[],t.1,[]⟩,q.2)
end
def Rd.params:Nat→List Pm→Rd→Option (List Pm×Rd)
 | 0,_,_=>none
 | n+1,l,r=>
  if r.good then(r.take [114,101,102]).bind fun q=>(q.2.name (decide ((l.length:Int)<8))).bind fun x=>(push 25 l ⟨x.1,q.1⟩).bind fun l=>(x.2.take [44]).bind fun c=>
   if !c.1 then some (l,c.2)else Rd.params n l c.2
  else some (l,r)
def Rd.vars (m:Nat):Nat→List aH→Rd→Option (List aH×Rd)
 | 0,_,_=>none
 | n+1,l,r=>(r.take [118,97,114]).bind fun q=>if q.1 then(Rd.names m l 16 q.2).bind fun x=>Rd.vars m n x.1 x.2 else some (l,q.2)
def Rd.O7 (m:Nat) (name:aH) (ps:List Pm) (r:Rd):Option (Pc×Rd):=
 (Rd.vars m m [] r).bind fun v=>(Rd.rows m m 1 true v.2).bind fun b=>some (⟨name,ps,v.1,b.1.1,b.1.2⟩,b.2)
def Rd.proc (m:Nat) (r:Rd):Option (Pc×Rd):=
 (r.name true).bind fun x=>(x.2.want [40]).bind fun r=>(r.other [41]).bind fun b=>
  if b then(Rd.params m [] r).bind fun q=>(q.2.want [41]).bind fun r=>(r.want [123]).bind fun r=>Rd.O7 m x.1 q.1 r
  else(r.want [41]).bind fun r=>(r.want [123]).bind fun r=>Rd.O7 m x.1 [] r
def Rd.globals (m:Nat):Nat→List aH→Rd→Option (List aH×Rd)
 | 0,_,_=>none
 | n+1,l,r=>(r.take [103,108,111,98,97,108]).bind fun q=>if q.1 then(Rd.names m l 16 q.2).bind fun x=>Rd.globals m n x.1 x.2 else some (l,q.2)
def Rd.SA (r:Rd):Option Bool:=if r.good then r.is [112,114,111,99]else some false
def Rd.Kt (r:Rd):Option Bool:=if r.good then r.rI.bind fun t=>some (t.kind != 0)else some false
def Rd.procs (m:Nat):Nat→List Pc→Rd→Option (List Pc×Rd)
 | 0,_,_=>none
 | n+1,l,r=>r.SA.bind fun b=>
  if b then
   if(l.length:Int)==16 then(r.bad 4).bind fun r=>some (l,r)
   else(Rd.proc m {r with i:=r.i+1}).bind fun x=>(push 113 l x.1).bind fun l=>Rd.procs m n l x.2
  else r.Kt.bind fun b=>if b then(r.bad 3).bind fun r=>some (l,r)else some (l,r)
def Rd.program (m:Nat) (r:Rd):Option (Pg×Rd):=(Rd.globals m m [] r).bind fun g=>(Rd.procs m m [] g.2).bind fun q=>some (⟨g.1,q.1⟩,q.2)
mutual
def Ex.beq:Ex→Ex→Bool
 | ⟨op,n,name,kids⟩,⟨op',n',Il,O8⟩=>if op != op' || n != n' || !(name==Il) || (kids.length:Int) != (O8.length:Int)then false else Ex.nF kids O8
def Ex.nF:List Ex→List Ex→Bool
 | [],_=>true
 | _::_,[]=>true
 | x::l,y::l'=>if !Ex.beq x y then false else Ex.nF l l'
end
end Go.Abs

/-! MirTree -/

namespace Go.Abs
def Ar.aU:List Ar→Nat
 | []=>0
 | a::l=>1+a.x.size+Ar.aU l
mutual
def Sm.size:Sm→Nat
 | ⟨_,_,labels,_,_,x,_,args,bp,bc⟩=>1+labels.length+x.size+Ar.aU args+Sm.aU bp+Sm.aU bc
def Sm.aU:List Sm→Nat
 | []=>0
 | s::l=>1+s.size+Sm.aU l
end
def Pc.size (f:Pc):Nat:=1+f.params.length+f.vars.length+f.fin.length+Sm.aU f.body
def Pc.aU:List Pc→Nat
 | []=>0
 | f::l=>1+f.size+Pc.aU l
def Pg.size (p:Pg):Nat:=1+p.globals.length+Pc.aU p.procs
mutual
def Sm.num (b:Bool) (n:Nat):Sm→Sm×Nat
 | ⟨id,kind,labels,name,proc,x,has,args,bp,bc⟩=>
  (⟨if b then((n+1:Nat):Int)else id,kind,labels,name,proc,x,has,args,(Sm.oJ b (n+1) bp).1,(Sm.oJ b (Sm.oJ b (n+1) bp).2 bc).1⟩,(Sm.oJ b (Sm.oJ b (n+1) bp).2 bc).2)
def Sm.oJ (b:Bool) (n:Nat):List Sm→List Sm×Nat
 | []=>([],n)
 | s::l=>((Sm.num b n s).1::(Sm.oJ b (Sm.num b n s).2 l).1,(Sm.oJ b (Sm.num b n s).2 l).2)
end
def Pc.oJ (n:Nat):List Pc→List Pc
 | []=> []
 | f::l=> {f with body:=(Sm.oJ true n f.body).1}::Pc.oJ (Sm.oJ true n f.body).2 l
def Pg.number (p:Pg):Pg:= {p with procs:=Pc.oJ 0 p.procs}
def Pg.Qw (p:Pg):Option Pg:=if p.size<1073741824 then some p.number else none
theorem Sm.c7 : ∀ (l:List Sm),l.length≤Sm.aU l
 | []=>Nat.le_refl _
 | x::l=>by simp only [Sm.aU,List.length_cons];have:=Sm.c7 l;omega
theorem Ar.c7 : ∀ (l:List Ar),l.length≤Ar.aU l
 | []=>Nat.le_refl _
 | x::l=>by simp only [Ar.aU,List.length_cons];have:=Ar.c7 l;omega
theorem Pc.c7 : ∀ (l:List Pc),l.length≤Pc.aU l
 | []=>Nat.le_refl _
 | x::l=>by simp only [Pc.aU,List.length_cons];have:=Pc.c7 l;omega
theorem Ar.bS {x:Ar} : ∀ {l:List Ar},x∈l→x.x.size<Ar.aU l
 | y::l,h=>by
  simp only [Ar.aU]
  rcases List.mem_cons.1 h with rfl | h
  ·omega
  ·have:=Ar.bS h;omega
theorem Sm.bS {x:Sm} : ∀ {l:List Sm},x∈l→x.size<Sm.aU l
 | y::l,h=>by
  simp only [Sm.aU]
  rcases List.mem_cons.1 h with rfl | h
  ·omega
  ·have:=Sm.bS h;omega
theorem Pc.bS {x:Pc} : ∀ {l:List Pc},x∈l→x.size<Pc.aU l
 | y::l,h=>by
  simp only [Pc.aU]
  rcases List.mem_cons.1 h with rfl | h
  ·omega
  ·have:=Pc.bS h;omega
end Go.Abs

/-! MirFlat -/

namespace Go.Abs
structure Im where
 s:Sm
 proc:Int
 up:Int
 next:Int
 loop:Int
mutual
def Sm.iF:Sm→Nat
 | ⟨_,_,_,_,_,_,_,_,bp,bc⟩=>1+Sm.ig bp+Sm.ig bc
def Sm.ig:List Sm→Nat
 | []=>0
 | s::l=>s.iF+Sm.ig l
end
mutual
def Im.one (proc up next loop:Int) (out:List Im):Sm→List Im
 | ⟨id,kind,labels,name,pc,x,has,args,bp,bc⟩=>
  Im.rows proc ((out.length:Int)+1) (if kind==6 then(out.length:Int)+1 else next) (if kind==6 then(out.length:Int)+1 else loop)
   (Im.rows proc ((out.length:Int)+1) (if kind==6 then(out.length:Int)+1 else next) (if kind==6 then(out.length:Int)+1 else loop) (out++ [⟨⟨id,kind,labels,name,pc,x,has,args,bp,bc⟩,proc,up,next,loop⟩]) bp) bc
def Im.rows (proc up next loop:Int) (out:List Im):List Sm→List Im
 | []=>out
 | s::l=>Im.rows proc up next loop (Im.one proc up (if l.length=0 then next else(out.length:Int)+1+(s.iF:Int)) loop out s) l
end
theorem Im.SB (proc up next loop:Int) (out:List Im) (s:Sm):Im.one proc up next loop out s =
 Im.rows proc ((out.length:Int)+1) (if s.kind==6 then(out.length:Int)+1 else next) (if s.kind==6 then(out.length:Int)+1 else loop)
  (Im.rows proc ((out.length:Int)+1) (if s.kind==6 then(out.length:Int)+1 else next) (if s.kind==6 then(out.length:Int)+1 else loop) (out++ [⟨s,proc,up,next,loop⟩]) s.bp) s.bc:=by
 cases s;simp only [Im.one]
mutual
theorem Qx (proc up next loop:Int) (out:List Im) : ∀ s:Sm,(Im.one proc up next loop out s).length=out.length+s.iF
 | ⟨id,kind,labels,name,pc,x,has,args,bp,bc⟩=>by
  simp only [Im.one,Sm.iF]
  rw [fC,fC]
  simp only [List.length_append,List.length_cons,List.length_nil];omega
theorem fC (proc up next loop:Int) (out:List Im) : ∀ l:List Sm,(Im.rows proc up next loop out l).length=out.length+Sm.ig l
 | []=>rfl
 | s::l=>by
  simp only [Im.rows,Sm.ig]
  rw [fC,Qx];omega
end
mutual
theorem yq : ∀ s:Sm,s.iF≤s.size
 | ⟨_,_,labels,_,_,x,_,args,bp,bc⟩=>by
  have:=mT bp;have:=mT bc
  simp only [Sm.iF,Sm.size];omega
theorem mT : ∀ l:List Sm,Sm.ig l≤Sm.aU l
 | []=>Nat.le_refl _
 | s::l=>by
  have:=yq s;have:=mT l
  simp only [Sm.ig,Sm.aU];omega
end
structure Sh where
 L:List Im
 lo:List Int
 hi:List Int
def Sh.go (i:Nat) (h:Sh):List Pc→Sh
 | []=>h
 | f::l=>Sh.go (i+1) ⟨Im.rows i 0 (-1) 0 h.L f.body,h.lo++ [(h.L.length:Int)+1],h.hi++ [((Im.rows i 0 (-1) 0 h.L f.body).length:Int)+1]⟩ l
def Pg.eO (p:Pg):Sh:=Sh.go 0 ⟨[],[],[]⟩ p.procs
end Go.Abs

/-! Nums -/

namespace Go.Abs
def O9:Nat:=3
def Ly:Nat:=4
def rJ:Nat:=5
def Pa:Nat:=6
def tn:Nat:=7
def Q7:Nat:=8
def Qy:Nat:=9
def Q8:Nat:=10
def SC:Nat:=11
def Uh:Nat:=12
def Q9:Nat:=13
def my:Nat:=14
def Qz:Nat:=15
def lU:Nat:=16
def SD:Nat:=17
def kn:Nat:=18
def p6:Nat:=19
def jo:Nat:=20
def Ra:Nat:=21
def qA:Nat:=22
def nW:Nat:=23
def rK:Nat:=24
def q9:Nat:=25
def tp:Nat:=26
def uU:Nat:=27
def tq:Nat:=28
def mU:Nat:=29
def rL:Nat:=30
def tr:Nat:=31
def gX:Nat:=32
def fi:Nat:=33
def je:Nat:=34
def uV:Nat:=35
def qB:Nat:=36
def qC:Nat:=37
def lA:Nat:=38
def Ui:Nat:=39
def rM:Nat:=40
def rN:Nat:=41
def tt:Nat:=42
def qD:Nat:=43
def ka:Nat:=44
def kJ:Nat:=45
def oK:Nat:=46
def ct:Nat:=47
def gT:Nat:=48
def im:Nat:=49
def pI:Nat:=50
def gI:Nat:=51
def lV:Nat:=52
def tu:Nat:=53
def fa:Nat:=54
def mz:Nat:=55
def nX:Nat:=56
def Rb:Nat:=57
def ko:Nat:=58
def oL:Nat:=59
def nY:Nat:=60
def nr:Nat:=61
def oM:Nat:=62
def fU:Nat:=63
def oN:Nat:=64
def kW:Nat:=65
def lB:Nat:=66
def iO:Nat:=67
def nu:Nat:=68
def tv:Nat:=69
def rO:Nat:=70
def oO:Nat:=71
def oP:Nat:=72
def jq:Nat:=73
def ra:Nat:=74
def iC:Nat:=75
def fJ:Nat:=76
def mA:Nat:=77
def iD:Nat:=78
def uW:Nat:=79
def jE:Nat:=80
def kX:Nat:=81
def qE:Nat:=82
def tw:Nat:=83
def lW:Nat:=84
def fe:Nat:=85
def jJ:Nat:=86
def oQ:Nat:=87
def zv:Nat:=88
def Pb:Nat:=89
def ji:Nat:=90
def rP:Nat:=91
def F1:Nat:=92
def DY:Nat:=93
def Cv:Nat:=94
def kY:Nat:=95
def iH:Nat:=96
def oR:Nat:=97
def rQ:Nat:=98
def oS:Nat:=99
def wH:Nat:=100
def uX:Nat:=101
def qF:Nat:=102
def mB:Nat:=103
def kp:Nat:=104
def kZ:Nat:=105
def gP:Nat:=106
def uY:Nat:=107
def nw:Nat:=108
def gx:Nat:=109
def wI:Nat:=110
def yQ:Nat:=111
def wJ:Nat:=112
def xK:Nat:=113
def xA:Nat:=114
def tO:Nat:=115
def Lz:Nat:=116
def vW:Nat:=117
def yr:Nat:=118
def LA:Nat:=119
def LB:Nat:=120
def Uj:Nat:=121
def nO:Nat:=122
def nP:Nat:=123
def lX:Nat:=124
def rR:Nat:=125
def tx:Nat:=126
def mV:Nat:=127
def oT:Nat:=128
def qG:Nat:=129
def oU:Nat:=130
def rS:Nat:=131
def tz:Nat:=132
def p7:Nat:=133
def uZ:Nat:=134
def nQ:Nat:=135
def yR:Nat:=136
def E2:Nat:=137
def Fz:Nat:=138
def vX:Nat:=139
def Ah:Nat:=140
def Kv:Nat:=141
def rT:Nat:=142
def tA:Nat:=143
def rU:Nat:=144
def tB:Nat:=145
def Ai:Nat:=146
end Go.Abs

/-! Codes0 -/

namespace Go.Abs
abbrev AI.o (t:Nat) (a:AO):AI:= .op (some t) none a
abbrev AI.g (t c:Nat) (b:Bool) (a:AO):AI:= .op (some t) (some (c,b)) a
abbrev AI.c (t f:Nat) (l:List X):AI:= .call (some t) none f l
abbrev AI.d (t c:Nat) (b:Bool) (f:Nat) (l:List X):AI:= .call (some t) (some (c,b)) f l
abbrev AI.m (t:Nat) (x:X):AI:= .op (some t) none (.mv x)
abbrev bE:X:= .s 0
abbrev bg:X:= .s 1
abbrev cH:X:= .s 2
abbrev cu:X:= .s 3
abbrev db:X:= .s 4
abbrev bH:X:= .s 5
abbrev cD:X:= .s 6
abbrev bN:X:= .s 7
abbrev b9:X:= .s 8
abbrev cO:X:= .s 9
abbrev cd:X:= .s 10
abbrev bT:X:= .s 11
abbrev cb:X:= .s 12
abbrev cz:X:= .s 13
abbrev cm:X:= .s 14
abbrev cZ:X:= .s 15
abbrev cw:X:= .s 16
abbrev c6:X:= .s 17
abbrev da:X:= .s 18
abbrev dd:X:= .s 19
abbrev dr:X:= .s 20
abbrev dh:X:= .s 21
abbrev dF:X:= .s 22
abbrev dG:X:= .s 23
abbrev dU:X:= .s 24
abbrev dV:X:= .s 25
abbrev eo:X:= .s 26
abbrev ef:X:= .s 27
abbrev eI:X:= .s 28
abbrev eZ:X:= .s 29
abbrev fp:X:= .s 30
abbrev eU:X:= .s 31
abbrev fq:X:= .s 32
abbrev fj:X:= .s 33
abbrev fD:X:= .s 34
abbrev fE:X:= .s 35
abbrev gq:X:= .s 36
abbrev gE:X:= .s 37
abbrev iP:X:= .s 38
abbrev ij:X:= .s 39
abbrev jS:X:= .s 40
abbrev jF:X:= .s 41
abbrev kq:X:= .s 42
abbrev kr:X:= .s 43
abbrev ku:X:= .s 44
abbrev lC:X:= .s 45
abbrev lD:X:= .s 46
abbrev lE:X:= .s 47
abbrev lF:X:= .s 48
abbrev jT:X:= .s 49
abbrev lG:X:= .s 50
abbrev k6:X:= .s 51
abbrev mW:X:= .s 52
abbrev mX:X:= .s 53
abbrev mY:X:= .s 54
abbrev mZ:X:= .s 55
abbrev oa:X:= .s 56
abbrev na:X:= .s 57
abbrev oc:X:= .s 58
abbrev mb:X:= .s 59
abbrev qH:X:= .s 60
abbrev rV:X:= .s 61
abbrev rW:X:= .s 62
abbrev qI:X:= .s 63
abbrev qJ:X:= .s 64
abbrev u5:X:= .s 65
abbrev wK:X:= .s 66
abbrev u6:X:= .s 67
abbrev u7:X:= .s 68
abbrev wL:X:= .s 69
abbrev wM:X:= .s 70
abbrev AA:X:= .s 71
abbrev yu:X:= .s 72
abbrev AB:X:= .s 73
abbrev yv:X:= .s 74
abbrev AE:X:= .s 75
abbrev u9:X:= .s 76
abbrev AG:X:= .s 77
abbrev wN:X:= .s 78
abbrev DZ:X:= .s 79
abbrev yw:X:= .s 80
abbrev D0:X:= .s 81
abbrev AH:X:= .s 82
abbrev D1:X:= .s 83
abbrev yx:X:= .s 84
abbrev D2:X:= .s 85
abbrev D3:X:= .s 86
abbrev D4:X:= .s 87
abbrev D5:X:= .s 88
abbrev D6:X:= .s 89
abbrev D7:X:= .s 90
abbrev D8:X:= .s 91
abbrev D9:X:= .s 92
abbrev Io:X:= .s 93
abbrev Ip:X:= .s 94
abbrev Iq:X:= .s 95
abbrev M9:X:= .s 96
abbrev Na:X:= .s 97
abbrev Nb:X:= .s 98
abbrev Nc:X:= .s 99
abbrev Ir:X:= .s 100
abbrev Is:X:= .s 101
abbrev Iu:X:= .s 102
abbrev Iv:X:= .s 103
abbrev Iw:X:= .s 104
abbrev Ix:X:= .s 105
abbrev Iy:X:= .s 106
abbrev Iz:X:= .s 107
abbrev IA:X:= .s 108
abbrev IB:X:= .s 109
abbrev Pe:X:= .s 110
abbrev Pf:X:= .s 111
abbrev Ph:X:= .s 112
abbrev Pj:X:= .s 113
abbrev Pk:X:= .s 114
abbrev Pl:X:= .s 115
abbrev Pn:X:= .s 116
abbrev Po:X:= .s 117
abbrev Pp:X:= .s 118
abbrev Pq:X:= .s 119
abbrev Pr:X:= .s 120
abbrev Ps:X:= .s 121
abbrev Pt:X:= .s 122
abbrev U6:X:= .s 123
abbrev U7:X:= .s 124
abbrev U8:X:= .s 125
abbrev U9:X:= .s 126
abbrev Va:X:= .s 127
abbrev Vb:X:= .s 128
abbrev Vc:X:= .s 129
abbrev Vd:X:= .s 130
abbrev Ve:X:= .s 131
abbrev Vf:X:= .s 132
abbrev Vg:X:= .s 133
abbrev Vh:X:= .s 134
abbrev Vi:X:= .s 135
abbrev Vj:X:= .s 136
abbrev Vk:X:= .s 137
abbrev Vl:X:= .s 138
abbrev Vm:X:= .s 139
abbrev Vn:X:= .s 140
abbrev Vo:X:= .s 141
abbrev Vp:X:= .s 142
abbrev Pu:X:= .s 143
abbrev Vq:X:= .s 144
abbrev IC:X:= .s 145
abbrev Vr:X:= .s 146
abbrev Vs:X:= .s 147
abbrev Vt:X:= .s 148
abbrev Vu:X:= .s 149
abbrev Vv:X:= .s 150
abbrev Vw:X:= .s 151
abbrev Vx:X:= .s 152
abbrev Vy:X:= .s 153
abbrev Vz:X:= .s 154
abbrev VA:X:= .s 155
abbrev VB:X:= .s 156
abbrev VC:X:= .s 157
abbrev VD:X:= .s 158
abbrev VE:X:= .s 159
abbrev VF:X:= .s 160
abbrev VG:X:= .s 161
abbrev VH:X:= .s 162
abbrev VI:X:= .s 163
abbrev VJ:X:= .s 164
abbrev VK:X:= .s 165
abbrev VL:X:= .s 166
abbrev VM:X:= .s 167
abbrev VN:X:= .s 168
abbrev VO:X:= .s 169
abbrev VP:X:= .s 170
abbrev VQ:X:= .s 171
abbrev VR:X:= .s 172
abbrev VS:X:= .s 173
abbrev VT:X:= .s 174
abbrev VU:X:= .s 175
abbrev VV:X:= .s 176
abbrev VW:X:= .s 177
abbrev Q04:AC:= .cond b9 (.seq (.run [.o 4 (.mv (.k (.bool false)))]) .ret) .skip
abbrev Q09:AC:= .cond bT (.seq (.run [.o 4 (.mv (.k (.bool true)))]) .ret) .skip
abbrev Q0B:AC:= .par [.o 12 (.load cH true 2), .c 13 nW [cb], .o 14 (.load cH true 2), .c 15 rK [cm], .o 16 (.eqs true [0,0] cz cZ)] [(0,0),(1,0),(2,1),(3,0),(4,0)]
abbrev Q0E:AC:= .cond cw (.seq (.run [.o 4 (.mv (.k (.bool false)))]) .ret) .skip
abbrev Q0J:AC:= .cond dd (.seq (.run [.o 4 (.mv (.k (.bool true)))]) .ret) .skip
abbrev Q0N:AC:= .par [.m 27 bH, .o 28 (.bin .eql ef (.k (.int .i64 0))), .m 29 eI, .g 30 29 false (.load cH true 2), .g 31 29 false (.load cD true 13), .d 32 29 false mU [fp,eU], .g 33 29 false (.load cH true 2), .g 34 29 false (.load cD true 13), .d 35 29 false rL [fj,fD], .g 36 29 false (.vv false fq fE), .o 37 (.pick eZ (.k (.bool true)) gq), .m 4 gE] [(0,0),(1,0),(2,0),(3,0),(4,0),(5,0),(6,1),(7,1),(8,0),(9,0),(10,0),(11,0)]
abbrev Q0R:AC:= .seq (.seq (.run [.o 17 (.load cH true 2), .c 18 q9 [c6], .o 19 (.un .not da)]) Q0J) (.seq (.run [.o 20 (.load cH true 2), .c 21 uU [dr,(.k (.int .i64 0))], .m 22 bg, .c 23 tp [dh,dF], .m 5 dG]) (.seq (.run [.o 24 (.load cH true 2), .m 25 bH, .c 26 tq [dU,dV], .o 6 (.alloc [(.int .i64 0),(.int .i64 0),(.slice .full 0 []),(.str []),(.str []),(.int .i64 0),(.int .i64 0),(.str []),(.slice .full 0 []),(.bool false),(.slice .full 0 []),(.slice .full 0 []),(.slice .full 0 [])]), .op none none (.store cD eo 13)]) (.seq Q0N .ret)))
abbrev Q0V:AC:= .seq (.run [.o 2 (.box bE), .o 4 (.mv (.k (.bool false)))]) (.seq (.seq (.run [.c 7 qA [], .o 8 (.un .not bN)]) Q04) (.seq (.seq (.run [.o 9 (.load cH true 2), .c 10 tn [cO], .o 11 (.un .not cd)]) Q09) (.seq (.seq Q0B Q0E) Q0R)))
abbrev Q13:AC:= .par [.o 26 (.av bH 4), .o 27 (.load eo false 1), .o 28 (.av bH 2), .o 29 (.load eI false 1), .o 30 (.av bH 0), .o 31 (.load fp false 1), .m 32 cu, .c 33 fi [eU,fq], .c 34 gX [eZ,fj], .c 35 gX [ef,fD], .m 3 fE] [(4,0),(5,0),(6,0),(7,0),(2,0),(3,1),(8,0),(0,0),(1,2),(9,0),(10,0)]
abbrev Q1C:AC:= .seq (.seq (.run [.m 36 cD, .o 37 (.av bH 1), .o 38 (.load gE false 1), .o 39 (.len iP), .o 40 (.bin .lss gq ij), .m 41 jS, .g 42 41 true (.mv cu), .g 43 41 true (.bin .leq kq (.k (.int .i64 20000))), .o 44 (.pick jF kr (.k (.bool false)))]) (.cond ku .skip (.exit 2))) (.seq (.block 3 (.run [.o 47 (.av bH 1), .o 48 (.load lE false 1), .m 49 cD, .o 50 (.bF lF jT 2), .o 51 (.av lG 0), .o 52 (.load k6 false 1), .m 53 cu, .c 54 fi [mW,mX], .m 3 mY])) (.run [.m 45 cD, .o 46 (.bin .add lC (.k (.int .i64 1))), .m 6 lD]))
abbrev Q1H:AC:= .seq (.seq (.run [.o 6 (.mv (.k (.int .i64 0)))]) (.block 2 (.loop Q1C))) (.run [.o 55 (.av bH 3), .o 56 (.load mZ false 1), .m 57 cu, .c 58 je [oa,na], .m 3 oc])
abbrev Q1M:AC:= .seq (.block 1 (.seq (.run [.o 21 (.av bg 1), .o 22 (.load dh false 1), .m 23 db, .o 24 (.bF dF dG 5), .o 25 (.load dU true 5), .o 5 (.alloc [(.str []),(.slice .full 0 []),(.slice .full 0 []),(.slice .full 0 []),(.slice .full 0 [])]), .op none none (.store bH dV 5)]) (.seq Q13 Q1H))) (.run [.m 19 db, .o 20 (.bin .add dd (.k (.int .i64 1))), .m 4 dr])
abbrev Q1N:AC:= .seq (.seq (.run [.m 10 db, .o 11 (.av bg 1), .o 12 (.load bT false 1), .o 13 (.len cb), .o 14 (.bin .lss cd cz), .m 15 cm, .g 16 15 true (.mv cu), .g 17 15 true (.bin .leq cw (.k (.int .i64 20000))), .o 18 (.pick cZ c6 (.k (.bool false)))]) (.cond da .skip (.exit 0))) Q1M
abbrev Q1T:AC:= .seq (.seq (.run [.o 4 (.mv (.k (.int .i64 0)))]) (.block 0 (.loop Q1N))) (.seq (.run [.m 59 cu, .o 60 (.bin .leq mb (.k (.int .i64 20000))), .m 2 qH]) .ret)
abbrev Q1V:AC:= .seq (.run [.o 1 (.box bE), .o 2 (.mv (.k (.bool false)))]) (.seq (.run [.o 7 (.av bg 0), .o 8 (.load bN false 1), .c 9 gX [b9,(.k (.int .i64 0))], .m 3 cO]) Q1T)
abbrev Q20:AC:= .cond cw (.seq (.run [.o 4 (.mv (.k (.slice .full 0 [])))]) .ret) .skip
abbrev Q2K:AC:= .seq (.run [.o 43 (.bF ij jF 1), .o 44 (.load kr false 1), .m 12 ku]) (.seq (.run [.o 45 (.av cH 0), .o 46 (.load lC false 1), .m 47 cb, .c 48 ct [lD,lE]]) (.cond lF (.run [.m 49 cD, .m 50 cb, .o 51 (.cT [(.str [])] 1 1 [(0,lG)]), .o 52 (.app 1 16 jT k6), .m 6 mW]) .skip))
abbrev Q2O:AC:= .seq (.cond kq .skip (.exit 4)) (.seq (.block 5 Q2K) (.run [.o 53 (.bin .add jF (.k (.int .i64 1))), .m 41 mX]))
abbrev Q2S:AC:= .seq (.run [.o 37 (.av cd 0), .o 38 (.load gE true 13), .c 39 oK [iP], .o 40 (.len ij), .o 41 (.mv (.k (.int .i64 0)))]) (.block 4 (.loop (.seq (.run [.o 42 (.bin .lss jF jS)]) Q2O)))
abbrev Q2W:AC:= .seq (.block 3 (.seq (.run [.o 35 (.bF eU fj 17), .o 36 (.load fE true 17), .o 10 (.alloc [(.int .i64 0),(.int .i64 0),(.slice .full 0 []),(.str []),(.str []),(.int .i64 0),(.int .i64 0),(.str []),(.slice .full 0 []),(.bool false),(.slice .full 0 []),(.slice .full 0 []),(.slice .full 0 []),(.int .i64 0),(.int .i64 0),(.int .i64 0),(.int .i64 0)]), .op none none (.store cd gq 17)]) Q2S)) (.run [.o 54 (.bin .add fj (.k (.int .i64 1))), .m 33 mY])
abbrev Q30:AC:= .block 2 (.loop (.seq (.run [.o 34 (.bin .lss fj fq)]) (.seq (.cond fD .skip (.exit 2)) Q2W)))
abbrev Q32:AC:= .seq (.run [.o 25 (.bF dh dG 1), .o 26 (.load dV false 1), .m 8 eo]) (.seq (.run [.m 27 bH, .m 28 bH, .m 29 b9, .c 30 kJ [eI,eZ], .c 31 ka [ef,fp], .o 32 (.len eU), .o 33 (.mv (.k (.int .i64 0)))]) Q30)
abbrev Q36:AC:= .seq (.cond dU .skip (.exit 0)) (.seq (.block 1 Q32) (.run [.o 55 (.bin .add dG (.k (.int .i64 1))), .m 23 mZ]))
abbrev Q3A:AC:= .seq (.run [.m 19 bH, .m 20 bg, .c 21 tt [dd,dr], .o 22 (.len dh), .o 23 (.mv (.k (.int .i64 0)))]) (.block 0 (.loop (.seq (.run [.o 24 (.bin .lss dG dF)]) Q36)))
abbrev Q3H:AC:= .seq (.run [.o 17 (.load cH true 2), .c 18 lA [c6], .m 5 da]) (.seq (.run [.o 6 (.mv (.k (.slice .full 0 [])))]) (.seq Q3A (.seq (.run [.m 56 cD, .c 57 gT [oa]]) (.seq (.run [.m 58 cD, .c 59 im [oc], .m 4 mb]) .ret))))
abbrev Q3J:AC:= .seq (.run [.o 2 (.box bE), .o 4 (.mv (.k (.slice .full 0 [])))]) (.seq (.seq (.run [.o 13 (.load cH true 2), .m 14 bg, .c 15 qB [cz,cm], .o 16 (.un .not cZ)]) Q20) Q3H)
abbrev Q3N:AC:= .seq (.run [(.o 16 (.build [(.int .i64 0),(.int .i64 0)] [(0,(1,(.k (.int .i64 1))))])), .op none none (.store cH cw 2)]) .ret
abbrev Q3Z:AC:= .seq (.block 1 (.seq (.run [.o 22 (.bF da dr 5), .o 23 (.load dF true 5), .o 5 (.alloc [(.str []),(.slice .full 0 []),(.slice .full 0 []),(.slice .full 0 []),(.slice .full 0 [])]), .op none none (.store bH dG 5)]) (.run [.m 24 cu, .o 25 (.av bH 0), .o 26 (.load dV false 1), .o 27 (.cT [(.str [])] 1 1 [(0,eo)]), .o 28 (.app 1 16 dU ef), .m 3 eI]))) (.run [.o 29 (.bin .add dr (.k (.int .i64 1))), .m 20 eZ])
abbrev Q43:AC:= .block 0 (.loop (.seq (.run [.o 21 (.bin .lss dr dd)]) (.seq (.cond dh .skip (.exit 0)) Q3Z)))
abbrev Q48:AC:= .seq (.run [(.o 53 (.build [(.int .i64 0),(.int .i64 0)] [(0,(1,(.k (.int .i64 5))))])), .op none none (.store cH mX 2)]) .ret
abbrev Q4J:AC:= .seq (.run [(.o 73 (.build [(.int .i64 0),(.int .i64 0)] [(0,(1,(.k (.int .i64 5))))])), .op none none (.store cH AB 2)]) .ret
abbrev Q4S:AC:= .seq (.run [.o 89 (.av cb 0), .o 90 (.av D6 0), .o 91 (.load D7 false 1),(.o 92 (.build [(.int .i64 0),(.int .i64 0)] [(0,(1,(.k (.int .i64 5)))),(1,(1,D8))])), .op none none (.store cH D9 2)]) .ret
abbrev Q4Y:AC:= .seq (.block 5 (.seq (.run [.o 80 (.bF u9 wN 17), .o 81 (.load yw true 17), .o 12 (.alloc [(.int .i64 0),(.int .i64 0),(.slice .full 0 []),(.str []),(.str []),(.int .i64 0),(.int .i64 0),(.str []),(.slice .full 0 []),(.bool false),(.slice .full 0 []),(.slice .full 0 []),(.slice .full 0 []),(.int .i64 0),(.int .i64 0),(.int .i64 0),(.int .i64 0)]), .op none none (.store cb D0 17)]) (.seq (.run [.o 82 (.load bg true 2), .o 83 (.load cO true 5), .m 84 cu, .o 85 (.av cb 0), .o 86 (.load D2 true 13), .c 87 nX [AH,D1,yx,D3], .o 88 (.un .not D4)]) (.cond D5 Q4S .skip)))) (.run [.o 93 (.bin .add wN (.k (.int .i64 1))), .m 78 Io])
abbrev Q52:AC:= .block 4 (.loop (.seq (.run [.o 79 (.bin .lss wN AG)]) (.seq (.cond DZ .skip (.exit 4)) Q4Y)))
abbrev Q54:AC:= .seq (.seq (.run [.m 66 cd, .c 67 lV [wK], .m 68 u6, .g 69 68 false (.mv cd), .g 70 68 false (.qW 55 [bg]), .d 71 68 false fa [wL,wM], .o 72 (.pick u7 (.k (.bool true)) AA)]) (.cond yu Q4J .skip)) (.seq (.run [.m 74 bN, .m 75 b9, .c 76 ka [yv,AE], .o 77 (.len u9), .o 78 (.mv (.k (.int .i64 0)))]) Q52)
abbrev Q59:AC:= .seq (.block 3 (.seq (.run [.m 61 mb, .o 62 (.bF na mb 5), .o 63 (.load rW true 5), .o 9 (.alloc [(.str []),(.slice .full 0 []),(.slice .full 0 []),(.slice .full 0 []),(.slice .full 0 [])]), .m 8 rV, .op none none (.store cO qI 5)]) (.seq (.run [.o 64 (.load cO true 5), .c 65 tu [qJ], .m 10 u5]) Q54))) (.run [.o 94 (.bin .add mb (.k (.int .i64 1))), .m 59 Ip])
abbrev Q5D:AC:= .block 2 (.loop (.seq (.run [.o 60 (.bin .lss mb oc)]) (.seq (.cond qH .skip (.exit 2)) Q59)))
abbrev Q5H:AC:= .seq (.seq (.run [.o 56 (.av bg 1), .o 57 (.load oa false 1), .o 58 (.len na), .o 59 (.mv (.k (.int .i64 0)))]) Q5D) (.seq (.run [.o 95 (.build [(.int .i64 0),(.int .i64 0)] []), .op none none (.store cH Iq 2)]) .ret)
abbrev Q5J:AC:= .seq (.seq (.run [.o 32 (.av bg 0), .o 33 (.load fq false 1), .c 34 lV [fj], .m 35 fD, .g 36 35 false (.mv cu), .d 37 35 false lV [gq], .o 38 (.pick fE (.k (.bool true)) gE), .m 39 iP, .g 40 39 false (.mv cD), .g 41 39 false (.bin .lss jS (.k (.int .i64 0))), .o 42 (.pick ij (.k (.bool true)) jF), .m 43 kq, .g 44 43 false (.av bg 1), .g 45 43 false (.load ku false 1), .g 46 43 false (.mv cD), .g 47 43 false (.bF lC lD 5), .g 48 43 false (.av lE 1), .g 49 43 false (.load lF false 1), .g 50 43 false (.len jT), .g 51 43 false (.bin .gtr lG (.k (.int .i64 0))), .o 52 (.pick kr (.k (.bool true)) k6)]) (.cond mW Q48 .skip)) (.seq (.run [.o 54 (.load bg true 2), .c 55 lA [mY], .m 7 mZ]) Q5H)
abbrev Q5L:AC:= .seq (.seq (.run [.o 17 (.av bg 1), .o 18 (.load c6 false 1), .o 19 (.len da), .o 20 (.mv (.k (.int .i64 0)))]) Q43) (.seq (.run [.m 30 cu,(.c 31 gI [fp,(.k (.str [109,97,105,110]))]), .m 6 eU]) Q5J)
abbrev Q5N:AC:= .seq (.seq (.run [.o 13 (.load bg true 2), .c 14 q9 [cz], .o 15 (.un .not cm)]) (.cond cZ Q3N .skip)) (.seq (.run [.o 3 (.mv (.k (.slice .full 0 [])))]) Q5L)
abbrev Q5O:AC:= .seq (.run [.o 1 (.box bE), .o 2 (.alloc [(.int .i64 0),(.int .i64 0)])]) Q5N
abbrev Q5S:AC:= .seq (.run [.o 1 (.box bE), .o 2 (.mv (.k (.slice .full 0 [])))]) (.seq (.run [.o 3 (.av bg 3), .o 4 (.load cu false 1),(.c 5 ko [db,(.k (.int .i64 1)),(.k (.int .i64 0)),(.k (.bool false)),(.k (.slice .full 0 []))]), .m 2 bH]) .ret)
abbrev Q69:AC:= .seq (.seq (.run [.o 31 (.av bH 0), .o 32 (.load eU false 1)]) (.cond fq (.run [.m 33 cu, .o 34 (.av bH 1), .o 35 (.load fD false 1), .o 36 (.cT [(.str [])] 1 1 [(0,fE)]), .o 37 (.app 1 16 fj gq), .m 3 gE]) .skip)) (.run [.m 38 cu, .o 39 (.av bH 2), .o 40 (.load ij true 4), .c 41 oL [jS], .o 42 (.app 1 16 iP jF), .m 3 kq])
abbrev Q6D:AC:= .seq (.block 1 (.seq (.run [.o 29 (.bF dV ef 6), .o 30 (.load eZ true 6), .o 5 (.alloc [(.bool false),(.str []),(.int .i64 0),(.int .i64 0),(.str []),(.slice .full 0 [])]), .op none none (.store bH fp 6)]) Q69)) (.run [.o 43 (.bin .add ef (.k (.int .i64 1))), .m 27 kr])
abbrev Q6H:AC:= .block 0 (.loop (.seq (.run [.o 28 (.bin .lss ef eo)]) (.seq (.cond eI .skip (.exit 0)) Q6D)))
abbrev Q6L:AC:= .seq (.seq (.run [.o 24 (.av bg 10), .o 25 (.load dU false 1), .o 26 (.len dV), .o 27 (.mv (.k (.int .i64 0)))]) Q6H) (.seq (.run [.m 44 cu, .m 2 ku]) .ret)
abbrev Q6N:AC:= .seq (.seq (.run [.o 6 (.av bg 3), .o 7 (.load cD false 1), .o 8 (.bin .neq bN (.k (.str []))), .m 9 b9, .g 10 9 true (.av bg 1), .g 11 9 true (.load cd false 1), .g 12 9 true (.bin .neq bT (.k (.int .i64 10))), .o 13 (.pick cO cb (.k (.bool false)))]) (.cond cz (.run [.m 14 cu, .o 15 (.av bg 3), .o 16 (.load cZ false 1), .o 17 (.cT [(.str [])] 1 1 [(0,cw)]), .o 18 (.app 1 16 cm c6), .m 3 da]) .skip)) (.seq (.run [.m 19 cu, .o 20 (.av bg 5), .o 21 (.load dr true 4), .c 22 oL [dh], .o 23 (.app 1 16 dd dF), .m 3 dG]) Q6L)
abbrev Q6P:AC:= .seq (.run [.o 1 (.box bE), .o 2 (.mv (.k (.slice .full 0 [])))]) (.seq (.run [.o 3 (.mv (.k (.slice .full 0 [])))]) Q6N)
abbrev Q6Y:AC:= .cond cw (.seq (.run [.o 4 (.mv (.k (.bool true)))]) .ret) .skip
abbrev Q73:AC:= .seq (.block 1 (.seq (.run [.m 10 b9, .m 5 cd]) (.seq (.run [.m 11 bE, .m 12 bH, .o 13 (.bF bT cb 1), .o 14 (.load cz false 1), .m 15 bg, .o 16 (.bin .eql cm cZ)]) Q6Y))) (.run [.o 17 (.bin .add b9 (.k (.int .i64 1))), .m 8 c6])
abbrev Q77:AC:= .block 0 (.loop (.seq (.run [.o 9 (.bin .lss b9 bN)]) (.seq (.cond cO .skip (.exit 0)) Q73)))
abbrev Q7B:AC:= .seq (.seq (.run [.m 6 bE, .o 7 (.len cD), .o 8 (.mv (.k (.int .i64 0)))]) Q77) (.seq (.run [.o 4 (.mv (.k (.bool false)))]) .ret)
abbrev Q7C:AC:= .seq (.run [.o 4 (.mv (.k (.bool false)))]) Q7B
abbrev Q7J:AC:= .seq (.run [.o 14 (.load bg true 2), .o 15 (.load cH true 13), .c 16 mU [cm,cZ], .m 17 cw, .g 18 17 true (.load bg true 2), .g 19 17 true (.load cu true 13), .d 20 17 true mU [da,dd], .g 21 17 true (.un .not dr), .o 22 (.pick c6 dh (.k (.bool false))), .m 23 dF, .g 24 23 true (.build [(.slice .full 0 []),(.slice .full 0 [])] []), .d 25 23 true nW [dU],(.g 26 23 true (.build [(.int .i64 0),(.int .i64 0)] [(0,(1,(.k (.int .i64 1))))])), .g 27 23 true (.eqs false [0,0] dV eo), .o 28 (.pick dG ef (.k (.bool false))), .m 0 eI]) .ret
abbrev Q7L:AC:= .seq (.run [.o 12 (.load cH true 13), .o 3 (.alloc [(.int .i64 0),(.int .i64 0),(.slice .full 0 []),(.str []),(.str []),(.int .i64 0),(.int .i64 0),(.str []),(.slice .full 0 []),(.bool false),(.slice .full 0 []),(.slice .full 0 []),(.slice .full 0 [])]), .op none none (.store cu cb 13)]) (.seq (.run [.o 13 (.av cu 3), .op none none (.store cz (.k (.str [118])) 1)]) Q7J)
abbrev Q7N:AC:= .seq (.run [.c 4 tr [], .o 1 (.alloc [(.slice .full 0 []),(.slice .full 0 [])]), .op none none (.store bg db 2)]) (.seq (.run [.o 5 (.av bg 1), .o 6 (.load bH false 1), .o 7 (.bF cD (.k (.int .i64 0)) 5), .o 8 (.av bN 3), .o 9 (.load b9 false 1), .o 10 (.bF cO (.k (.int .i64 1)) 13), .o 11 (.load cd true 13), .o 2 (.alloc [(.int .i64 0),(.int .i64 0),(.slice .full 0 []),(.str []),(.str []),(.int .i64 0),(.int .i64 0),(.str []),(.slice .full 0 []),(.bool false),(.slice .full 0 []),(.slice .full 0 []),(.slice .full 0 [])]), .op none none (.store cH bT 13)]) Q7L)
abbrev Q7O:AC:= .seq (.run [.o 0 (.mv (.k (.bool false)))]) Q7N
abbrev Q7S:AC:= .seq (.run [(.o 12 (.build [(.int .i64 0),(.int .i64 0)] [(0,(1,(.k (.int .i64 1))))])), .op none none (.store cH cb 2)]) .ret
abbrev Q80:AC:= .par [.m 21 cu, .o 22 (.av bH 0), .o 23 (.load dF false 1), .o 24 (.load bg true 2), .o 25 (.av bH 0), .o 26 (.load dV false 1), .c 27 my [dU,eo], .op none none (.uH dh dG ef)] [(3,0),(4,0),(5,0),(6,0),(0,0),(1,0),(2,1),(7,0)]
abbrev Q84:AC:= .seq (.block 1 (.seq (.run [.o 19 (.bF cZ c6 5), .o 20 (.load dd true 5), .o 5 (.alloc [(.str []),(.slice .full 0 []),(.slice .full 0 []),(.slice .full 0 []),(.slice .full 0 [])]), .op none none (.store bH dr 5)]) Q80)) (.run [.o 28 (.bin .add c6 (.k (.int .i64 1))), .m 17 eI])
abbrev Q88:AC:= .block 0 (.loop (.seq (.run [.o 18 (.bin .lss c6 cw)]) (.seq (.cond da .skip (.exit 0)) Q84)))
abbrev Q8G:AC:= .seq (.run [.o 54 (.av bN 0), .o 55 (.av mY 0), .o 56 (.load mZ false 1),(.o 57 (.build [(.int .i64 0),(.int .i64 0)] [(0,(1,(.k (.int .i64 8)))),(1,(1,oa))])), .op none none (.store cH na 2)]) .ret
abbrev Q8J:AC:= .seq (.run [.o 37 (.bF fj fE 17), .o 38 (.load gE true 17), .o 7 (.alloc [(.int .i64 0),(.int .i64 0),(.slice .full 0 []),(.str []),(.str []),(.int .i64 0),(.int .i64 0),(.str []),(.slice .full 0 []),(.bool false),(.slice .full 0 []),(.slice .full 0 []),(.slice .full 0 []),(.int .i64 0),(.int .i64 0),(.int .i64 0),(.int .i64 0)]), .op none none (.store bN iP 17)]) (.seq (.run [.o 39 (.av bN 0), .o 40 (.av ij 1), .o 41 (.load jS false 1), .o 42 (.bin .eql jF (.k (.int .i64 4))), .m 43 kq, .g 44 43 true (.av bN 0), .g 45 43 true (.load ku true 13), .g 46 43 true (.mv cu), .g 47 43 true (.av bN 0), .g 48 43 true (.av lE 4), .g 49 43 true (.load lF false 1), .g 50 43 true (.sq lD jT (.slice .full 0 [])), .d 51 43 true nr [lC,lG], .g 52 43 true (.un .not k6), .o 53 (.pick kr mW (.k (.bool false)))]) (.cond mX Q8G .skip))
abbrev Q8N:AC:= .seq (.cond gq .skip (.exit 2)) (.seq (.block 3 Q8J) (.run [.o 58 (.bin .add fE (.k (.int .i64 1))), .m 35 oc]))
abbrev Q8R:AC:= .seq (.run [.o 29 (.load bg true 2), .c 30 lA [eZ], .o 31 (.gK fp), .o 32 (.av eU 2), .o 33 (.load fq false 1), .o 34 (.len fj), .o 35 (.mv (.k (.int .i64 0)))]) (.block 2 (.loop (.seq (.run [.o 36 (.bin .lss fE fD)]) Q8N)))
abbrev Q8V:AC:= .seq (.seq (.run [.o 14 (.av bg 1), .o 15 (.load cm false 1), .o 16 (.len cZ), .o 17 (.mv (.k (.int .i64 0)))]) Q88) (.seq Q8R (.seq (.run [.o 59 (.build [(.int .i64 0),(.int .i64 0)] []), .op none none (.store cH mb 2)]) .ret))
abbrev Q8X:AC:= .seq (.seq (.run [.o 8 (.load bg true 2), .c 9 nY [b9], .o 10 (.tQ cO 0 false 1), .o 11 (.bin .neq cd (.k (.int .i64 0)))]) (.cond bT Q7S .skip)) (.seq (.run [.op (some 13) none .qX, .m 3 cz]) Q8V)
abbrev Q8Y:AC:= .seq (.run [.o 1 (.box bE), .o 2 (.alloc [(.int .i64 0),(.int .i64 0)])]) Q8X
abbrev Q94:AC:= .seq (.run [.o 3 (.load bg true 2), .c 4 oM [cu], .o 5 (.tQ db 0 false 1), .o 6 (.bin .neq bH (.k (.int .i64 0)))]) (.cond cD (.seq (.run [.c 7 fU [(.k (.int .i64 1)),(.k (.int .i64 0))], .op none none (.store cH bN 2)]) .ret) .skip)
abbrev Q98:AC:= .seq (.run [.o 1 (.box bE), .o 2 (.alloc [(.int .i64 0),(.int .i64 0)])]) (.seq Q94 (.seq (.run [.o 8 (.load bg true 2), .c 9 oN [b9], .op none none (.store cH cO 2)]) .ret))
abbrev Q9D:AC:= .cond dG (.seq (.run [.o 2 (.mv (.k (.bool false)))]) .ret) .skip
abbrev Q9K:AC:= .run [.o 33 (.av bH 1), .o 34 (.load fj false 1), .o 35 (.len fD), .o 36 (.bin .gtr fE (.k (.int .i64 8))), .m 37 gq, .g 38 37 false (.av bH 2), .g 39 37 false (.load iP false 1), .g 40 37 false (.len ij), .g 41 37 false (.bin .gtr jS (.k (.int .i64 16))), .o 42 (.pick gE (.k (.bool true)) jF), .m 43 kq, .g 44 43 false (.av bH 0), .g 45 43 false (.load ku false 1), .d 46 43 false lB [lC], .g 47 43 false (.un .not lD), .o 48 (.pick kr (.k (.bool true)) lE), .m 49 lF, .g 50 49 false (.av bH 2), .g 51 49 false (.load lG false 1), .d 52 49 false kW [k6], .g 53 49 false (.un .not mW), .o 54 (.pick jT (.k (.bool true)) mX), .m 55 mY, .g 56 55 false (.av bH 4), .g 57 55 false (.load oa false 1), .d 58 55 false kW [na], .g 59 55 false (.un .not oc), .o 60 (.pick mZ (.k (.bool true)) mb)]
abbrev Q9N:AC:= .cond qH (.seq (.run [.o 2 (.mv (.k (.bool false)))]) .ret) .skip
abbrev Q9W:AC:= .cond AA (.seq (.run [.o 2 (.mv (.k (.bool false)))]) .ret) .skip
abbrev QA1:AC:= .seq (.block 3 (.seq (.run [.o 66 (.bF rW qJ 2), .o 67 (.load wK true 2), .o 7 (.alloc [(.str []),(.bool false)]), .op none none (.store bN u6 2)]) (.seq (.run [.o 68 (.av bN 0), .o 69 (.load u7 false 1), .c 70 lB [wL], .o 71 (.un .not wM)]) Q9W))) (.run [.o 72 (.bin .add qJ (.k (.int .i64 1))), .m 64 yu])
abbrev QA5:AC:= .block 2 (.loop (.seq (.run [.o 65 (.bin .lss qJ qI)]) (.seq (.cond u5 .skip (.exit 2)) QA1)))
abbrev QAA:AC:= .cond AG (.seq (.run [.o 2 (.mv (.k (.bool false)))]) .ret) .skip
abbrev QAC:AC:= .seq (.seq (.run [.o 61 (.av bH 1), .o 62 (.load rV false 1), .o 63 (.len rW), .o 64 (.mv (.k (.int .i64 0)))]) QA5) (.seq (.run [.m 73 cu, .o 74 (.av bH 3), .o 75 (.load yv false 1), .c 76 iO [AB,AE,(.k (.int .i64 1))], .o 77 (.un .not u9)]) QAA)
abbrev QAH:AC:= .seq (.block 1 (.seq (.run [.o 31 (.bF ef eZ 5), .o 32 (.load eU true 5), .o 5 (.alloc [(.str []),(.slice .full 0 []),(.slice .full 0 []),(.slice .full 0 []),(.slice .full 0 [])]), .op none none (.store bH fq 5)]) (.seq (.seq Q9K Q9N) QAC))) (.run [.o 78 (.bin .add eZ (.k (.int .i64 1))), .m 29 wN])
abbrev QAL:AC:= .block 0 (.loop (.seq (.run [.o 30 (.bin .lss eZ eI)]) (.seq (.cond fp .skip (.exit 0)) QAH)))
abbrev QAP:AC:= .seq (.seq (.run [.o 26 (.av bg 1), .o 27 (.load eo false 1), .o 28 (.len ef), .o 29 (.mv (.k (.int .i64 0)))]) QAL) (.seq (.run [.o 2 (.mv (.k (.bool true)))]) .ret)
abbrev QAR:AC:= .seq (.seq (.run [.o 8 (.av bg 0), .o 9 (.load b9 false 1), .o 10 (.len cO), .o 11 (.bin .gtr cd (.k (.int .i64 16))), .m 12 bT, .g 13 12 false (.av bg 1), .g 14 12 false (.load cz false 1), .g 15 12 false (.len cm), .g 16 12 false (.bin .gtr cZ (.k (.int .i64 16))), .o 17 (.pick cb (.k (.bool true)) cw), .m 18 c6, .g 19 18 false (.av bg 0), .g 20 18 false (.load dd false 1), .d 21 18 false kW [dr], .g 22 18 false (.un .not dh), .o 23 (.pick da (.k (.bool true)) dF)]) Q9D) (.seq (.run [.o 24 (.build [(.int .i64 0)] []), .o 25 (.box dU), .m 3 dV]) QAP)
abbrev QAS:AC:= .seq (.run [.o 1 (.box bE), .o 2 (.mv (.k (.bool false)))]) QAR
abbrev QAX:AC:= .cond bN (.seq (.run [.o 4 (.mv (.k (.int .i64 0)))]) .ret) .skip
abbrev QB1:AC:= .seq (.seq (.run [.m 5 bE, .o 6 (.len bH), .o 7 (.bin .eql cD (.k (.int .i64 0)))]) QAX) (.seq (.run [.m 8 bE, .m 9 bg, .m 10 bE, .o 11 (.len cd), .c 12 uV [cO,bT], .o 13 (.bF b9 cb 1), .o 14 (.load cz false 1), .m 4 cm]) .ret)
abbrev QB2:AC:= .seq (.run [.o 4 (.mv (.k (.int .i64 0)))]) QB1
abbrev QBD:AC:= .seq (.run [.o 13 (.bF cO bT 16), .o 14 (.load cz true 16), .o 7 (.alloc [(.int .i64 0),(.int .i64 0),(.slice .full 0 []),(.str []),(.str []),(.int .i64 0),(.int .i64 0),(.str []),(.slice .full 0 []),(.bool false),(.slice .full 0 []),(.slice .full 0 []),(.slice .full 0 []),(.int .i64 0),(.int .i64 0),(.bool false)]), .op none none (.store bN cm 16)]) (.seq (.run [.m 15 bg, .o 16 (.bin .eql cZ (.k (.int .i64 0))), .m 17 cw, .g 18 17 false (.av bN 0), .g 19 17 false (.av da 1), .g 20 17 false (.load dd false 1), .g 21 17 false (.mv bg), .g 22 17 false (.bin .eql dr dh), .o 23 (.pick c6 (.k (.bool true)) dF)]) (.cond dG (.run [.m 24 bH, .o 25 (.av bN 0), .o 26 (.av dV 0), .o 27 (.load eo false 1), .o 28 (.cT [(.int .i64 0)] 1 1 [(0,ef)]), .o 29 (.app 1 8 dU eI), .m 5 eZ]) .skip))
abbrev QBH:AC:= .seq (.cond cb .skip (.exit 0)) (.seq (.block 1 QBD) (.run [.o 30 (.bin .add bT (.k (.int .i64 1))), .m 11 fp]))
abbrev QBL:AC:= .seq (.run [.o 8 (.load cH true 2), .c 9 nu [b9], .o 10 (.len cO), .o 11 (.mv (.k (.int .i64 0)))]) (.block 0 (.loop (.seq (.run [.o 12 (.bin .lss bT cd)]) QBH)))
abbrev QBQ:AC:= .seq (.run [.o 2 (.box bE), .o 4 (.mv (.k (.slice .full 0 [])))]) (.seq (.run [.o 5 (.mv (.k (.slice .full 0 [])))]) (.seq QBL (.seq (.run [.m 31 bH, .m 4 eU]) .ret)))
abbrev QBW:AC:= .seq (.run [.o 2 (.box bE), .o 4 (.alloc [(.int .i64 0),(.int .i64 0),(.slice .full 0 []),(.str []),(.str []),(.int .i64 0),(.int .i64 0),(.str []),(.slice .full 0 []),(.bool false),(.slice .full 0 []),(.slice .full 0 []),(.slice .full 0 [])])]) (.seq (.run [.o 9 (.load cH true 2), .m 10 bg, .c 11 tv [cO,cd], .m 8 bT, .o 12 (.ext b9 0), .o 13 (.ext b9 1), .o 14 (.ext b9 2), .o 5 (.alloc [(.int .i64 0),(.int .i64 0),(.slice .full 0 []),(.str []),(.str []),(.int .i64 0),(.int .i64 0),(.str []),(.slice .full 0 []),(.bool false),(.slice .full 0 []),(.slice .full 0 []),(.slice .full 0 []),(.int .i64 0),(.int .i64 0),(.bool false)]), .op none none (.store bH cb 16), .m 6 cz, .m 7 cm]) (.seq (.run [.o 15 (.av bH 0), .o 16 (.load cZ true 13), .op none none (.store db cw 13)]) .ret))
abbrev QC1:AC:= .cond cm (.seq (.run [.o 4 (.mv (.k (.bool false)))]) .ret) .skip
abbrev QC3:AC:= .par [.o 15 (.load cu true 13), .o 16 (.load cH true 2), .o 17 (.av cu 4), .o 18 (.load c6 false 1), .c 19 my [cw,da], .c 20 nr [cZ,dd], .m 4 dr] [(1,0),(2,0),(3,0),(4,0),(0,1),(5,0),(6,0)]
abbrev QC5:AC:= .seq (.seq (.run [.o 5 (.load cH true 2), .c 6 nY [bH], .o 7 (.tQ cD 0 false 1), .o 8 (.bin .neq bN (.k (.int .i64 0))), .m 9 b9, .g 10 9 false (.load cH true 2), .g 11 9 false (.load cu true 13), .d 12 9 false rO [cd,bT], .g 13 9 false (.un .not cb), .o 14 (.pick cO (.k (.bool true)) cz)]) QC1) (.seq QC3 .ret)
abbrev QC6:AC:= .seq (.run [.o 2 (.box bE), .o 3 (.box bg), .o 4 (.mv (.k (.bool false)))]) QC5
abbrev QCA:AC:= .seq (.run [.o 2 (.box bE), .o 3 (.box bg), .o 4 (.mv (.k (.bool false)))]) (.seq (.run [.o 5 (.load cH true 2), .c 6 oM [bH], .o 7 (.tQ cD 0 false 1), .o 8 (.bin .eql bN (.k (.int .i64 0))), .m 9 b9, .g 10 9 true (.load cH true 2), .g 11 9 true (.load cu true 13), .d 12 9 true oO [cd,bT], .o 13 (.pick cO cb (.k (.bool false))), .m 4 cz]) .ret)
abbrev QCC:AC:= .run [(.o 3 (.cT [(.str [])] 1 1 [(0,(.k (.str [118])))])), .c 4 oP [(.k (.int .i64 2))],(.o 5 (.build [(.int .i64 0),(.int .i64 0),(.slice .full 0 []),(.str []),(.str []),(.int .i64 0),(.int .i64 0),(.str []),(.slice .full 0 []),(.bool false),(.slice .full 0 []),(.slice .full 0 []),(.slice .full 0 [])] [(0,(1,(.k (.int .i64 1)))),(1,(1,(.k (.int .i64 1)))),(3,(1,(.k (.str [118])))),(5,(4,db))])), .c 6 oP [(.k (.int .i64 3))], .o 7 (.build [(.bool false),(.str []),(.int .i64 0),(.int .i64 0),(.str []),(.slice .full 0 [])] [(2,(4,cD))]),(.o 8 (.build [(.bool false),(.str []),(.int .i64 0),(.int .i64 0),(.str []),(.slice .full 0 [])] [(0,(1,(.k (.bool true)))),(1,(1,(.k (.str [118]))))])), .o 9 (.cT [(.bool false),(.str []),(.int .i64 0),(.int .i64 0),(.str []),(.slice .full 0 [])] 6 2 [(0,bN),(1,b9)]),(.o 10 (.build [(.int .i64 0),(.int .i64 0),(.slice .full 0 []),(.str []),(.str []),(.int .i64 0),(.int .i64 0),(.str []),(.slice .full 0 []),(.bool false),(.slice .full 0 []),(.slice .full 0 []),(.slice .full 0 [])] [(0,(1,(.k (.int .i64 2)))),(1,(1,(.k (.int .i64 4)))),(3,(1,(.k (.str [103])))),(4,(1,(.k (.str [112])))),(10,(1,cO))])),(.c 11 jq [(.k (.str [118]))]),(.o 12 (.build [(.int .i64 0),(.int .i64 0),(.slice .full 0 []),(.str []),(.str []),(.int .i64 0),(.int .i64 0),(.str []),(.slice .full 0 []),(.bool false),(.slice .full 0 []),(.slice .full 0 []),(.slice .full 0 [])] [(0,(1,(.k (.int .i64 3)))),(1,(1,(.k (.int .i64 3)))),(5,(4,bT))])),(.c 13 jq [(.k (.str [103]))]),(.o 14 (.build [(.int .i64 0),(.int .i64 0),(.slice .full 0 []),(.str []),(.str []),(.int .i64 0),(.int .i64 0),(.str []),(.slice .full 0 []),(.bool false),(.slice .full 0 []),(.slice .full 0 []),(.slice .full 0 [])] [(0,(1,(.k (.int .i64 4)))),(1,(1,(.k (.int .i64 3)))),(5,(4,cz))])), .o 15 (.cT [(.int .i64 0),(.int .i64 0),(.slice .full 0 []),(.str []),(.str []),(.int .i64 0),(.int .i64 0),(.str []),(.slice .full 0 []),(.bool false),(.slice .full 0 []),(.slice .full 0 []),(.slice .full 0 [])] 13 4 [(0,bH),(1,cd),(2,cb),(3,cm)]),(.o 16 (.build [(.str []),(.slice .full 0 []),(.slice .full 0 []),(.slice .full 0 []),(.slice .full 0 [])] [(0,(1,(.k (.str [109,97,105,110])))),(2,(1,cu)),(3,(1,cZ))])), .o 1 (.alloc [(.str []),(.slice .full 0 []),(.slice .full 0 []),(.slice .full 0 []),(.slice .full 0 [])]), .op none none (.store bg cw 5)]
abbrev QCD:AC:= .run [(.o 17 (.build [(.str []),(.bool false)] [(0,(1,(.k (.str [120]))))])),(.o 18 (.build [(.str []),(.bool false)] [(0,(1,(.k (.str [121])))),(1,(1,(.k (.bool true))))])), .o 19 (.cT [(.str []),(.bool false)] 2 2 [(0,c6),(1,da)]),(.o 20 (.cT [(.str [])] 1 1 [(0,(.k (.str [101])))])),(.c 21 jq [(.k (.str [121]))]),(.c 22 jq [(.k (.str [120]))]), .c 23 ra [(.k (.int .i64 8)),dh,dF],(.o 24 (.build [(.int .i64 0),(.int .i64 0),(.slice .full 0 []),(.str []),(.str []),(.int .i64 0),(.int .i64 0),(.str []),(.slice .full 0 []),(.bool false),(.slice .full 0 []),(.slice .full 0 []),(.slice .full 0 [])] [(0,(1,(.k (.int .i64 5)))),(1,(1,(.k (.int .i64 1)))),(3,(1,(.k (.str [121])))),(5,(4,dG))])),(.c 25 jq [(.k (.str [121]))]), .c 26 oP [(.k (.int .i64 9))], .c 27 ra [(.k (.int .i64 12)),dV,eo],(.o 28 (.build [(.int .i64 0),(.int .i64 0),(.slice .full 0 []),(.str []),(.str []),(.int .i64 0),(.int .i64 0),(.str []),(.slice .full 0 []),(.bool false),(.slice .full 0 []),(.slice .full 0 []),(.slice .full 0 [])] [(0,(1,(.k (.int .i64 7)))),(1,(1,(.k (.int .i64 10)))),(3,(1,(.k (.str [101]))))])), .o 29 (.cT [(.int .i64 0),(.int .i64 0),(.slice .full 0 []),(.str []),(.str []),(.int .i64 0),(.int .i64 0),(.str []),(.slice .full 0 []),(.bool false),(.slice .full 0 []),(.slice .full 0 []),(.slice .full 0 [])] 13 1 [(0,eI)]),(.o 30 (.build [(.int .i64 0),(.int .i64 0),(.slice .full 0 []),(.str []),(.str []),(.int .i64 0),(.int .i64 0),(.str []),(.slice .full 0 []),(.bool false),(.slice .full 0 []),(.slice .full 0 []),(.slice .full 0 [])] [(0,(1,(.k (.int .i64 6)))),(1,(1,(.k (.int .i64 5)))),(5,(4,ef)),(11,(1,eZ))])),(.c 31 jq [(.k (.str [121]))]),(.o 32 (.build [(.int .i64 0),(.int .i64 0),(.slice .full 0 []),(.str []),(.str []),(.int .i64 0),(.int .i64 0),(.str []),(.slice .full 0 []),(.bool false),(.slice .full 0 []),(.slice .full 0 []),(.slice .full 0 [])] [(0,(1,(.k (.int .i64 8)))),(1,(1,(.k (.int .i64 9)))),(9,(1,(.k (.bool true)))),(5,(4,eU))])), .o 33 (.cT [(.int .i64 0),(.int .i64 0),(.slice .full 0 []),(.str []),(.str []),(.int .i64 0),(.int .i64 0),(.str []),(.slice .full 0 []),(.bool false),(.slice .full 0 []),(.slice .full 0 []),(.slice .full 0 [])] 13 3 [(0,dU),(1,fp),(2,fq)]),(.o 34 (.build [(.str []),(.slice .full 0 []),(.slice .full 0 []),(.slice .full 0 []),(.slice .full 0 [])] [(0,(1,(.k (.str [112])))),(1,(1,dd)),(4,(1,dr)),(3,(1,fj))])), .o 2 (.alloc [(.str []),(.slice .full 0 []),(.slice .full 0 []),(.slice .full 0 []),(.slice .full 0 [])]), .op none none (.store cH fD 5)]
abbrev QCF:AC:= .seq (.run [(.o 35 (.cT [(.str [])] 1 1 [(0,(.k (.str [103])))])), .o 36 (.load bg true 5), .o 37 (.load cH true 5), .o 38 (.cT [(.str []),(.slice .full 0 []),(.slice .full 0 []),(.slice .full 0 []),(.slice .full 0 [])] 5 2 [(0,gq),(1,gE)]), .o 39 (.build [(.slice .full 0 []),(.slice .full 0 [])] [(0,(1,fE)),(1,(1,iP))]), .op none none (.store bE ij 2)]) .ret
abbrev QCI:AC:= .seq (.run [.o 0 (.alloc [(.slice .full 0 []),(.slice .full 0 [])])]) (.seq QCC (.seq QCD QCF))
abbrev QCS:AC:= .seq (.seq (.run [.m 6 bH, .m 7 bE, .o 8 (.len bN), .o 9 (.bin .lss cD b9), .m 10 cO, .g 11 10 true (.mv bg), .g 12 10 true (.bin .leq bT (.k (.int .i64 20000))), .o 13 (.pick cd cb (.k (.bool false)))]) (.cond cz .skip (.exit 0))) (.seq (.block 1 (.run [.m 16 bE, .m 17 bH, .o 18 (.bF cw c6 1), .o 19 (.load da false 1), .m 20 bg, .c 21 fi [dd,dr], .m 1 dh])) (.run [.m 14 bH, .o 15 (.bin .add cm (.k (.int .i64 1))), .m 5 cZ]))
abbrev QCY:AC:= .seq (.seq (.run [.o 5 (.mv (.k (.int .i64 0)))]) (.block 0 (.loop QCS))) (.seq (.run [.m 22 bg, .m 4 dF]) .ret)
abbrev QCZ:AC:= .seq (.run [.o 4 (.mv (.k (.int .i64 0)))]) QCY
abbrev QD4:AC:= .cond cz (.seq (.run [.o 4 (.mv (.k (.int .i64 20001)))]) .ret) .skip
abbrev QD8:AC:= .seq (.seq (.run [.m 5 bg, .o 6 (.bin .gtr bH (.k (.int .i64 20000))), .m 7 cD, .g 8 7 false (.mv bE), .g 9 7 false (.py b9), .g 10 7 false (.mv bg), .g 11 7 false (.bin .sub (.k (.int .i64 20000)) cd), .g 12 7 false (.bin .geq cO bT), .o 13 (.pick bN (.k (.bool true)) cb)]) QD4) (.seq (.run [.m 14 bg, .o 15 (.bin .add cm (.k (.int .i64 1))), .m 16 bE, .o 17 (.py cw), .o 18 (.bin .add cZ c6), .m 4 da]) .ret)
abbrev QD9:AC:= .seq (.run [.o 4 (.mv (.k (.int .i64 0)))]) QD8
abbrev QDG:AC:= .par [.o 22 (.av cD 4), .o 23 (.load dF false 1), .o 24 (.av cD 3), .o 25 (.load dU false 1), .o 26 (.av cD 2), .o 27 (.load eo false 1), .o 28 (.av cD 5), .o 29 (.load eI true 4), .m 30 bg, .c 31 iC [eZ,fp], .c 32 gX [ef,eU], .c 33 fi [dV,fq], .c 34 fi [dG,fj], .m 1 fD] [(6,0),(7,0),(8,0),(9,0),(4,0),(5,1),(10,0),(2,0),(3,2),(11,0),(0,0),(1,3),(12,0),(13,0)]
abbrev QDL:AC:= .par [.o 46 (.av cD 10), .o 47 (.load lD false 1), .m 48 bN, .o 49 (.bF lE lF 6), .o 50 (.av jT 1), .o 51 (.load lG false 1), .o 52 (.av cD 10), .o 53 (.load mW false 1), .m 54 bN, .o 55 (.bF mX mY 6), .o 56 (.av mZ 2), .o 57 (.load oa true 4), .m 58 bg, .c 59 iC [na,oc], .c 60 fi [k6,mb], .m 1 qH] [(6,0),(7,0),(8,0),(9,0),(10,0),(11,0),(12,0),(13,0),(0,0),(1,1),(2,0),(3,0),(4,0),(5,1),(14,0),(15,0)]
abbrev QDP:AC:= .seq (.seq (.run [.m 35 bN, .o 36 (.av cD 10), .o 37 (.load gq false 1), .o 38 (.len gE), .o 39 (.bin .lss fE iP), .m 40 ij, .g 41 40 true (.mv bg), .g 42 40 true (.bin .leq jF (.k (.int .i64 20000))), .o 43 (.pick jS kq (.k (.bool false)))]) (.cond kr .skip (.exit 2))) (.seq (.block 3 QDL) (.run [.m 44 bN, .o 45 (.bin .add ku (.k (.int .i64 1))), .m 7 lC]))
abbrev QDT:AC:= .par [.o 61 (.av cD 12), .o 62 (.load rV false 1), .o 63 (.av cD 11), .o 64 (.load qI false 1), .m 65 bg, .c 66 je [qJ,u5], .c 67 je [rW,wK], .m 1 u6] [(2,0),(3,0),(4,0),(5,0),(0,0),(1,1),(6,0),(7,0)]
abbrev QDU:AC:= .seq (.seq (.run [.o 7 (.mv (.k (.int .i64 0)))]) (.block 2 (.loop QDP))) QDT
abbrev QDZ:AC:= .seq (.block 1 (.seq (.run [.m 18 bE, .m 19 bH, .o 20 (.bF da dd 13), .o 21 (.load dr true 13), .o 6 (.alloc [(.int .i64 0),(.int .i64 0),(.slice .full 0 []),(.str []),(.str []),(.int .i64 0),(.int .i64 0),(.str []),(.slice .full 0 []),(.bool false),(.slice .full 0 []),(.slice .full 0 []),(.slice .full 0 [])]), .op none none (.store cD dh 13)]) (.seq QDG QDU))) (.run [.m 16 bH, .o 17 (.bin .add cw (.k (.int .i64 1))), .m 5 c6])
abbrev QE0:AC:= .seq (.seq (.run [.m 8 bH, .m 9 bE, .o 10 (.len cO), .o 11 (.bin .lss b9 cd), .m 12 bT, .g 13 12 true (.mv bg), .g 14 12 true (.bin .leq cz (.k (.int .i64 20000))), .o 15 (.pick cb cm (.k (.bool false)))]) (.cond cZ .skip (.exit 0))) QDZ
abbrev QE6:AC:= .seq (.seq (.run [.o 5 (.mv (.k (.int .i64 0)))]) (.block 0 (.loop QE0))) (.seq (.run [.m 68 bg, .m 4 u7]) .ret)
abbrev QE7:AC:= .seq (.run [.o 4 (.mv (.k (.int .i64 0)))]) QE6
abbrev QEC:AC:= .cond cD (.seq (.run [.o 4 (.mv (.k (.int .i64 0)))]) .ret) .skip
abbrev QEM:AC:= .seq (.seq (.run [.m 10 bE, .o 11 (.bin .lss cd (.k (.int .i64 0)))]) (.cond bT (.seq (.run [.m 12 bE, .m 13 bg, .o 14 (.bin .add cb cz), .m 4 cm]) .ret) .skip)) (.seq (.run [.m 15 bE, .m 4 cZ]) .ret)
abbrev QEO:AC:= .seq (.seq (.run [.m 5 bg, .o 6 (.bin .lss bH (.k (.int .i64 1)))]) QEC) (.seq (.run [.m 7 bE, .m 8 bg, .o 9 (.bin .rem bN b9), .m 0 cO]) QEM)
abbrev QEP:AC:= .seq (.run [.o 4 (.mv (.k (.int .i64 0)))]) QEO
abbrev QET:AC:= .seq (.run [.o 2 (.box bE), .o 3 (.box bg), .o 4 (.mv (.k (.bool false)))]) (.seq (.run [.o 5 (.load cH true 2), .c 6 lU [bH], .o 7 (.tQ cD 0 false 1), .o 8 (.bin .eql bN (.k (.int .i64 0))), .m 9 b9, .g 10 9 true (.av cH 1), .g 11 9 true (.load cd false 1), .g 12 9 true (.qW 77 [cu]), .d 13 9 true fJ [bT,cb], .o 14 (.pick cO cz (.k (.bool false))), .m 4 cm]) .ret)
abbrev QF4:AC:= .seq (.run [.o 16 (.bF cb cm 17), .o 17 (.load cw true 17), .o 7 (.alloc [(.int .i64 0),(.int .i64 0),(.slice .full 0 []),(.str []),(.str []),(.int .i64 0),(.int .i64 0),(.str []),(.slice .full 0 []),(.bool false),(.slice .full 0 []),(.slice .full 0 []),(.slice .full 0 []),(.int .i64 0),(.int .i64 0),(.int .i64 0),(.int .i64 0)]), .op none none (.store bN c6 17)]) (.seq (.run [.o 18 (.av bN 0), .o 19 (.av da 1), .o 20 (.load dd false 1), .o 21 (.bin .eql dr (.k (.int .i64 4)))]) (.cond dh (.run [.m 22 bH, .o 23 (.av bN 0), .o 24 (.av dG 4), .o 25 (.load dU false 1), .o 26 (.cT [(.str [])] 1 1 [(0,dV)]), .o 27 (.app 1 16 dF eo), .m 5 ef]) .skip))
abbrev QF8:AC:= .seq (.cond cZ .skip (.exit 0)) (.seq (.block 1 QF4) (.run [.o 28 (.bin .add cm (.k (.int .i64 1))), .m 14 eI]))
abbrev QFC:AC:= .seq (.run [.m 8 bE, .m 9 bE, .m 10 bg, .c 11 kJ [cO,cd], .c 12 ka [b9,bT], .o 13 (.len cb), .o 14 (.mv (.k (.int .i64 0)))]) (.block 0 (.loop (.seq (.run [.o 15 (.bin .lss cm cz)]) QF8)))
abbrev QFJ:AC:= .seq (.run [.o 4 (.mv (.k (.slice .full 0 [])))]) (.seq (.run [.o 5 (.mv (.k (.slice .full 0 [])))]) (.seq QFC (.seq (.run [.m 29 bH, .c 30 gT [eZ]]) (.seq (.run [.m 31 bH, .c 32 im [eU], .m 4 fq]) .ret))))
abbrev QFQ:AC:= .par [.m 17 cu, .m 18 cu, .o 19 (.gK da), .o 20 (.av dd 3), .o 21 (.load dr false 1), .m 22 cu, .o 23 (.gK dF), .o 24 (.av dG 2), .o 25 (.load dU false 1), .o 26 (.len dV), .o 27 (.bin .add eo (.k (.int .i64 1))), .o 28 (.cT [(.int .i64 0)] 1 1 [(0,ef)]), .o 29 (.app 1 8 dh eI), .o 30 (.gK c6), .o 31 (.av fp 3), .op none none (.store eU eZ 1)] [(1,0),(2,0),(3,0),(4,0),(5,0),(6,0),(7,0),(8,0),(9,0),(10,0),(11,0),(12,0),(0,0),(13,0),(14,0),(15,0)]
abbrev QFS:AC:= .par [.m 38 cu, .m 39 cu, .o 40 (.gK ij), .o 41 (.av jS 4), .o 42 (.load jF false 1), .m 43 cu, .o 44 (.gK kr), .o 45 (.av ku 2), .o 46 (.load lC false 1), .o 47 (.len lD), .o 48 (.bin .add lE (.k (.int .i64 1))), .o 49 (.cT [(.int .i64 0)] 1 1 [(0,lF)]), .o 50 (.app 1 8 kq jT), .o 51 (.gK iP), .o 52 (.av k6 4), .op none none (.store mW lG 1)] [(1,0),(2,0),(3,0),(4,0),(5,0),(6,0),(7,0),(8,0),(9,0),(10,0),(11,0),(12,0),(0,0),(13,0),(14,0),(15,0)]
abbrev QFT:AC:= .seq (.run [.m 32 cu, .o 33 (.av bH 3), .o 34 (.load fj false 1), .m 35 db,(.o 36 (.build [(.int .i64 0),(.int .i64 0),(.slice .full 0 []),(.str []),(.str []),(.int .i64 0),(.int .i64 0),(.str []),(.slice .full 0 []),(.bool false),(.slice .full 0 []),(.slice .full 0 []),(.slice .full 0 []),(.int .i64 0),(.int .i64 0),(.int .i64 0),(.int .i64 0)] [(13,(1,fE)),(15,(1,(.k (.int .i64 (-1)))))])), .c 37 iD [fq,fD,gq]]) QFS
abbrev QFY:AC:= .seq (.block 1 (.seq (.run [.m 14 cb, .o 15 (.bF cd cb 5), .o 16 (.load cZ true 5), .o 5 (.alloc [(.str []),(.slice .full 0 []),(.slice .full 0 []),(.slice .full 0 []),(.slice .full 0 [])]), .m 4 cm, .op none none (.store bH cw 5)]) (.seq QFQ QFT))) (.run [.o 53 (.bin .add cb (.k (.int .i64 1))), .m 12 mX])
abbrev QG2:AC:= .block 0 (.loop (.seq (.run [.o 13 (.bin .lss cb bT)]) (.seq (.cond cz .skip (.exit 0)) QFY)))
abbrev QG6:AC:= .seq (.seq (.run [.o 9 (.av bg 1), .o 10 (.load cO false 1), .o 11 (.len cd), .o 12 (.mv (.k (.int .i64 0)))]) QG2) (.seq (.run [.m 54 cu, .m 2 mY]) .ret)
abbrev QG8:AC:= .seq (.run [.o 1 (.box bE), .o 2 (.mv (.k .eR))]) (.seq (.run [.o 6 (.load bg true 2), .o 7 (.build [(.slice .full 0 []),(.slice .full 0 []),(.slice .full 0 []),(.slice .full 0 []),(.slice .full 0 [])] [(0,(2,cD))]), .o 8 (.box bN), .m 3 b9]) QG6)
end Go.Abs

/-! Have0 -/

namespace Go.Abs
open Go.Proofs
theorem kb:Has Tryz.prog rJ 38 [(4,none)] Q0V:=⟨Tryz.f5,by kernel_rfl,by kernel_rfl⟩
theorem Cw:Has Tryz.prog tn 61 [(2,none)] Q1V:=⟨Tryz.f7,by kernel_rfl,by kernel_rfl⟩
theorem qU:Has Tryz.prog my 60 [(4,none)] Q3J:=⟨Tryz.f14,by kernel_rfl,by kernel_rfl⟩
theorem sJ:Has Tryz.prog lU 96 [(2,(some (true,2)))] Q5O:=⟨Tryz.f16,by kernel_rfl,by kernel_rfl⟩
theorem Cx:Has Tryz.prog kn 6 [(2,none)] Q5S:=⟨Tryz.f18,by kernel_rfl,by kernel_rfl⟩
theorem Cy:Has Tryz.prog p6 45 [(2,none)] Q6P:=⟨Tryz.f19,by kernel_rfl,by kernel_rfl⟩
theorem FA:Has Tryz.prog jo 18 [(4,none)] Q7C:=⟨Tryz.f20,by kernel_rfl,by kernel_rfl⟩
theorem zw:Has Tryz.prog qA 29 [(0,none)] Q7O:=⟨Tryz.f22,by kernel_rfl,by kernel_rfl⟩
theorem sK:Has Tryz.prog nW 60 [(2,(some (true,2)))] Q8Y:=⟨Tryz.f23,by kernel_rfl,by kernel_rfl⟩
theorem ud:Has Tryz.prog rK 10 [(2,(some (true,2)))] Q98:=⟨Tryz.f24,by kernel_rfl,by kernel_rfl⟩
theorem Ea:Has Tryz.prog q9 79 [(2,none)] QAS:=⟨Tryz.f25,by kernel_rfl,by kernel_rfl⟩
theorem vF:Has Tryz.prog tp 15 [(4,none)] QB2:=⟨Tryz.f26,by kernel_rfl,by kernel_rfl⟩
theorem Eb:Has Tryz.prog uU 32 [(4,none)] QBQ:=⟨Tryz.f27,by kernel_rfl,by kernel_rfl⟩
theorem vG:Has Tryz.prog tq 17 [(4,(some (true,13)))] QBW:=⟨Tryz.f28,by kernel_rfl,by kernel_rfl⟩
theorem uf:Has Tryz.prog mU 21 [(4,none)] QC6:=⟨Tryz.f29,by kernel_rfl,by kernel_rfl⟩
theorem ug:Has Tryz.prog rL 14 [(4,none)] QCA:=⟨Tryz.f30,by kernel_rfl,by kernel_rfl⟩
theorem Cz:Has Tryz.prog tr 40 [(0,(some (true,2)))] QCI:=⟨Tryz.f31,by kernel_rfl,by kernel_rfl⟩
theorem vT:Has Tryz.prog gX 23 [(4,none)] QCZ:=⟨Tryz.f32,by kernel_rfl,by kernel_rfl⟩
theorem nc:Has Tryz.prog fi 19 [(4,none)] QD9:=⟨Tryz.f33,by kernel_rfl,by kernel_rfl⟩
theorem px:Has Tryz.prog je 69 [(4,none)] QE7:=⟨Tryz.f34,by kernel_rfl,by kernel_rfl⟩
theorem wO:Has Tryz.prog uV 16 [(4,none)] QEP:=⟨Tryz.f35,by kernel_rfl,by kernel_rfl⟩
theorem sL:Has Tryz.prog qB 15 [(4,none)] QET:=⟨Tryz.f36,by kernel_rfl,by kernel_rfl⟩
theorem zz:Has Tryz.prog qC 33 [(4,none)] QFJ:=⟨Tryz.f37,by kernel_rfl,by kernel_rfl⟩
theorem Ec:Has Tryz.prog lA 55 [(2,none)] QG8:=⟨Tryz.f38,by kernel_rfl,by kernel_rfl⟩
end Go.Abs

/-! Codes1 -/

namespace Go.Abs
abbrev QGE:AC:= .seq (.run [.o 14 (.load bg true 2), .c 15 uW [cm], .o 16 (.un .not cZ)]) (.cond cw (.seq (.run [.c 17 fU [(.k (.int .i64 1)),(.k (.int .i64 0))], .op none none (.store cH c6 2)]) .ret) .skip)
abbrev QGO:AC:= .seq (.block 1 (.seq (.run [.o 23 (.bF dd dh 5), .o 24 (.load dG true 5), .o 5 (.alloc [(.str []),(.slice .full 0 []),(.slice .full 0 []),(.slice .full 0 []),(.slice .full 0 [])]), .op none none (.store bH dU 5)]) (.run [.m 25 cu, .o 26 (.av bH 0), .o 27 (.load eo false 1), .o 28 (.cT [(.str [])] 1 1 [(0,ef)]), .o 29 (.app 1 16 dV eI), .m 3 eZ]))) (.run [.o 30 (.bin .add dh (.k (.int .i64 1))), .m 21 fp])
abbrev QGS:AC:= .block 0 (.loop (.seq (.run [.o 22 (.bin .lss dh dr)]) (.seq (.cond dF .skip (.exit 0)) QGO)))
abbrev QGZ:AC:= .seq (.run [.o 36 (.av bg 0), .o 37 (.load gq false 1), .c 38 kX [gE], .m 39 iP, .g 40 39 false (.mv cu), .d 41 39 false kX [jS], .o 42 (.pick ij (.k (.bool true)) jF), .m 43 kq, .g 44 43 false (.mv bN), .g 45 43 false (.un .not ku), .o 46 (.pick kr (.k (.bool true)) lC), .m 47 lD, .g 48 47 false (.av cD 1), .g 49 47 false (.load lF false 1), .g 50 47 false (.len jT), .g 51 47 false (.bin .gtr lG (.k (.int .i64 0))), .o 52 (.pick lE (.k (.bool true)) k6)]) (.cond mW (.seq (.run [.c 53 fU [(.k (.int .i64 5)),(.k (.int .i64 0))], .op none none (.store cH mX 2)]) .ret) .skip)
abbrev QH4:AC:= .par [.o 61 (.cT [(.str [])] 1 0 []), .o 62 (.av bg 0), .o 63 (.load rW false 1), .o 64 (.app 1 16 rV qI), .o 65 (.load cO true 5), .c 66 qE [u5], .o 67 (.app 1 16 qJ wK), .o 68 (.av cO 2), .o 69 (.load u7 false 1), .o 70 (.app 1 16 u6 wL), .c 71 kX [wM]] [(0,0),(1,0),(2,0),(3,0),(4,1),(5,0),(6,0),(7,0),(8,3),(9,0),(10,0)]
abbrev QH8:AC:= .seq QH4 (.cond AA (.seq (.run [.c 72 fU [(.k (.int .i64 5)),(.k (.int .i64 0))], .op none none (.store cH yu 2)]) .ret) .skip)
abbrev QHL:AC:= .seq (.run [.o 88 (.load bg true 2), .o 89 (.load cO true 5), .m 90 cz, .c 91 tw [D5,D6,D7], .o 92 (.bin .eql D8 (.k (.int .i64 0)))]) (.cond D9 (.seq (.run [.o 93 (.av bT 0), .o 94 (.av Io 0), .o 95 (.load Ip false 1), .c 96 fU [(.k (.int .i64 5)),Iq], .op none none (.store cH M9 2)]) .ret) .skip)
abbrev QHQ:AC:= .seq (.cond D2 .skip (.exit 6)) (.seq (.block 7 (.seq (.run [.o 86 (.bF AH yx 1), .o 87 (.load D3 false 1), .m 13 D4]) QHL)) (.run [.o 97 (.bin .add yx (.k (.int .i64 1))), .m 84 Na]))
abbrev QHU:AC:= .seq (.run [.o 80 (.av bT 0), .o 81 (.load yw true 13), .c 82 p6 [D0], .o 83 (.len AH), .o 84 (.mv (.k (.int .i64 0)))]) (.block 6 (.loop (.seq (.run [.o 85 (.bin .lss yx D1)]) QHQ)))
abbrev QHZ:AC:= .seq (.run [.o 98 (.av bT 0), .o 99 (.av Nb 1), .o 100 (.load Nc false 1), .o 101 (.bin .eql Ir (.k (.int .i64 4))), .m 102 Is, .g 103 102 true (.av bT 0), .g 104 102 true (.av Iv 4), .g 105 102 true (.load Iw false 1), .g 106 102 true (.bin .eql Ix (.k (.str [109,97,105,110]))), .g 107 102 true (.mv Iy), .g 108 107 false (.mv cu), .g 109 107 false (.av bT 0), .g 110 107 false (.av IB 4), .g 111 107 false (.load Pe false 1), .d 112 107 false jo [IA,Pf], .g 113 107 false (.un .not Ph), .g 114 102 true (.pick Iz (.k (.bool true)) Pj), .o 115 (.pick Iu Pk (.k (.bool false)))]) (.cond Pl (.seq (.run [.o 116 (.av bT 0), .o 117 (.av Pn 0), .o 118 (.load Po false 1), .c 119 fU [(.k (.int .i64 5)),Pp], .op none none (.store cH Pq 2)]) .ret) .skip)
abbrev QI4:AC:= .seq (.block 5 (.seq (.run [.o 78 (.bF yv u9 16), .o 79 (.load wN true 16), .o 11 (.alloc [(.int .i64 0),(.int .i64 0),(.slice .full 0 []),(.str []),(.str []),(.int .i64 0),(.int .i64 0),(.str []),(.slice .full 0 []),(.bool false),(.slice .full 0 []),(.slice .full 0 []),(.slice .full 0 []),(.int .i64 0),(.int .i64 0),(.bool false)]), .op none none (.store bT DZ 16)]) (.seq QHU QHZ))) (.run [.o 120 (.bin .add u9 (.k (.int .i64 1))), .m 76 Pr])
abbrev QI8:AC:= .block 4 (.loop (.seq (.run [.o 77 (.bin .lss u9 AE)]) (.seq (.cond AG .skip (.exit 4)) QI4)))
abbrev QIA:AC:= .seq QH8 (.seq (.run [.o 73 (.load cO true 5), .c 74 kn [AB], .o 75 (.len yv), .o 76 (.mv (.k (.int .i64 0)))]) QI8)
abbrev QIE:AC:= .seq (.block 3 (.seq (.run [.o 59 (.bF mZ na 5), .o 60 (.load mb true 5), .o 9 (.alloc [(.str []),(.slice .full 0 []),(.slice .full 0 []),(.slice .full 0 []),(.slice .full 0 [])]), .op none none (.store cO qH 5)]) QIA)) (.run [.o 121 (.bin .add na (.k (.int .i64 1))), .m 57 Ps])
abbrev QII:AC:= .block 2 (.loop (.seq (.run [.o 58 (.bin .lss na oa)]) (.seq (.cond oc .skip (.exit 2)) QIE)))
abbrev QIM:AC:= .seq (.seq (.run [.o 54 (.av bg 1), .o 55 (.load mY false 1), .o 56 (.len mZ), .o 57 (.mv (.k (.int .i64 0)))]) QII) (.seq (.run [.o 122 (.build [(.int .i64 0),(.int .i64 0)] []), .op none none (.store cH Pt 2)]) .ret)
abbrev QIP:AC:= .seq (.seq (.run [.o 18 (.av bg 1), .o 19 (.load da false 1), .o 20 (.len dd), .o 21 (.mv (.k (.int .i64 0)))]) QGS) (.seq (.run [.o 32 (.load bg true 2),(.c 33 jE [fq,(.k (.str [109,97,105,110]))]), .m 31 fj, .o 34 (.ext eU 0), .o 35 (.ext eU 1), .o 6 (.alloc [(.str []),(.slice .full 0 []),(.slice .full 0 []),(.slice .full 0 []),(.slice .full 0 [])]), .op none none (.store cD fD 5), .m 7 fE]) (.seq QGZ QIM))
abbrev QIR:AC:= .seq QGE (.seq (.run [.o 3 (.mv (.k (.slice .full 0 [])))]) QIP)
abbrev QIS:AC:= .seq (.run [.o 1 (.box bE), .o 2 (.alloc [(.int .i64 0),(.int .i64 0)])]) QIR
abbrev QJ4:AC:= .seq (.run [.o 21 (.bF c6 dd 16), .o 22 (.load dh true 16), .o 9 (.alloc [(.int .i64 0),(.int .i64 0),(.slice .full 0 []),(.str []),(.str []),(.int .i64 0),(.int .i64 0),(.str []),(.slice .full 0 []),(.bool false),(.slice .full 0 []),(.slice .full 0 []),(.slice .full 0 []),(.int .i64 0),(.int .i64 0),(.bool false)]), .op none none (.store cO dF 16)]) (.seq (.run [.o 23 (.av cO 0), .o 24 (.av dG 1), .o 25 (.load dU false 1), .o 26 (.bin .eql dV (.k (.int .i64 4)))]) (.cond eo (.run [.m 27 bN, .o 28 (.av cO 0), .o 29 (.av eI 4), .o 30 (.load eZ false 1), .o 31 (.cT [(.str [])] 1 1 [(0,fp)]), .o 32 (.app 1 16 ef eU), .m 7 fq]) .skip))
abbrev QJ8:AC:= .seq (.cond dr .skip (.exit 0)) (.seq (.block 1 QJ4) (.run [.o 33 (.bin .add dd (.k (.int .i64 1))), .m 19 fj]))
abbrev QJC:AC:= .seq (.run [.o 16 (.load bH true 5), .c 17 kn [cw], .o 18 (.len c6), .o 19 (.mv (.k (.int .i64 0)))]) (.block 0 (.loop (.seq (.run [.o 20 (.bin .lss dd da)]) QJ8)))
abbrev QJH:AC:= .seq (.run [.o 11 (.load cH true 2), .m 12 bg, .c 13 jE [bT,cb], .m 10 cz, .o 14 (.ext cd 0), .o 15 (.ext cd 1), .o 5 (.alloc [(.str []),(.slice .full 0 []),(.slice .full 0 []),(.slice .full 0 []),(.slice .full 0 [])]), .op none none (.store bH cm 5), .m 6 cZ]) (.seq (.run [.o 7 (.mv (.k (.slice .full 0 [])))]) (.seq QJC (.seq (.run [.m 34 bN, .c 35 lW [fD], .m 4 fE]) .ret)))
abbrev QJI:AC:= .seq (.run [.o 2 (.box bE), .o 4 (.mv (.k (.slice .full 0 [])))]) QJH
abbrev QJX:AC:= .seq (.run [.o 26 (.bF dF dU 1), .o 27 (.load eo false 1), .m 8 ef]) (.seq (.run [.m 28 bH, .m 29 b9, .c 30 ct [eI,eZ], .o 31 (.un .not fp)]) (.cond eU (.run [.m 32 bH, .m 33 b9, .o 34 (.cT [(.str [])] 1 1 [(0,fj)]), .o 35 (.app 1 16 fq fD), .m 5 fE]) .skip))
abbrev QK1:AC:= .seq (.cond dV .skip (.exit 2)) (.seq (.block 3 QJX) (.run [.o 36 (.bin .add dU (.k (.int .i64 1))), .m 24 gq]))
abbrev QK5:AC:= .seq (.run [.m 17 bE, .m 18 bH, .m 19 cD, .o 20 (.bF da dd 1), .o 21 (.load dr false 1), .c 22 qC [c6,dh], .o 23 (.len dF), .o 24 (.mv (.k (.int .i64 0)))]) (.block 2 (.loop (.seq (.run [.o 25 (.bin .lss dU dG)]) QK1)))
abbrev QK9:AC:= .seq (.seq (.run [.m 11 cD, .m 12 bH, .o 13 (.len cb), .o 14 (.bin .lss bT cz)]) (.cond cm .skip (.exit 0))) (.seq (.block 1 QK5) (.run [.m 15 cD, .o 16 (.bin .add cZ (.k (.int .i64 1))), .m 6 cw]))
abbrev Xh:AC:= .seq (.run [.m 39 bH, .m 4 ij]) .ret
abbrev QKH:AC:= .seq (.seq (.run [.o 6 (.mv (.k (.int .i64 0)))]) (.block 0 (.loop QK9))) (.seq (.run [.m 37 bH, .c 38 gT [gE]]) Xh)
abbrev QKJ:AC:= .seq (.run [.o 4 (.mv (.k (.slice .full 0 [])))]) (.seq (.run [.m 9 bg, .o 10 (.cT [(.str [])] 1 1 [(0,cO)]), .m 5 cd]) QKH)
abbrev QKQ:AC:= .par [.o 17 (.load cH true 2), .m 18 bH, .m 19 cD, .o 20 (.bF da dd 1), .o 21 (.load dr false 1), .c 22 rN [c6,dh], .o 23 (.len dF), .o 24 (.mv (.k (.int .i64 0)))] [(0,0),(1,0),(2,0),(3,0),(4,0),(5,0),(6,0),(7,0)]
abbrev QKY:AC:= .seq (.run [.o 26 (.bF dF dU 1), .o 27 (.load eo false 1), .m 8 ef]) (.seq (.run [.m 28 bH, .m 29 b9, .c 30 jo [eI,eZ], .o 31 (.un .not fp)]) (.cond eU (.run [.m 32 bH, .m 33 b9, .o 34 (.cT [(.str [])] 1 1 [(0,fj)]), .o 35 (.app 1 16 fq fD), .m 5 fE]) .skip))
abbrev QL2:AC:= .seq (.cond dV .skip (.exit 2)) (.seq (.block 3 QKY) (.run [.o 36 (.bin .add dU (.k (.int .i64 1))), .m 24 gq]))
abbrev QL6:AC:= .seq QKQ (.block 2 (.loop (.seq (.run [.o 25 (.bin .lss dU dG)]) QL2)))
abbrev QLA:AC:= .seq (.seq (.run [.m 11 cD, .m 12 bH, .o 13 (.len cb), .o 14 (.bin .lss bT cz)]) (.cond cm .skip (.exit 0))) (.seq (.block 1 QL6) (.run [.m 15 cD, .o 16 (.bin .add cZ (.k (.int .i64 1))), .m 6 cw]))
abbrev QLG:AC:= .seq (.seq (.run [.o 6 (.mv (.k (.int .i64 0)))]) (.block 0 (.loop QLA))) (.seq (.run [.m 37 bH, .c 38 lW [gE], .m 4 iP]) .ret)
abbrev QLI:AC:= .seq (.run [.o 2 (.box bE), .o 4 (.mv (.k (.slice .full 0 [])))]) (.seq (.run [.m 9 bg, .o 10 (.cT [(.str [])] 1 1 [(0,cO)]), .m 5 cd]) QLG)
abbrev QLK:AC:= .par [.m 5 bE, .o 6 (.gK bH), .o 7 (.av cD 2), .o 8 (.load bN false 1), .m 9 bE, .o 10 (.gK cO), .o 11 (.av cd 3), .o 12 (.load bT false 1), .m 13 bg, .o 14 (.bF cb cz 1), .o 15 (.load cm false 1), .o 16 (.bin .sub cZ (.k (.int .i64 1))), .m 17 bE, .o 18 (.gK c6), .o 19 (.av da 4), .o 20 (.load dd false 1), .m 21 bg, .o 22 (.bF dr dh 1), .o 23 (.load dF false 1), .o 24 (.bin .sub dG (.k (.int .i64 1))), .o 25 (.C7 17 b9 (some cw) (some dU)), .m 4 dV] [(0,0),(1,0),(2,0),(3,0),(4,0),(5,0),(6,0),(7,0),(8,0),(9,0),(10,0),(11,0),(12,0),(13,0),(14,0),(15,0),(16,0),(17,0),(18,0),(19,0),(20,0),(21,0)]
abbrev QLM:AC:= .seq (.run [.o 4 (.mv (.k (.slice .full 0 [])))]) (.seq QLK .ret)
abbrev QLQ:AC:= .seq (.run [.o 3 (.box bg), .o 4 (.mv (.k (.int .i64 0)))]) (.seq (.run [.m 5 bE, .o 6 (.gK bH), .o 7 (.av cD 0), .o 8 (.av bN 1), .o 9 (.load b9 false 1), .o 10 (.qW 86 [cu]), .c 11 fe [cO,cd], .m 4 bT]) .ret)
abbrev QM7:AC:= .seq (.seq (.run [.o 31 (.av bH 0), .o 32 (.load eU false 1)]) (.cond fq (.run [.m 33 cu, .o 34 (.av bH 1), .o 35 (.load fD false 1), .o 36 (.cT [(.str [])] 1 1 [(0,fE)]), .o 37 (.app 1 16 fj gq), .m 3 gE]) .skip)) (.run [.m 38 cu, .o 39 (.av bH 2), .o 40 (.load ij true 4), .c 41 oQ [jS], .o 42 (.app 1 16 iP jF), .m 3 kq])
abbrev QMB:AC:= .seq (.block 1 (.seq (.run [.o 29 (.bF dV ef 6), .o 30 (.load eZ true 6), .o 5 (.alloc [(.bool false),(.str []),(.int .i64 0),(.int .i64 0),(.str []),(.slice .full 0 [])]), .op none none (.store bH fp 6)]) QM7)) (.run [.o 43 (.bin .add ef (.k (.int .i64 1))), .m 27 kr])
abbrev QMF:AC:= .block 0 (.loop (.seq (.run [.o 28 (.bin .lss ef eo)]) (.seq (.cond eI .skip (.exit 0)) QMB)))
abbrev QMJ:AC:= .seq (.seq (.run [.o 24 (.av bg 10), .o 25 (.load dU false 1), .o 26 (.len dV), .o 27 (.mv (.k (.int .i64 0)))]) QMF) (.seq (.run [.m 44 cu, .m 2 ku]) .ret)
abbrev QML:AC:= .seq (.seq (.run [.o 6 (.av bg 1), .o 7 (.load cD false 1), .o 8 (.bin .neq bN (.k (.int .i64 10))), .m 9 b9, .g 10 9 true (.av bg 3), .g 11 9 true (.load cd false 1), .g 12 9 true (.bin .neq bT (.k (.str []))), .o 13 (.pick cO cb (.k (.bool false)))]) (.cond cz (.run [.m 14 cu, .o 15 (.av bg 3), .o 16 (.load cZ false 1), .o 17 (.cT [(.str [])] 1 1 [(0,cw)]), .o 18 (.app 1 16 cm c6), .m 3 da]) .skip)) (.seq (.run [.m 19 cu, .o 20 (.av bg 5), .o 21 (.load dr true 4), .c 22 oQ [dh], .o 23 (.app 1 16 dd dF), .m 3 dG]) QMJ)
abbrev QMN:AC:= .seq (.run [.o 1 (.box bE), .o 2 (.mv (.k (.slice .full 0 [])))]) (.seq (.run [.o 3 (.mv (.k (.slice .full 0 [])))]) QML)
abbrev QMR:AC:= .seq (.run [.o 4 (.mv (.k (.bool false)))]) (.seq (.run [.m 5 bE, .m 6 bg, .c 7 gI [bH,cD], .o 8 (.bin .geq bN (.k (.int .i64 0))), .m 4 b9]) .ret)
abbrev QNB:AC:= .seq (.run [.o 41 (.bF gE ij 1), .o 42 (.load jF false 1), .m 13 kq]) (.seq (.run [.o 43 (.av cH 0), .o 44 (.load kr false 1), .m 45 cz, .c 46 jo [ku,lC]]) (.cond lD (.run [.m 47 bH, .m 48 cz, .o 49 (.cT [(.str [])] 1 1 [(0,lF)]), .o 50 (.app 1 16 lE jT), .m 5 lG]) .skip))
abbrev QNF:AC:= .seq (.cond jS .skip (.exit 4)) (.seq (.block 5 QNB) (.run [.o 51 (.bin .add ij (.k (.int .i64 1))), .m 39 k6]))
abbrev QNJ:AC:= .seq (.run [.o 35 (.av bT 0), .o 36 (.load fE true 13), .c 37 p6 [gq], .o 38 (.len gE), .o 39 (.mv (.k (.int .i64 0)))]) (.block 4 (.loop (.seq (.run [.o 40 (.bin .lss ij iP)]) QNF)))
abbrev QNN:AC:= .seq (.block 3 (.seq (.run [.o 33 (.bF eZ eU 16), .o 34 (.load fj true 16), .o 11 (.alloc [(.int .i64 0),(.int .i64 0),(.slice .full 0 []),(.str []),(.str []),(.int .i64 0),(.int .i64 0),(.str []),(.slice .full 0 []),(.bool false),(.slice .full 0 []),(.slice .full 0 []),(.slice .full 0 []),(.int .i64 0),(.int .i64 0),(.bool false)]), .op none none (.store bT fD 16)]) QNJ)) (.run [.o 52 (.bin .add eU (.k (.int .i64 1))), .m 31 mW])
abbrev QNR:AC:= .block 2 (.loop (.seq (.run [.o 32 (.bin .lss eU fp)]) (.seq (.cond fq .skip (.exit 2)) QNN)))
abbrev QNT:AC:= .seq (.run [.o 23 (.load cH true 2), .m 24 bN, .c 25 jE [dG,dU], .m 22 dV, .o 26 (.ext dF 0), .o 27 (.ext dF 1), .o 8 (.alloc [(.str []),(.slice .full 0 []),(.slice .full 0 []),(.slice .full 0 []),(.slice .full 0 [])]), .op none none (.store b9 eo 5), .m 9 ef]) (.seq (.run [.o 28 (.load b9 true 5), .c 29 kn [eI], .o 30 (.len eZ), .o 31 (.mv (.k (.int .i64 0)))]) QNR)
abbrev QNY:AC:= .seq (.cond dd .skip (.exit 0)) (.seq (.block 1 (.seq (.run [.o 20 (.bF cw da 1), .o 21 (.load dr false 1), .m 7 dh]) QNT)) (.run [.o 53 (.bin .add da (.k (.int .i64 1))), .m 18 mX]))
abbrev QO2:AC:= .seq (.run [.o 14 (.load cH true 2), .m 15 bg, .c 16 qD [cm,cZ], .o 17 (.len cw), .o 18 (.mv (.k (.int .i64 0)))]) (.block 0 (.loop (.seq (.run [.o 19 (.bin .lss da c6)]) QNY)))
abbrev QO7:AC:= .seq (.run [.o 2 (.box bE), .o 4 (.mv (.k (.slice .full 0 [])))]) (.seq (.run [.o 5 (.mv (.k (.slice .full 0 [])))]) (.seq QO2 (.seq (.run [.m 54 bH, .c 55 lW [mY], .m 4 mZ]) .ret)))
abbrev QOJ:AC:= .block 1 (.seq (.run [.m 10 b9, .m 5 cd]) (.seq (.run [.m 11 bg, .m 12 bE, .m 13 bH, .o 14 (.bF cb cz 1), .o 15 (.load cm false 1), .o 16 (.bin .eql bT cZ)]) (.cond cw (.seq (.run [.m 17 bH, .m 4 c6]) .ret) .skip)))
abbrev QOM:AC:= .seq (.cond cO .skip (.exit 0)) (.seq QOJ (.run [.o 18 (.bin .add b9 (.k (.int .i64 1))), .m 8 da]))
abbrev QOQ:AC:= .seq (.run [.m 6 bE, .o 7 (.len cD), .o 8 (.mv (.k (.int .i64 0)))]) (.block 0 (.loop (.seq (.run [.o 9 (.bin .lss b9 bN)]) QOM)))
abbrev QOS:AC:= .seq (.run [(.o 4 (.mv (.k (.int .i64 (-1)))))]) .ret
abbrev QOU:AC:= .seq (.run [.o 4 (.mv (.k (.int .i64 0)))]) (.seq QOQ QOS)
abbrev QP3:AC:= .cond cw (.seq (.run [.o 2 (.mv (.k (.bool true)))]) .ret) .skip
abbrev QP6:AC:= .block 1 (.seq (.run [.m 9 bN, .o 10 (.bF bH bN 1), .o 11 (.load cd false 1), .m 3 cO, .m 4 bT]) (.seq (.run [.m 12 bE, .m 13 cu, .o 14 (.C7 1 cb none (some cz)), .m 15 db, .c 16 ct [cm,cZ]]) QP3))
abbrev QP9:AC:= .seq (.cond b9 .skip (.exit 0)) (.seq QP6 (.run [.o 17 (.bin .add bN (.k (.int .i64 1))), .m 7 c6]))
abbrev QPD:AC:= .seq (.run [.m 5 bE, .o 6 (.len bH), .o 7 (.mv (.k (.int .i64 0)))]) (.block 0 (.loop (.seq (.run [.o 8 (.bin .lss bN cD)]) QP9)))
abbrev QPG:AC:= .seq QPD (.seq (.run [.o 2 (.mv (.k (.bool false)))]) .ret)
abbrev QPH:AC:= .seq (.run [.o 2 (.mv (.k (.bool false)))]) QPG
abbrev QPS:AC:= .seq (.block 1 (.seq (.run [.o 11 (.bF bN cO 2), .o 12 (.load bT true 2), .o 5 (.alloc [(.str []),(.bool false)]), .op none none (.store bH cb 2)]) (.run [.m 13 cu, .o 14 (.av bH 0), .o 15 (.load cm false 1), .o 16 (.cT [(.str [])] 1 1 [(0,cZ)]), .o 17 (.app 1 16 cz cw), .m 3 c6]))) (.run [.o 18 (.bin .add cO (.k (.int .i64 1))), .m 9 da])
abbrev QPW:AC:= .block 0 (.loop (.seq (.run [.o 10 (.bin .lss cO b9)]) (.seq (.cond cd .skip (.exit 0)) QPS)))
abbrev QQ0:AC:= .seq (.seq (.run [.o 6 (.av bg 1), .o 7 (.load cD false 1), .o 8 (.len bN), .o 9 (.mv (.k (.int .i64 0)))]) QPW) (.seq (.run [.m 19 cu, .o 20 (.av bg 2), .o 21 (.load dr false 1), .o 22 (.app 1 16 dd dh), .m 2 dF]) .ret)
abbrev QQ2:AC:= .seq (.run [.o 1 (.box bE), .o 2 (.mv (.k (.slice .full 0 [])))]) (.seq (.run [.o 3 (.mv (.k (.slice .full 0 [])))]) QQ0)
abbrev QQ6:AC:= .seq (.run [.o 4 (.mv (.k (.bool false)))]) (.seq (.run [.m 5 bE, .m 6 bg, .c 7 ji [bH,cD], .o 8 (.bin .geq bN (.k (.int .i64 0))), .m 4 b9]) .ret)
abbrev QQA:AC:= .seq (.run [.o 3 (.mv (.k (.bool false)))]) (.seq (.run [.o 4 (.av bg 0), .o 5 (.load db false 1), .m 6 bE, .c 7 ct [bH,cD], .m 3 bN]) .ret)
abbrev QQJ:AC:= .cond dF (.seq (.run [.o 8 (.mv (.k (.bool false)))]) .ret) .skip
abbrev QQL:AC:= .seq (.run [.o 16 (.bF cb cm 1), .o 17 (.load cw false 1), .m 10 c6]) (.seq (.run [.o 18 (.load db true 2), .o 19 (.load bH true 5), .m 20 cd, .c 21 rP [da,dd,dr], .o 22 (.bin .eql dh (.k (.int .i64 0)))]) QQJ)
abbrev QQP:AC:= .seq (.cond cZ .skip (.exit 0)) (.seq (.block 1 QQL) (.run [.o 23 (.bin .add cm (.k (.int .i64 1))), .m 14 dG]))
abbrev QQT:AC:= .seq (.run [.o 11 (.load bN true 13), .c 12 oK [bT], .o 13 (.len cb), .o 14 (.mv (.k (.int .i64 0)))]) (.block 0 (.loop (.seq (.run [.o 15 (.bin .lss cm cz)]) QQP)))
abbrev QQW:AC:= .seq QQT (.seq (.run [.o 24 (.av bN 1), .o 25 (.load dU false 1), .o 26 (.bin .neq dV (.k (.int .i64 4))), .m 27 eo, .g 28 27 false (.av bN 4), .g 29 27 false (.load eI false 1), .g 30 27 false (.bin .neq eZ (.k (.str [109,97,105,110]))), .g 31 27 false (.mv fp), .g 32 31 true (.mv cH), .g 33 31 true (.av bN 4), .g 34 31 true (.load fj false 1), .d 35 31 true ct [fq,fD], .g 36 27 false (.pick eU fE (.k (.bool false))), .o 37 (.pick ef (.k (.bool true)) gq), .m 8 gE]) .ret)
abbrev QQX:AC:= .seq (.run [.o 4 (.box bE), .o 5 (.box bg), .o 7 (.box cu), .o 8 (.mv (.k (.bool false)))]) QQW
abbrev QR3:AC:= .run [.m 23 db, .m 24 bE, .m 25 bT, .o 26 (.bF dU dV 13), .o 27 (.load eo true 13), .m 28 bg, .m 29 cH, .m 30 cu, .o 31 (.build [(.int .i64 0),(.int .i64 0),(.slice .full 0 []),(.str []),(.str []),(.int .i64 0),(.int .i64 0),(.str []),(.slice .full 0 []),(.bool false),(.slice .full 0 []),(.slice .full 0 []),(.slice .full 0 []),(.int .i64 0),(.int .i64 0),(.bool false)] [(0,(13,ef)),(13,(1,eI)),(14,(1,eZ)),(15,(1,fp))]), .o 32 (.cT [(.int .i64 0),(.int .i64 0),(.slice .full 0 []),(.str []),(.str []),(.int .i64 0),(.int .i64 0),(.str []),(.slice .full 0 []),(.bool false),(.slice .full 0 []),(.slice .full 0 []),(.slice .full 0 []),(.int .i64 0),(.int .i64 0),(.bool false)] 16 1 [(0,eU)]), .o 33 (.app 16 232 dG fq), .m 4 fj]
abbrev QR5:AC:= .par [.m 36 bE, .m 37 bT, .o 38 (.bF gq gE 13), .o 39 (.av iP 11), .o 40 (.load ij false 1), .m 41 bg, .o 42 (.bin .add jF (.k (.int .i64 1))), .m 43 bE, .m 44 bT, .o 45 (.bF kr ku 13), .o 46 (.av lC 0), .o 47 (.load lD false 1), .m 48 db, .c 49 ko [jS,kq,lE,(.k (.bool false)),lF], .m 4 jT] [(0,0),(1,0),(2,0),(3,0),(4,0),(5,0),(6,0),(7,0),(8,0),(9,0),(10,0),(11,0),(12,0),(13,0),(14,0)]
abbrev QR6:AC:= .par [.m 50 bE, .m 51 bT, .o 52 (.bF lG k6 13), .o 53 (.av mW 12), .o 54 (.load mX false 1), .m 55 bg, .o 56 (.bin .add mZ (.k (.int .i64 1))), .m 57 bE, .m 58 bT, .o 59 (.bF na oc 13), .o 60 (.av mb 0), .o 61 (.load qH false 1), .m 62 db, .c 63 ko [mY,oa,rV,(.k (.bool true)),rW], .m 4 qI] [(0,0),(1,0),(2,0),(3,0),(4,0),(5,0),(6,0),(7,0),(8,0),(9,0),(10,0),(11,0),(12,0),(13,0),(14,0)]
abbrev QRA:AC:= .seq QR3 (.seq (.run [.m 34 bg, .o 35 (.bin .leq fD (.k (.int .i64 12)))]) (.cond fE (.seq QR5 QR6) .skip))
abbrev QRE:AC:= .seq (.seq (.run [.m 12 bT, .m 13 bE, .o 14 (.len cz), .o 15 (.bin .lss cb cm), .m 16 cZ, .g 17 16 true (.mv db), .g 18 16 true (.len c6), .g 19 16 true (.bin .leq da (.k (.int .i64 200))), .o 20 (.pick cw dd (.k (.bool false)))]) (.cond dr .skip (.exit 0))) (.seq (.block 1 QRA) (.run [.m 21 bT, .o 22 (.bin .add dh (.k (.int .i64 1))), .m 11 dF]))
abbrev QRK:AC:= .seq (.seq (.run [.o 11 (.mv (.k (.int .i64 0)))]) (.block 0 (.loop QRE))) (.seq (.run [.m 64 db, .m 10 qJ]) .ret)
abbrev QRL:AC:= .seq (.run [.o 10 (.mv (.k (.slice .full 0 [])))]) QRK
abbrev QRQ:AC:= .cond bH (.seq (.run [.o 2 (.mv (.k (.slice .full 0 [])))]) .ret) .skip
abbrev QRU:AC:= .seq (.seq (.run [.o 3 (.load bg true 4), .c 4 kY [cu], .o 5 (.un .not db)]) QRQ) (.seq (.run [.o 6 (.load bg true 4),(.c 7 iH [cD,(.k (.slice .full 0 []))]), .m 2 bN]) .ret)
abbrev QRV:AC:= .seq (.run [.o 1 (.box bE), .o 2 (.mv (.k (.slice .full 0 [])))]) QRU
abbrev QRZ:AC:= .seq (.run [(.o 9 (.build [(.int .i64 0),(.int .i64 0)] [(0,(1,(.k (.int .i64 1))))])), .op none none (.store cH cO 2)]) .ret
abbrev QS8:AC:= .seq (.run [.o 31 (.av db 0), .o 32 (.av eU 0), .o 33 (.load fq false 1),(.o 34 (.build [(.int .i64 0),(.int .i64 0)] [(0,(1,(.k (.int .i64 6)))),(1,(1,fj))])), .op none none (.store cH fD 2)]) .ret
abbrev QSB:AC:= .seq (.run [.o 18 (.bF cm cw 17), .o 19 (.load da true 17), .o 4 (.alloc [(.int .i64 0),(.int .i64 0),(.slice .full 0 []),(.str []),(.str []),(.int .i64 0),(.int .i64 0),(.str []),(.slice .full 0 []),(.bool false),(.slice .full 0 []),(.slice .full 0 []),(.slice .full 0 []),(.int .i64 0),(.int .i64 0),(.int .i64 0),(.int .i64 0)]), .op none none (.store db dd 17)]) (.seq (.run [.o 20 (.av db 0), .o 21 (.av dr 1), .o 22 (.load dh false 1), .o 23 (.bin .eql dF (.k (.int .i64 4))), .m 24 dG, .g 25 24 true (.load bg true 2), .g 26 24 true (.av db 0), .g 27 24 true (.load eo true 13), .d 28 24 true oR [dV,ef], .g 29 24 true (.un .not eI), .o 30 (.pick dU eZ (.k (.bool false)))]) (.cond fp QS8 .skip))
abbrev QSF:AC:= .seq (.cond c6 .skip (.exit 0)) (.seq (.block 1 QSB) (.run [.o 35 (.bin .add cw (.k (.int .i64 1))), .m 16 fE]))
abbrev QSJ:AC:= .seq (.run [.o 10 (.load bg true 2), .c 11 lA [cd], .o 12 (.gK bT), .o 13 (.av cb 2), .o 14 (.load cz false 1), .o 15 (.len cm), .o 16 (.mv (.k (.int .i64 0)))]) (.block 0 (.loop (.seq (.run [.o 17 (.bin .lss cw cZ)]) QSF)))
abbrev QSN:AC:= .seq (.seq (.run [.o 5 (.load bg true 2), .c 6 lU [bH], .o 7 (.tQ cD 0 false 1), .o 8 (.bin .neq bN (.k (.int .i64 0)))]) (.cond b9 QRZ .skip)) (.seq QSJ (.seq (.run [.o 36 (.build [(.int .i64 0),(.int .i64 0)] []), .op none none (.store cH gq 2)]) .ret))
abbrev QSO:AC:= .seq (.run [.o 1 (.box bE), .o 2 (.alloc [(.int .i64 0),(.int .i64 0)])]) QSN
abbrev QT1:AC:= .cond fD (.seq (.run [.o 4 (.mv (.k (.bool false)))]) .ret) .skip
abbrev QT4:AC:= .seq (.seq (.run [.m 18 bH, .o 19 (.av bN 1), .o 20 (.load dd false 1), .c 21 ct [da,dr], .m 22 dh, .g 23 22 false (.av bN 1), .g 24 22 false (.load dG false 1), .g 25 22 false (.av cH 3), .g 26 22 false (.load dV false 1), .g 27 22 false (.bin .eql dU eo), .o 28 (.pick dF (.k (.bool true)) ef), .m 29 eI, .g 30 29 false (.mv bg), .g 31 29 false (.av bN 1), .g 32 29 false (.load eU false 1), .d 33 29 false ct [fp,fq], .o 34 (.pick eZ (.k (.bool true)) fj)]) QT1) (.run [.m 35 bH, .o 36 (.av bN 1), .o 37 (.load gq false 1), .o 38 (.cT [(.str [])] 1 1 [(0,gE)]), .o 39 (.app 1 16 fE iP), .m 5 ij])
abbrev QT7:AC:= .block 1 (.seq (.run [.o 13 (.bF cO bT 6), .o 14 (.load cz true 6), .o 7 (.alloc [(.bool false),(.str []),(.int .i64 0),(.int .i64 0),(.str []),(.slice .full 0 [])]), .op none none (.store bN cm 6)]) (.seq (.seq (.run [.o 15 (.av bN 0), .o 16 (.load cZ false 1), .o 17 (.un .not cw)]) (.cond c6 (.exit 1) .skip)) QT4))
abbrev QTA:AC:= .seq (.cond cb .skip (.exit 0)) (.seq QT7 (.run [.o 40 (.bin .add bT (.k (.int .i64 1))), .m 11 jS]))
abbrev QTE:AC:= .seq (.run [.o 8 (.av cH 10), .o 9 (.load b9 false 1), .o 10 (.len cO), .o 11 (.mv (.k (.int .i64 0)))]) (.block 0 (.loop (.seq (.run [.o 12 (.bin .lss bT cd)]) QTA)))
abbrev QTH:AC:= .seq QTE (.seq (.run [.o 4 (.mv (.k (.bool true)))]) .ret)
abbrev QTJ:AC:= .seq (.run [.o 2 (.box bE), .o 4 (.mv (.k (.bool false)))]) (.seq (.run [.o 5 (.mv (.k (.slice .full 0 [])))]) QTH)
abbrev QTP:AC:= .seq (.run [.o 3 (.load bg true 2), .c 4 rM [cu], .o 5 (.tQ db 0 false 1), .o 6 (.bin .neq bH (.k (.int .i64 0)))]) (.cond cD (.seq (.run [.c 7 fU [(.k (.int .i64 1)),(.k (.int .i64 0))], .op none none (.store cH bN 2)]) .ret) .skip)
abbrev QTT:AC:= .seq (.run [.o 1 (.box bE), .o 2 (.alloc [(.int .i64 0),(.int .i64 0)])]) (.seq QTP (.seq (.run [.o 8 (.load bg true 2), .c 9 rQ [b9], .op none none (.store cH cO 2)]) .ret))
abbrev QTX:AC:= .seq (.run [.o 4 (.alloc [(.int .i64 0),(.int .i64 0)])]) (.seq (.run [.m 5 bE, .m 6 bg, .o 7 (.build [(.int .i64 0),(.int .i64 0)] [(0,(1,bH)),(1,(1,cD))]), .op none none (.store db bN 2)]) .ret)
abbrev QU7:AC:= .seq (.run [.o 12 (.av db 0), .o 13 (.av cb 1), .o 14 (.load cz false 1), .o 15 (.bin .eql cm (.k (.int .i64 4))), .m 16 cZ, .g 17 16 true (.load bg true 2), .g 18 16 true (.av db 0), .g 19 16 true (.load da true 13), .d 20 16 true oO [c6,dd], .g 21 16 true (.un .not dr), .o 22 (.pick cw dh (.k (.bool false)))]) (.cond dF (.seq (.run [.o 23 (.av db 0), .o 24 (.av dG 0), .o 25 (.load dU false 1), .c 26 fU [(.k (.int .i64 8)),dV], .op none none (.store cH eo 2)]) .ret) .skip)
abbrev QUB:AC:= .seq (.block 1 (.seq (.run [.o 10 (.bF cD b9 16), .o 11 (.load cd true 16), .o 4 (.alloc [(.int .i64 0),(.int .i64 0),(.slice .full 0 []),(.str []),(.str []),(.int .i64 0),(.int .i64 0),(.str []),(.slice .full 0 []),(.bool false),(.slice .full 0 []),(.slice .full 0 []),(.slice .full 0 []),(.int .i64 0),(.int .i64 0),(.bool false)]), .op none none (.store db bT 16)]) QU7)) (.run [.o 27 (.bin .add b9 (.k (.int .i64 1))), .m 8 ef])
abbrev QUF:AC:= .block 0 (.loop (.seq (.run [.o 9 (.bin .lss b9 bN)]) (.seq (.cond cO .skip (.exit 0)) QUB)))
abbrev QUJ:AC:= .seq (.seq (.run [.o 5 (.load bg true 2), .c 6 nu [bH], .o 7 (.len cD), .o 8 (.mv (.k (.int .i64 0)))]) QUF) (.seq (.run [.o 28 (.build [(.int .i64 0),(.int .i64 0)] []), .op none none (.store cH eI 2)]) .ret)
abbrev QUK:AC:= .seq (.run [.o 1 (.box bE), .o 2 (.alloc [(.int .i64 0),(.int .i64 0)])]) QUJ
abbrev QUT:AC:= .cond cz (.seq (.run [.o 2 (.mv (.k (.bool false)))]) .ret) .skip
abbrev QUY:AC:= .seq (.block 1 (.seq (.run [.o 9 (.bF bH bN 1), .o 10 (.load cO false 1), .m 4 cd]) (.seq (.run [.m 11 db, .c 12 lB [bT], .o 13 (.un .not cb)]) QUT))) (.run [.o 14 (.bin .add bN (.k (.int .i64 1))), .m 7 cm])
abbrev QV2:AC:= .block 0 (.loop (.seq (.run [.o 8 (.bin .lss bN cD)]) (.seq (.cond b9 .skip (.exit 0)) QUY)))
abbrev QV6:AC:= .seq (.seq (.run [.m 5 bE, .o 6 (.len bH), .o 7 (.mv (.k (.int .i64 0)))]) QV2) (.seq (.run [.o 2 (.mv (.k (.bool true)))]) .ret)
abbrev QV7:AC:= .seq (.run [.o 2 (.mv (.k (.bool false)))]) QV6
abbrev QVC:AC:= .cond cw (.seq (.run [.o 2 (.mv (.k (.bool false)))]) .ret) .skip
abbrev QVG:AC:= .seq (.seq (.run [.m 3 bE, .o 4 (.py cu), .o 5 (.bin .lss db (.k (.int .i64 1))), .m 6 bH, .g 7 6 false (.mv bE), .g 8 6 false (.py bN), .g 9 6 false (.bin .gtr b9 (.k (.int .i64 8))), .o 10 (.pick cD (.k (.bool true)) cO), .m 11 cd, .g 12 11 false (.mv bE), .g 13 11 false (.rn cb (.k (.int .i64 0))), .d 14 11 false oS [cz], .g 15 11 false (.un .not cm), .o 16 (.pick bT (.k (.bool true)) cZ)]) QVC) (.seq (.run [.m 17 bE, .c 18 wH [c6,(.k (.int .i64 0))], .m 19 bE, .o 20 (.py dd), .o 21 (.bin .eql da dr), .m 22 dh, .g 23 22 true (.mv bE), .d 24 22 true uX [dG], .g 25 22 true (.un .not dU), .o 26 (.pick dF dV (.k (.bool false))), .m 2 eo]) .ret)
abbrev QVH:AC:= .seq (.run [.o 2 (.mv (.k (.bool false)))]) QVG
abbrev QVM:AC:= .cond cZ (.seq (.run [.o 6 (.mv (.k (.bool false)))]) .ret) .skip
abbrev QVT:AC:= .par [.m 29 bE, .o 30 (.gK eZ), .o 31 (.av fp 0), .o 32 (.load eU false 1), .o 33 (.bin .gtr fq (.k (.int .i64 200))), .m 34 fj, .g 35 34 false (.av b9 0), .g 36 34 false (.load fE false 1), .g 37 34 false (.mv bE), .g 38 34 false (.gK gE), .g 39 34 false (.av iP 0), .g 40 34 false (.load ij false 1), .g 41 34 false (.bin .neq gq jS), .o 42 (.pick fD (.k (.bool true)) jF), .m 43 kq, .g 44 43 false (.av b9 2), .g 45 43 false (.load ku false 1), .d 46 43 false kW [lC], .g 47 43 false (.un .not lD), .o 48 (.pick kr (.k (.bool true)) lE), .m 49 lF, .g 50 49 false (.load b9 true 13), .d 51 49 false qF [lG], .g 52 49 false (.un .not k6), .o 53 (.pick jT (.k (.bool true)) mW)] [(0,0),(1,0),(2,0),(3,0),(4,0),(5,0),(6,0),(7,0),(8,0),(9,0),(10,0),(11,0),(12,0),(13,0),(14,0),(15,0),(16,0),(17,0),(18,0),(19,0),(20,0),(21,0),(22,0),(23,0),(24,0)]
abbrev QVW:AC:= .cond mX (.seq (.run [.o 6 (.mv (.k (.bool false)))]) .ret) .skip
abbrev QW1:AC:= .cond wL (.seq (.run [.o 6 (.mv (.k (.bool false)))]) .ret) .skip
abbrev QW3:AC:= .seq (.seq QVT QVW) (.seq (.run [.m 54 bE, .o 55 (.av b9 11), .o 56 (.load mZ false 1), .m 57 cH, .o 58 (.bin .add na (.k (.int .i64 1))), .c 59 iO [mY,oa,oc], .o 60 (.un .not mb), .m 61 qH, .g 62 61 false (.mv bE), .g 63 61 false (.av b9 12), .g 64 61 false (.load qI false 1), .g 65 61 false (.mv cH), .g 66 61 false (.bin .add u5 (.k (.int .i64 1))), .d 67 61 false iO [rW,qJ,wK], .g 68 61 false (.un .not u6), .o 69 (.pick rV (.k (.bool true)) u7)]) QW1)
abbrev QW5:AC:= .seq (.run [.o 20 (.bF cw da 13), .o 21 (.load dr true 13), .o 8 (.alloc [(.int .i64 0),(.int .i64 0),(.slice .full 0 []),(.str []),(.str []),(.int .i64 0),(.int .i64 0),(.str []),(.slice .full 0 []),(.bool false),(.slice .full 0 []),(.slice .full 0 []),(.slice .full 0 [])]), .op none none (.store b9 dh 13)]) (.seq (.run [.m 22 bE, .o 23 (.gK dF), .o 24 (.av dG 0), .o 25 (.load dU false 1), .o 26 (.bin .add dV (.k (.int .i64 1))), .o 27 (.gK dF), .o 28 (.av ef 0), .op none none (.store eI eo 1)]) QW3)
abbrev QW9:AC:= .seq (.cond dd .skip (.exit 0)) (.seq (.block 1 QW5) (.run [.o 70 (.bin .add da (.k (.int .i64 1))), .m 18 wM]))
abbrev QWD:AC:= .seq (.run [.m 16 bg, .o 17 (.len cw), .o 18 (.mv (.k (.int .i64 0)))]) (.block 0 (.loop (.seq (.run [.o 19 (.bin .lss da c6)]) QW9)))
abbrev QWG:AC:= .seq QWD (.seq (.run [.o 6 (.mv (.k (.bool true)))]) .ret)
abbrev QWH:AC:= .seq (.seq (.run [.m 9 cH, .o 10 (.bin .gtr cO (.k (.int .i64 12))), .m 11 cd, .g 12 11 true (.mv bg), .g 13 11 true (.len cb), .g 14 11 true (.bin .gtr cz (.k (.int .i64 0))), .o 15 (.pick bT cm (.k (.bool false)))]) QVM) QWG
abbrev QWI:AC:= .seq (.run [.o 6 (.mv (.k (.bool false)))]) QWH
abbrev QWV:AC:= .seq (.run [.m 13 cu, .o 14 (.load bH true 5), .c 15 kn [cm], .o 16 (.app 16 232 cz cZ), .m 3 cw]) (.seq (.run [.m 17 cu, .o 18 (.len c6), .o 19 (.bin .gtr da (.k (.int .i64 200)))]) (.cond dd (.seq (.run [.m 20 cu, .m 2 dr]) .ret) .skip))
abbrev QWZ:AC:= .seq (.block 1 (.seq (.run [.o 11 (.bF bN cO 5), .o 12 (.load bT true 5), .o 5 (.alloc [(.str []),(.slice .full 0 []),(.slice .full 0 []),(.slice .full 0 []),(.slice .full 0 [])]), .op none none (.store bH cb 5)]) QWV)) (.run [.o 21 (.bin .add cO (.k (.int .i64 1))), .m 9 dh])
abbrev QX3:AC:= .block 0 (.loop (.seq (.run [.o 10 (.bin .lss cO b9)]) (.seq (.cond cd .skip (.exit 0)) QWZ)))
abbrev QX7:AC:= .seq (.seq (.run [.o 6 (.av bg 1), .o 7 (.load cD false 1), .o 8 (.len bN), .o 9 (.mv (.k (.int .i64 0)))]) QX3) (.seq (.run [.m 22 cu, .m 2 dF]) .ret)
abbrev QX9:AC:= .seq (.run [.o 1 (.box bE), .o 2 (.mv (.k (.slice .full 0 [])))]) (.seq (.run [.o 3 (.mv (.k (.slice .full 0 [])))]) QX7)
abbrev QXK:AC:= .par [.o 30 (.load cd true 16), .o 31 (.av b9 0), .o 32 (.load eU false 1), .op none none (.store db fp 16), .m 5 fq, .o 6 (.mv (.k (.bool true)))] [(0,0),(3,0),(1,0),(2,1),(4,0),(5,0)]
abbrev QXR:AC:= .seq (.block 3 (.seq (.run [.o 23 (.bF dd dh 16), .o 24 (.load dG true 16), .o 10 (.alloc [(.int .i64 0),(.int .i64 0),(.slice .full 0 []),(.str []),(.str []),(.int .i64 0),(.int .i64 0),(.str []),(.slice .full 0 []),(.bool false),(.slice .full 0 []),(.slice .full 0 []),(.slice .full 0 []),(.int .i64 0),(.int .i64 0),(.bool false)]), .op none none (.store cd dU 16)]) (.seq (.run [.o 25 (.av cd 0), .o 26 (.av dV 0), .o 27 (.load eo false 1), .m 28 bg, .o 29 (.bin .eql ef eI)]) (.cond eZ (.seq QXK .ret) .skip)))) (.run [.o 33 (.bin .add dh (.k (.int .i64 1))), .m 21 fj])
abbrev QXV:AC:= .block 2 (.loop (.seq (.run [.o 22 (.bin .lss dh dr)]) (.seq (.cond dF .skip (.exit 2)) QXR)))
abbrev QXX:AC:= .seq (.run [.o 16 (.bF cb cm 5), .o 17 (.load cw true 5), .o 8 (.alloc [(.str []),(.slice .full 0 []),(.slice .full 0 []),(.slice .full 0 []),(.slice .full 0 [])]), .op none none (.store b9 c6 5)]) (.seq (.run [.o 18 (.load b9 true 5), .c 19 kn [da], .o 20 (.len dd), .o 21 (.mv (.k (.int .i64 0)))]) QXV)
abbrev QY1:AC:= .seq (.cond cZ .skip (.exit 0)) (.seq (.block 1 QXX) (.run [.o 34 (.bin .add cm (.k (.int .i64 1))), .m 14 fD]))
abbrev QY5:AC:= .seq (.run [.o 11 (.av cH 1), .o 12 (.load bT false 1), .o 13 (.len cb), .o 14 (.mv (.k (.int .i64 0)))]) (.block 0 (.loop (.seq (.run [.o 15 (.bin .lss cm cz)]) QY1)))
abbrev QY8:AC:= .seq QY5 (.seq (.run [.o 35 (.build [(.int .i64 0),(.int .i64 0),(.slice .full 0 []),(.str []),(.str []),(.int .i64 0),(.int .i64 0),(.str []),(.slice .full 0 []),(.bool false),(.slice .full 0 []),(.slice .full 0 []),(.slice .full 0 []),(.int .i64 0),(.int .i64 0),(.bool false)] []), .op none none (.store db fE 16), .o 5 (.mv (.k (.str []))), .o 6 (.mv (.k (.bool false)))]) .ret)
abbrev QY9:AC:= .seq (.run [.o 2 (.box bE), .o 4 (.alloc [(.int .i64 0),(.int .i64 0),(.slice .full 0 []),(.str []),(.str []),(.int .i64 0),(.int .i64 0),(.str []),(.slice .full 0 []),(.bool false),(.slice .full 0 []),(.slice .full 0 []),(.slice .full 0 []),(.int .i64 0),(.int .i64 0),(.bool false)]), .o 5 (.mv (.k (.str []))), .o 6 (.mv (.k (.bool false)))]) QY8
abbrev QYD:AC:= .seq (.run [.o 2 (.box bE), .o 3 (.box bg), .o 4 (.mv (.k (.bool false)))]) (.seq (.run [.o 5 (.load cH true 2), .c 6 lU [bH], .o 7 (.tQ cD 0 false 1), .o 8 (.bin .eql bN (.k (.int .i64 0))), .m 9 b9, .g 10 9 true (.load cH true 2), .g 11 9 true (.load cu true 13), .d 12 9 true oR [cd,bT], .o 13 (.pick cO cb (.k (.bool false))), .m 4 cz]) .ret)
abbrev QYI:AC:= .cond bT (.seq (.run [.o 4 (.mv (.k (.bool false)))]) .ret) .skip
abbrev QYT:AC:= .par [.o 27 (.av bN 0), .o 28 (.load ef false 1), .m 29 eI, .g 30 29 true (.mv bH), .g 31 29 true (.av bN 1), .g 32 29 true (.load eU false 1), .d 33 29 true jo [fp,fq], .g 34 29 true (.mv fj), .g 35 34 false (.load cH true 2), .g 36 34 false (.av cu 4), .g 37 34 false (.load gq false 1), .d 38 34 false pI [fE,gE], .g 39 34 false (.av bN 1), .g 40 34 false (.load ij false 1), .d 41 34 false jo [iP,jS], .g 42 29 true (.pick fD (.k (.bool true)) jF), .o 43 (.pick eZ kq (.k (.bool false)))] [(0,0),(1,0),(2,0),(3,0),(4,0),(5,0),(6,0),(7,0),(8,0),(9,0),(10,0),(11,0),(12,0),(13,1),(14,0),(15,0),(16,0)]
abbrev QYW:AC:= .cond kr (.seq (.run [.o 4 (.mv (.k (.bool false)))]) .ret) .skip
abbrev QZ2:AC:= .seq (.seq QYT QYW) (.seq (.run [.o 44 (.av bN 0), .o 45 (.load ku false 1)]) (.cond lC (.run [.m 46 bH, .o 47 (.av bN 1), .o 48 (.load lE false 1), .o 49 (.cT [(.str [])] 1 1 [(0,lF)]), .o 50 (.app 1 16 lD jT), .m 5 lG]) .skip))
abbrev QZ6:AC:= .seq (.block 1 (.seq (.run [.o 25 (.bF dh dG 6), .o 26 (.load dV true 6), .o 7 (.alloc [(.bool false),(.str []),(.int .i64 0),(.int .i64 0),(.str []),(.slice .full 0 [])]), .op none none (.store bN eo 6)]) QZ2)) (.run [.o 51 (.bin .add dG (.k (.int .i64 1))), .m 23 k6])
abbrev Xi:AC:= .seq (.run [.o 24 (.bin .lss dG dF)]) (.seq (.cond dU .skip (.exit 0)) QZ6)
abbrev Xj:AC:= .seq (.run [.o 4 (.mv (.k (.bool true)))]) .ret
abbrev QZE:AC:= .seq (.seq (.run [.o 20 (.av cu 10), .o 21 (.load dr false 1), .o 22 (.len dh), .o 23 (.mv (.k (.int .i64 0)))]) (.block 0 (.loop Xi))) Xj
abbrev QZF:AC:= .seq (.seq (.run [.o 12 (.av cu 3), .o 13 (.load cb false 1), .o 14 (.bin .neq cz (.k (.str [])))]) (.cond cm (.run [.m 15 bH, .o 16 (.av cu 3), .o 17 (.load cw false 1), .o 18 (.cT [(.str [])] 1 1 [(0,c6)]), .o 19 (.app 1 16 cZ da), .m 5 dd]) .skip)) QZE
abbrev QZH:AC:= .seq (.seq (.run [.o 8 (.load cH true 2), .o 9 (.load cu true 13), .c 10 mB [b9,cO], .o 11 (.un .not cd)]) QYI) (.seq (.run [.o 5 (.mv (.k (.slice .full 0 [])))]) QZF)
abbrev QZI:AC:= .seq (.run [.o 2 (.box bE), .o 3 (.box bg), .o 4 (.mv (.k (.bool false)))]) QZH
abbrev QZL:AC:= .seq (.run [.m 3 bE,(.o 4 (.build [(.int .i64 0),(.int .i64 0),(.str []),(.slice .full 0 [])] [(0,(1,(.k (.int .i64 1)))),(1,(1,cu))])), .op none none (.store cH db 4)]) .ret
abbrev QZM:AC:= .seq (.run [.o 2 (.alloc [(.int .i64 0),(.int .i64 0),(.str []),(.slice .full 0 [])])]) QZL
abbrev QZP:AC:= .seq (.run [.m 3 bE,(.o 4 (.build [(.int .i64 0),(.int .i64 0),(.str []),(.slice .full 0 [])] [(0,(1,(.k (.int .i64 2)))),(2,(1,cu))])), .op none none (.store cH db 4)]) .ret
abbrev QZQ:AC:= .seq (.run [.o 2 (.alloc [(.int .i64 0),(.int .i64 0),(.str []),(.slice .full 0 [])])]) QZP
abbrev QZU:AC:= .seq (.run [.o 4 (.box bg), .o 5 (.box cH), .o 6 (.alloc [(.int .i64 0),(.int .i64 0),(.str []),(.slice .full 0 [])])]) (.seq (.run [.m 7 bE, .o 8 (.load db true 4), .o 9 (.load bH true 4), .o 10 (.cT [(.int .i64 0),(.int .i64 0),(.str []),(.slice .full 0 [])] 4 2 [(0,b9),(1,cO)]), .o 11 (.build [(.int .i64 0),(.int .i64 0),(.str []),(.slice .full 0 [])] [(0,(1,bN)),(3,(1,cd))]), .op none none (.store cD bT 4)]) .ret)
abbrev Yh:AC:= .seq (.seq (.run [.m 10 bH, .o 11 (.av cH 3), .o 12 (.load bT false 1), .o 13 (.len cb), .o 14 (.bin .lss cd cz), .m 15 cm, .g 16 15 true (.mv bg), .g 17 15 true (.bin .leq cw (.k (.int .i64 20000))), .o 18 (.pick cZ c6 (.k (.bool false)))]) (.cond da .skip (.exit 0))) (.seq (.block 1 (.run [.o 21 (.av cH 3), .o 22 (.load dh false 1), .m 23 bH, .o 24 (.bF dF dG 4), .o 25 (.load dU true 4), .m 26 bg, .c 27 iC [dV,eo], .m 1 ef])) (.run [.m 19 bH, .o 20 (.bin .add dd (.k (.int .i64 1))), .m 5 dr]))
abbrev Yi:AC:= .seq (.seq (.run [.o 5 (.mv (.k (.int .i64 0)))]) (.block 0 (.loop Yh))) (.seq (.run [.m 28 bg, .m 4 eI]) .ret)
abbrev Yj:AC:= .seq (.run [.o 2 (.box bE), .o 4 (.mv (.k (.int .i64 0)))]) (.seq (.run [.o 6 (.av cH 2), .o 7 (.load cD false 1), .m 8 bg, .c 9 fi [bN,b9], .m 1 cO]) Yi)
abbrev Yk:AC:= .seq (.run [.o 4 (.mv (.k (.bool false)))]) (.seq (.run [.m 5 bE, .m 6 bg, .c 7 fe [bH,cD], .o 8 (.bin .geq bN (.k (.int .i64 0))), .m 4 b9]) .ret)
abbrev Yl:AC:= .seq (.run [.o 2 (.box bE), .o 3 (.mv (.k (.bool false)))]) (.seq (.run [.o 4 (.av cH 0), .o 5 (.load db false 1), .o 6 (.load bg false 1), .o 7 (.bin .eql bH cD), .m 3 bN]) .ret)
abbrev Ym:AC:= .par [.m 37 bE, .m 38 bE, .o 39 (.gK iP), .o 40 (.av ij 2), .o 41 (.load jS false 1), .o 42 (.load cO true 17), .o 43 (.cT [(.int .i64 0),(.int .i64 0),(.slice .full 0 []),(.str []),(.str []),(.int .i64 0),(.int .i64 0),(.str []),(.slice .full 0 []),(.bool false),(.slice .full 0 []),(.slice .full 0 []),(.slice .full 0 []),(.int .i64 0),(.int .i64 0),(.int .i64 0),(.int .i64 0)] 17 1 [(0,kq)]), .o 44 (.app 17 240 jF kr), .o 45 (.gK gE), .o 46 (.av lC 2), .op none none (.store lD ku 1)] [(1,0),(2,0),(3,0),(4,0),(5,0),(6,0),(7,0),(0,0),(8,0),(9,0),(10,0)]
abbrev Yn:AC:= .run [.o 47 (.av bH 13), .o 48 (.load lE false 1), .m 49 b9, .o 50 (.av cO 15), .o 51 (.load lG false 1), .o 52 (.av bH 16), .o 53 (.load mW false 1), .o 54 (.build [(.int .i64 0),(.int .i64 0),(.slice .full 0 []),(.str []),(.str []),(.int .i64 0),(.int .i64 0),(.str []),(.slice .full 0 []),(.bool false),(.slice .full 0 []),(.slice .full 0 []),(.slice .full 0 []),(.int .i64 0),(.int .i64 0),(.int .i64 0),(.int .i64 0)] [(13,(1,lF)),(14,(1,jT)),(15,(1,k6)),(16,(1,mX))]), .o 10 (.alloc [(.int .i64 0),(.int .i64 0),(.slice .full 0 []),(.str []),(.str []),(.int .i64 0),(.int .i64 0),(.str []),(.slice .full 0 []),(.bool false),(.slice .full 0 []),(.slice .full 0 []),(.slice .full 0 []),(.int .i64 0),(.int .i64 0),(.int .i64 0),(.int .i64 0)]), .op none none (.store cd mY 17)]
abbrev Yo:AC:= .seq (.seq (.run [.o 55 (.av bN 1), .o 56 (.load mZ false 1), .o 57 (.bin .eql oa (.k (.int .i64 6)))]) (.cond na (.run [.m 58 b9, .m 59 b9, .o 60 (.av cd 15), .op none none (.store qH oc 1), .o 61 (.av cd 16), .op none none (.store rV mb 1)]) .skip)) (.seq (.run [.m 62 bE, .o 63 (.av bN 11), .o 64 (.load qI false 1), .o 65 (.load cd true 17), .c 66 iD [rW,qJ,u5]]) (.run [.m 67 bE, .o 68 (.av bN 12), .o 69 (.load u7 false 1), .o 70 (.load cd true 17), .c 71 iD [u6,wL,wM]]))
abbrev Yp:AC:= .seq (.seq (.run [.m 27 cD, .o 28 (.bin .add ef (.k (.int .i64 1))), .m 29 bg, .o 30 (.len eZ), .o 31 (.bin .lss eI fp)]) (.cond eU (.run [.m 32 b9, .o 33 (.load bN true 13), .c 34 kp [fj], .o 35 (.bin .add fq fD), .o 36 (.av cO 15), .op none none (.store gq fE 1)]) .skip)) (.seq Ym (.seq Yn Yo))
abbrev Yq:AC:= .seq (.run [.m 15 cz, .o 16 (.bF bT cz 13), .o 17 (.load cw true 13), .o 7 (.alloc [(.int .i64 0),(.int .i64 0),(.slice .full 0 []),(.str []),(.str []),(.int .i64 0),(.int .i64 0),(.str []),(.slice .full 0 []),(.bool false),(.slice .full 0 []),(.slice .full 0 []),(.slice .full 0 [])]), .m 6 cZ, .op none none (.store bN c6 13)]) (.seq (.run [.m 18 bE, .o 19 (.gK da), .o 20 (.av dd 2), .o 21 (.load dr false 1), .o 22 (.len dh), .o 23 (.bin .add dF (.k (.int .i64 1))), .m 8 dG]) (.seq (.run [.o 24 (.load bH true 17), .o 9 (.alloc [(.int .i64 0),(.int .i64 0),(.slice .full 0 []),(.str []),(.str []),(.int .i64 0),(.int .i64 0),(.str []),(.slice .full 0 []),(.bool false),(.slice .full 0 []),(.slice .full 0 []),(.slice .full 0 []),(.int .i64 0),(.int .i64 0),(.int .i64 0),(.int .i64 0)]), .op none none (.store cO dU 17)]) (.seq (.run [.o 25 (.load bN true 13), .o 26 (.av cO 0), .op none none (.store eo dV 13)]) Yp)))
abbrev Yr:AC:= .seq (.cond cm .skip (.exit 0)) (.seq (.block 1 Yq) (.run [.o 72 (.bin .add cz (.k (.int .i64 1))), .m 13 yu]))
abbrev Ys:AC:= .seq (.run [.m 11 bg, .o 12 (.len bT), .o 13 (.mv (.k (.int .i64 0)))]) (.block 0 (.loop (.seq (.run [.o 14 (.bin .lss cz cb)]) Yr)))
abbrev Yt:AC:= .seq (.run [.o 5 (.box cH)]) Ys
abbrev Yu:AC:= .cond dU (.seq (.run [.o 2 (.mv (.k (.bool false)))]) .ret) .skip
abbrev Yv:AC:= .run [.o 32 (.av db 0), .o 33 (.load fq false 1), .c 34 gP [fj], .o 35 (.un .not fD), .m 36 fE, .g 37 36 false (.av db 1), .g 38 36 false (.load gE false 1), .g 39 36 false (.len iP), .g 40 36 false (.bin .gtr ij (.k (.int .i64 8))), .o 41 (.pick gq (.k (.bool true)) jS), .m 42 jF, .g 43 42 false (.av db 2), .g 44 42 false (.load kr false 1), .g 45 42 false (.len ku), .g 46 42 false (.bin .gtr lC (.k (.int .i64 16))), .o 47 (.pick kq (.k (.bool true)) lD), .m 48 lE, .g 49 48 false (.av db 2), .g 50 48 false (.load jT false 1), .d 51 48 false kZ [lG], .g 52 48 false (.un .not k6), .o 53 (.pick lF (.k (.bool true)) mW), .m 54 mX, .g 55 54 false (.av db 4), .g 56 54 false (.load mZ false 1), .d 57 54 false kZ [oa], .g 58 54 false (.un .not na), .o 59 (.pick mY (.k (.bool true)) oc)]
abbrev Yw:AC:= .cond mb (.seq (.run [.o 2 (.mv (.k (.bool false)))]) .ret) .skip
abbrev Yx:AC:= .cond wM (.seq (.run [.o 2 (.mv (.k (.bool false)))]) .ret) .skip
abbrev Yy:AC:= .seq (.block 3 (.seq (.run [.o 65 (.bF rV qI 2), .o 66 (.load u5 true 2), .o 6 (.alloc [(.str []),(.bool false)]), .op none none (.store cD wK 2)]) (.seq (.run [.o 67 (.av cD 0), .o 68 (.load u6 false 1), .c 69 gP [u7], .o 70 (.un .not wL)]) Yx))) (.run [.o 71 (.bin .add qI (.k (.int .i64 1))), .m 63 AA])
abbrev Yz:AC:= .block 2 (.loop (.seq (.run [.o 64 (.bin .lss qI rW)]) (.seq (.cond qJ .skip (.exit 2)) Yy)))
abbrev YA:AC:= .seq (.seq Yv Yw) (.seq (.run [.o 60 (.av db 1), .o 61 (.load qH false 1), .o 62 (.len rV), .o 63 (.mv (.k (.int .i64 0)))]) Yz)
abbrev YB:AC:= .seq (.block 1 (.seq (.run [.o 30 (.bF eo eI 5), .o 31 (.load fp true 5), .o 4 (.alloc [(.str []),(.slice .full 0 []),(.slice .full 0 []),(.slice .full 0 []),(.slice .full 0 [])]), .op none none (.store db eU 5)]) YA)) (.run [.o 72 (.bin .add eI (.k (.int .i64 1))), .m 28 yu])
abbrev YC:AC:= .block 0 (.loop (.seq (.run [.o 29 (.bin .lss eI ef)]) (.seq (.cond eZ .skip (.exit 0)) YB)))
abbrev YD:AC:= .cond AG (.seq (.run [.o 2 (.mv (.k (.bool false)))]) .ret) .skip
abbrev YE:AC:= .run [.m 83 bN, .m 84 b9, .o 85 (.bF D1 yx 16), .o 86 (.av D2 0), .o 87 (.av D3 0), .o 88 (.load D4 false 1), .m 89 b9, .o 90 (.bin .add D6 (.k (.int .i64 1))), .o 91 (.bin .neq D5 D7), .m 92 D8, .g 93 92 false (.mv bN), .g 94 92 false (.mv b9), .g 95 92 false (.bF Io Ip 16), .g 96 92 false (.av Iq 13), .g 97 92 false (.load M9 false 1), .g 98 92 false (.bin .gtr Na (.k (.int .i64 12))), .o 99 (.pick D9 (.k (.bool true)) Nb), .m 100 Nc, .g 101 100 false (.mv bN), .g 102 100 false (.mv b9), .g 103 100 false (.bF Is Iu 16), .g 104 100 false (.av Iv 0), .g 105 100 false (.load Iw true 13), .d 106 100 false uY [Ix], .g 107 100 false (.un .not Iy), .o 108 (.pick Ir (.k (.bool true)) Iz)]
abbrev YF:AC:= .cond IA (.seq (.run [.o 2 (.mv (.k (.bool false)))]) .ret) .skip
abbrev YG:AC:= .seq (.cond D0 .skip (.exit 4)) (.seq (.block 5 (.seq (.run [.m 82 yw, .m 8 AH]) (.seq YE YF))) (.run [.o 109 (.bin .add yw (.k (.int .i64 1))), .m 80 IB]))
abbrev YH:AC:= .seq (.run [.m 78 bN, .o 79 (.len wN), .o 80 (.mv (.k (.int .i64 0)))]) (.block 4 (.loop (.seq (.run [.o 81 (.bin .lss yw DZ)]) YG)))
abbrev YI:AC:= .seq YH (.seq (.run [.o 2 (.mv (.k (.bool true)))]) .ret)
abbrev YJ:AC:= .seq (.seq (.run [.m 75 bN, .o 76 (.len AE), .o 77 (.bin .gtr u9 (.k (.int .i64 200)))]) YD) YI
abbrev YK:AC:= .seq (.seq (.run [.o 25 (.av bg 1), .o 26 (.load dV false 1), .o 27 (.len eo), .o 28 (.mv (.k (.int .i64 0)))]) YC) (.seq (.run [.o 73 (.load bg true 2), .c 74 nu [AB], .m 7 yv]) YJ)
abbrev YL:AC:= .seq (.seq (.run [.o 9 (.av bg 0), .o 10 (.load cO false 1), .o 11 (.len cd), .o 12 (.bin .gtr bT (.k (.int .i64 16))), .m 13 cb, .g 14 13 false (.av bg 1), .g 15 13 false (.load cm false 1), .g 16 13 false (.len cZ), .g 17 13 false (.bin .gtr cw (.k (.int .i64 16))), .o 18 (.pick cz (.k (.bool true)) c6), .m 19 da, .g 20 19 false (.av bg 0), .g 21 19 false (.load dr false 1), .d 22 19 false kZ [dh], .g 23 19 false (.un .not dF), .o 24 (.pick dd (.k (.bool true)) dG)]) Yu) YK
abbrev YM:AC:= .seq (.run [.o 1 (.box bE), .o 2 (.mv (.k (.bool false)))]) YL
end Go.Abs

/-! Have1 -/

namespace Go.Abs
open Go.Proofs
theorem uh:Has Tryz.prog rM 123 [(2,(some (true,2)))] QIS:=⟨Tryz.f40,by kernel_rfl,by kernel_rfl⟩
theorem AJ:Has Tryz.prog rN 36 [(4,none)] QJI:=⟨Tryz.f41,by kernel_rfl,by kernel_rfl⟩
theorem CA:Has Tryz.prog tt 40 [(4,none)] QKJ:=⟨Tryz.f42,by kernel_rfl,by kernel_rfl⟩
theorem zA:Has Tryz.prog qD 39 [(4,none)] QLI:=⟨Tryz.f43,by kernel_rfl,by kernel_rfl⟩
theorem xL:Has Tryz.prog ka 26 [(4,none)] QLM:=⟨Tryz.f44,by kernel_rfl,by kernel_rfl⟩
theorem vU:Has Tryz.prog kJ 12 [(4,none)] QLQ:=⟨Tryz.f45,by kernel_rfl,by kernel_rfl⟩
theorem AL:Has Tryz.prog oK 45 [(2,none)] QMN:=⟨Tryz.f46,by kernel_rfl,by kernel_rfl⟩
theorem qK:Has Tryz.prog ct 9 [(4,none)] QMR:=⟨Tryz.f47,by kernel_rfl,by kernel_rfl⟩
theorem yy:Has Tryz.prog pI 56 [(4,none)] QO7:=⟨Tryz.f50,by kernel_rfl,by kernel_rfl⟩
theorem sk:Has Tryz.prog gI 19 [(4,none)] QOU:=⟨Tryz.f51,by kernel_rfl,by kernel_rfl⟩
theorem zB:Has Tryz.prog lV 18 [(2,none)] QPH:=⟨Tryz.f52,by kernel_rfl,by kernel_rfl⟩
theorem CC:Has Tryz.prog tu 23 [(2,none)] QQ2:=⟨Tryz.f53,by kernel_rfl,by kernel_rfl⟩
theorem oV:Has Tryz.prog fa 9 [(4,none)] QQ6:=⟨Tryz.f54,by kernel_rfl,by kernel_rfl⟩
theorem xM:Has Tryz.prog mz 8 [(3,none)] QQA:=⟨Tryz.f55,by kernel_rfl,by kernel_rfl⟩
theorem zC:Has Tryz.prog nX 38 [(8,none)] QQX:=⟨Tryz.f56,by kernel_rfl,by kernel_rfl⟩
theorem vH:Has Tryz.prog ko 65 [(10,none)] QRL:=⟨Tryz.f58,by kernel_rfl,by kernel_rfl⟩
theorem ui:Has Tryz.prog oL 8 [(2,none)] QRV:=⟨Tryz.f59,by kernel_rfl,by kernel_rfl⟩
theorem sM:Has Tryz.prog nY 37 [(2,(some (true,2)))] QSO:=⟨Tryz.f60,by kernel_rfl,by kernel_rfl⟩
theorem yz:Has Tryz.prog nr 41 [(4,none)] QTJ:=⟨Tryz.f61,by kernel_rfl,by kernel_rfl⟩
theorem uj:Has Tryz.prog oM 10 [(2,(some (true,2)))] QTT:=⟨Tryz.f62,by kernel_rfl,by kernel_rfl⟩
theorem AN:Has Tryz.prog fU 8 [(4,(some (true,2)))] QTX:=⟨Tryz.f63,by kernel_rfl,by kernel_rfl⟩
theorem xN:Has Tryz.prog oN 29 [(2,(some (true,2)))] QUK:=⟨Tryz.f64,by kernel_rfl,by kernel_rfl⟩
theorem AP:Has Tryz.prog kW 15 [(2,none)] QV7:=⟨Tryz.f65,by kernel_rfl,by kernel_rfl⟩
theorem k7:Has Tryz.prog lB 27 [(2,none)] QVH:=⟨Tryz.f66,by kernel_rfl,by kernel_rfl⟩
theorem oW:Has Tryz.prog iO 71 [(6,none)] QWI:=⟨Tryz.f67,by kernel_rfl,by kernel_rfl⟩
theorem Ed:Has Tryz.prog nu 23 [(2,none)] QX9:=⟨Tryz.f68,by kernel_rfl,by kernel_rfl⟩
theorem CD:Has Tryz.prog tv 36 [(4,(some (true,16))),(5,none),(6,none)] QY9:=⟨Tryz.f69,by kernel_rfl,by kernel_rfl⟩
theorem AQ:Has Tryz.prog rO 14 [(4,none)] QYD:=⟨Tryz.f70,by kernel_rfl,by kernel_rfl⟩
theorem uk:Has Tryz.prog oO 52 [(4,none)] QZI:=⟨Tryz.f71,by kernel_rfl,by kernel_rfl⟩
theorem Ee:Has Tryz.prog oP 5 [(2,(some (true,4)))] QZM:=⟨Tryz.f72,by kernel_rfl,by kernel_rfl⟩
theorem CF:Has Tryz.prog jq 5 [(2,(some (true,4)))] QZQ:=⟨Tryz.f73,by kernel_rfl,by kernel_rfl⟩
theorem Ef:Has Tryz.prog ra 12 [(6,(some (true,4)))] QZU:=⟨Tryz.f74,by kernel_rfl,by kernel_rfl⟩
theorem wP:Has Tryz.prog iC 29 [(4,none)] Yj:=⟨Tryz.f75,by kernel_rfl,by kernel_rfl⟩
theorem od:Has Tryz.prog fJ 9 [(4,none)] Yk:=⟨Tryz.f76,by kernel_rfl,by kernel_rfl⟩
theorem xO:Has Tryz.prog mA 8 [(3,none)] Yl:=⟨Tryz.f77,by kernel_rfl,by kernel_rfl⟩
theorem wQ:Has Tryz.prog iD 73 [] Yt:=⟨Tryz.f78,by kernel_rfl,by kernel_rfl⟩
theorem Eg:Has Tryz.prog uW 110 [(2,none)] YM:=⟨Tryz.f79,by kernel_rfl,by kernel_rfl⟩
end Go.Abs

/-! Codes2 -/

namespace Go.Abs
abbrev YN:AC:= .cond da (.seq (.run [.o 19 (.load bN true 5), .op none none (.store db dd 5), .o 5 (.mv (.k (.bool true)))]) .ret) .skip
abbrev YO:AC:= .seq (.block 1 (.seq (.run [.o 13 (.bF cO bT 5), .o 14 (.load cz true 5), .o 7 (.alloc [(.str []),(.slice .full 0 []),(.slice .full 0 []),(.slice .full 0 []),(.slice .full 0 [])]), .op none none (.store bN cm 5)]) (.seq (.run [.o 15 (.av bN 0), .o 16 (.load cZ false 1), .m 17 bg, .o 18 (.bin .eql cw c6)]) YN))) (.run [.o 20 (.bin .add bT (.k (.int .i64 1))), .m 11 dr])
abbrev YP:AC:= .block 0 (.loop (.seq (.run [.o 12 (.bin .lss bT cd)]) (.seq (.cond cb .skip (.exit 0)) YO)))
abbrev YQ:AC:= .seq (.seq (.run [.o 8 (.av cH 1), .o 9 (.load b9 false 1), .o 10 (.len cO), .o 11 (.mv (.k (.int .i64 0)))]) YP) (.seq (.run [.o 21 (.build [(.str []),(.slice .full 0 []),(.slice .full 0 []),(.slice .full 0 []),(.slice .full 0 [])] []), .op none none (.store db dh 5), .o 5 (.mv (.k (.bool false)))]) .ret)
abbrev YR:AC:= .seq (.run [.o 2 (.box bE), .o 4 (.alloc [(.str []),(.slice .full 0 []),(.slice .full 0 []),(.slice .full 0 []),(.slice .full 0 [])]), .o 5 (.mv (.k (.bool false)))]) YQ
abbrev YS:AC:= .par [.m 15 bE, .m 16 cu, .o 17 (.bF cZ cw 1), .o 18 (.load c6 false 1), .m 19 bE, .m 20 db, .o 21 (.bF dd dr 1), .o 22 (.load dh false 1), .o 23 (.bin .eql da dF)] [(0,0),(1,0),(2,0),(3,0),(4,0),(5,0),(6,0),(7,0),(8,0)]
abbrev YT:AC:= .cond dG (.seq (.run [.o 2 (.mv (.k (.bool true)))]) .ret) .skip
abbrev YU:AC:= .seq (.seq (.run [.m 10 db, .m 11 cu, .o 12 (.bin .lss cd bT)]) (.cond cb .skip (.exit 2))) (.seq (.block 3 (.seq YS YT)) (.run [.m 13 db, .o 14 (.bin .add cz (.k (.int .i64 1))), .m 4 cm]))
abbrev YV:AC:= .seq (.run [.m 9 bN, .m 3 cO]) (.seq (.run [.o 4 (.mv (.k (.int .i64 0)))]) (.block 2 (.loop YU)))
abbrev YW:AC:= .seq (.cond b9 .skip (.exit 0)) (.seq (.block 1 YV) (.run [.o 24 (.bin .add bN (.k (.int .i64 1))), .m 7 dU]))
abbrev YX:AC:= .seq (.run [.m 5 bE, .o 6 (.len bH), .o 7 (.mv (.k (.int .i64 0)))]) (.block 0 (.loop (.seq (.run [.o 8 (.bin .lss bN cD)]) YW)))
abbrev YY:AC:= .seq YX (.seq (.run [.o 2 (.mv (.k (.bool false)))]) .ret)
abbrev YZ:AC:= .seq (.run [.o 2 (.mv (.k (.bool false)))]) YY
abbrev Y0:AC:= .seq (.block 1 (.seq (.run [.o 11 (.bF bN cO 2), .o 12 (.load bT true 2), .o 5 (.alloc [(.str []),(.bool false)]), .op none none (.store bH cb 2)]) (.run [.m 13 cu, .o 14 (.av bH 0), .o 15 (.load cm false 1), .o 16 (.cT [(.str [])] 1 1 [(0,cZ)]), .o 17 (.app 1 16 cz cw), .m 3 c6]))) (.run [.o 18 (.bin .add cO (.k (.int .i64 1))), .m 9 da])
abbrev Y1:AC:= .block 0 (.loop (.seq (.run [.o 10 (.bin .lss cO b9)]) (.seq (.cond cd .skip (.exit 0)) Y0)))
abbrev Y2:AC:= .seq (.seq (.run [.o 6 (.av bg 1), .o 7 (.load cD false 1), .o 8 (.len bN), .o 9 (.mv (.k (.int .i64 0)))]) Y1) (.seq (.run [.m 19 cu, .m 2 dd]) .ret)
abbrev Y3:AC:= .seq (.run [.o 1 (.box bE), .o 2 (.mv (.k (.slice .full 0 [])))]) (.seq (.run [.o 3 (.mv (.k (.slice .full 0 [])))]) Y2)
abbrev Y4:AC:= .cond dG (.seq (.run [.o 6 (.mv (.k (.int .i64 3)))]) .ret) .skip
abbrev Y5:AC:= .cond ef (.seq (.run [.o 6 (.mv (.k (.int .i64 2)))]) .ret) .skip
abbrev Y6:AC:= .seq (.seq (.run [.o 16 (.av b9 0), .o 17 (.load cw false 1), .m 18 cH, .o 19 (.bin .eql c6 da), .m 20 dd, .g 21 20 true (.av b9 1), .g 22 20 true (.load dh false 1), .o 23 (.pick dr dF (.k (.bool false)))]) Y4) (.seq (.run [.o 24 (.av b9 0), .o 25 (.load dU false 1), .m 26 cH, .o 27 (.bin .eql dV eo)]) Y5)
abbrev Y7:AC:= .seq (.block 1 (.seq (.run [.o 14 (.bF cd cb 2), .o 15 (.load cm true 2), .o 8 (.alloc [(.str []),(.bool false)]), .op none none (.store b9 cZ 2)]) Y6)) (.run [.o 28 (.bin .add cb (.k (.int .i64 1))), .m 12 eI])
abbrev Y8:AC:= .block 0 (.loop (.seq (.run [.o 13 (.bin .lss cb bT)]) (.seq (.cond cz .skip (.exit 0)) Y7)))
abbrev Y9:AC:= .cond fD (.seq (.run [.o 6 (.mv (.k (.int .i64 1)))]) .ret) .skip
abbrev Za:AC:= .cond eZ (.seq (.run [.o 6 (.mv (.k (.int .i64 4)))]) .ret) (.seq (.run [.o 35 (.av cu 0), .o 36 (.load fE false 1), .m 37 cH, .c 38 jo [gq,gE], .m 34 iP]) Y9)
abbrev Zb:AC:= .seq (.block 2 (.seq (.run [.o 30 (.av db 2), .o 31 (.load fp false 1), .m 32 cH, .c 33 jo [eU,fq], .m 29 fj]) Za)) (.seq (.run [.o 6 (.mv (.k (.int .i64 0)))]) .ret)
abbrev Zc:AC:= .seq (.seq (.run [.o 9 (.av db 1), .o 10 (.load cO false 1), .o 11 (.len cd), .o 12 (.mv (.k (.int .i64 0)))]) Y8) Zb
abbrev Zd:AC:= .seq (.run [.o 3 (.box bE), .o 4 (.box bg), .o 6 (.mv (.k (.int .i64 0)))]) Zc
abbrev Ze:AC:= .seq (.run [.m 18 cu, .m 19 bN, .c 20 jo [da,dd], .o 21 (.un .not dr), .m 22 dh, .g 23 22 true (.mv bH), .g 24 22 true (.un .not dG), .g 25 22 true (.mv dU), .g 26 25 false (.mv bN), .g 27 25 false (.mv db), .g 28 25 false (.bin .lss eo ef), .g 29 22 true (.pick dV (.k (.bool true)) eI), .o 30 (.pick dF eZ (.k (.bool false)))]) (.cond fp (.run [.m 31 bN, .m 4 eU, .o 5 (.mv (.k (.bool true)))]) .skip)
abbrev Zf:AC:= .seq (.cond cZ .skip (.exit 2)) (.seq (.block 3 (.seq (.run [.o 16 (.bF cb cm 1), .o 17 (.load cw false 1), .m 7 c6]) Ze)) (.run [.o 32 (.bin .add cm (.k (.int .i64 1))), .m 14 fq]))
abbrev Zg:AC:= .seq (.run [.m 12 bE, .o 13 (.len cb), .o 14 (.mv (.k (.int .i64 0)))]) (.block 2 (.loop (.seq (.run [.o 15 (.bin .lss cm cz)]) Zf)))
abbrev Zh:AC:= .seq Zg (.seq (.run [.m 33 bH]) (.cond fj (.run [.m 34 cu, .m 35 db, .o 36 (.cT [(.str [])] 1 1 [(0,fE)]), .o 37 (.app 1 16 fD gq), .m 3 gE]) .skip))
abbrev Zi:AC:= .block 1 (.seq (.run [.o 4 (.mv (.k (.str []))), .o 5 (.mv (.k (.bool false)))]) Zh)
abbrev Zj:AC:= .seq (.cond bT .skip (.exit 0)) (.seq Zi (.run [.o 38 (.bin .add cd (.k (.int .i64 1))), .m 10 iP]))
abbrev Zk:AC:= .seq (.run [.m 8 bE, .o 9 (.len b9), .o 10 (.mv (.k (.int .i64 0)))]) (.block 0 (.loop (.seq (.run [.o 11 (.bin .lss cd cO)]) Zj)))
abbrev Zl:AC:= .seq (.run [.o 2 (.mv (.k (.slice .full 0 [])))]) (.seq (.run [.o 3 (.mv (.k (.slice .full 0 [])))]) (.seq Zk (.seq (.run [.m 39 cu, .m 2 ij]) .ret)))
abbrev Zm:AC:= .block 1 (.seq (.run [.m 10 b9, .m 5 cd]) (.seq (.run [.m 11 bg, .m 12 bE, .m 13 bH, .o 14 (.bF cb cz 5), .o 15 (.load cm true 5),(.gQ (some 16) none 11 [cZ])]) (.cond cw (.seq (.run [.m 17 bH, .m 4 c6]) .ret) .skip)))
abbrev Zn:AC:= .seq (.cond cO .skip (.exit 0)) (.seq Zm (.run [.o 18 (.bin .add b9 (.k (.int .i64 1))), .m 8 da]))
abbrev Zo:AC:= .seq (.run [.m 6 bE, .o 7 (.len cD), .o 8 (.mv (.k (.int .i64 0)))]) (.block 0 (.loop (.seq (.run [.o 9 (.bin .lss b9 bN)]) Zn)))
abbrev Zp:AC:= .seq (.run [(.o 4 (.mv (.k (.int .i64 (-1)))))]) .ret
abbrev Zq:AC:= .seq (.run [.o 4 (.mv (.k (.int .i64 0)))]) (.seq Zo Zp)
abbrev Zr:AC:= .seq (.run [.o 2 (.box bE), .o 3 (.mv (.k (.bool false)))]) (.seq (.run [.o 4 (.av cH 0), .o 5 (.load db false 1), .o 6 (.load bg false 1), .o 7 (.bin .eql bH cD), .m 3 bN]) .ret)
abbrev Zs:AC:= .cond bH (.seq (.run [.o 2 (.mv (.k (.slice .full 0 [])))]) .ret) .skip
abbrev Zt:AC:= .seq (.seq (.run [.o 3 (.load bg true 4), .c 4 nw [cu], .o 5 (.un .not db)]) Zs) (.seq (.run [.o 6 (.load bg true 4),(.c 7 gx [cD,(.k (.slice .full 0 []))]), .m 2 bN]) .ret)
abbrev Zu:AC:= .seq (.run [.o 1 (.box bE), .o 2 (.mv (.k (.slice .full 0 [])))]) Zt
abbrev Zv:AC:= .block 1 (.seq (.run [.m 10 b9, .m 5 cd]) (.seq (.run [.m 11 bg, .m 12 bE, .m 13 bH, .o 14 (.bF cb cz 1), .o 15 (.load cm false 1),(.gQ (some 16) none 11 [cZ])]) (.cond cw (.seq (.run [.m 17 bH, .m 4 c6]) .ret) .skip)))
abbrev Zw:AC:= .seq (.cond cO .skip (.exit 0)) (.seq Zv (.run [.o 18 (.bin .add b9 (.k (.int .i64 1))), .m 8 da]))
abbrev Zx:AC:= .seq (.run [.m 6 bE, .o 7 (.len cD), .o 8 (.mv (.k (.int .i64 0)))]) (.block 0 (.loop (.seq (.run [.o 9 (.bin .lss b9 bN)]) Zw)))
abbrev Zy:AC:= .seq (.run [(.o 4 (.mv (.k (.int .i64 (-1)))))]) .ret
abbrev Zz:AC:= .seq (.run [.o 4 (.mv (.k (.int .i64 0)))]) (.seq Zx Zy)
abbrev ZA:AC:= .cond dG (.seq (.run [.o 6 (.mv (.k (.int .i64 3)))]) .ret) .skip
abbrev ZB:AC:= .cond ef (.seq (.run [.o 6 (.mv (.k (.int .i64 2)))]) .ret) .skip
abbrev ZC:AC:= .seq (.seq (.run [.o 16 (.av b9 0), .o 17 (.load cw false 1), .m 18 cH, .o 19 (.bin .eql c6 da), .m 20 dd, .g 21 20 true (.av b9 1), .g 22 20 true (.load dh false 1), .o 23 (.pick dr dF (.k (.bool false)))]) ZA) (.seq (.run [.o 24 (.av b9 0), .o 25 (.load dU false 1), .m 26 cH, .o 27 (.bin .eql dV eo)]) ZB)
abbrev ZD:AC:= .seq (.block 1 (.seq (.run [.o 14 (.bF cd cb 2), .o 15 (.load cm true 2), .o 8 (.alloc [(.str []),(.bool false)]), .op none none (.store b9 cZ 2)]) ZC)) (.run [.o 28 (.bin .add cb (.k (.int .i64 1))), .m 12 eI])
abbrev ZE:AC:= .block 0 (.loop (.seq (.run [.o 13 (.bin .lss cb bT)]) (.seq (.cond cz .skip (.exit 0)) ZD)))
abbrev ZF:AC:= .cond fq (.seq (.run [.o 6 (.mv (.k (.int .i64 4)))]) .ret) .skip
abbrev ZG:AC:= .cond gq (.seq (.run [.o 6 (.mv (.k (.int .i64 1)))]) .ret) .skip
abbrev ZH:AC:= .seq (.seq (.run [.o 33 (.av cu 0), .o 34 (.load fj false 1), .m 35 cH, .c 36 ct [fD,fE]]) ZG) (.seq (.run [.o 6 (.mv (.k (.int .i64 0)))]) .ret)
abbrev ZI:AC:= .seq (.seq (.run [.o 9 (.av db 1), .o 10 (.load cO false 1), .o 11 (.len cd), .o 12 (.mv (.k (.int .i64 0)))]) ZE) (.seq (.seq (.run [.o 29 (.av db 2), .o 30 (.load eZ false 1), .m 31 cH, .c 32 ct [fp,eU]]) ZF) ZH)
abbrev ZJ:AC:= .seq (.run [.o 3 (.box bE), .o 4 (.box bg), .o 6 (.mv (.k (.int .i64 0)))]) ZI
abbrev ZK:AC:= .seq (.run [.o 1 (.box bE), .o 2 (.mv (.k (.bool false)))]) (.seq (.run [.o 3 (.load bg true 4), .c 4 nO [cu,(.k (.int .i64 20))], .o 5 (.bin .leq db (.k (.int .i64 20))), .m 6 bH, .g 7 6 true (.load bg true 4), .d 8 6 true nP [bN], .o 9 (.pick cD b9 (.k (.bool false))), .m 2 cO]) .ret)
abbrev ZL:AC:= .seq (.cond c6 .skip (.exit 0)) (.seq (.block 1 (.seq (.run [.m 18 cw, .m 5 da]) (.run [.o 19 (.av cH 3), .o 20 (.load dd false 1), .m 21 bH, .o 22 (.bF dr dh 4), .o 23 (.load dF true 4), .m 24 bg, .c 25 iH [dG,dU], .m 1 dV]))) (.run [.o 26 (.bin .add cw (.k (.int .i64 1))), .m 16 eo]))
abbrev ZM:AC:= .seq (.run [.o 13 (.av cH 3), .o 14 (.load cz false 1), .o 15 (.len cm), .o 16 (.mv (.k (.int .i64 0)))]) (.block 0 (.loop (.seq (.run [.o 17 (.bin .lss cw cZ)]) ZL)))
abbrev ZN:AC:= .seq (.seq (.run [.o 6 (.av cH 0), .o 7 (.load cD false 1), .o 8 (.bin .eql bN (.k (.int .i64 2)))]) (.cond b9 (.run [.m 9 bg, .o 10 (.av cH 2), .o 11 (.load cd false 1), .c 12 lX [cO,bT], .m 1 cb]) .skip)) (.seq ZM (.seq (.run [.m 27 bg, .m 4 ef]) .ret))
abbrev ZO:AC:= .seq (.run [.o 2 (.box bE), .o 4 (.mv (.k (.slice .full 0 [])))]) ZN
abbrev ZP:AC:= .cond cO (.seq (.run [.o 4 (.mv (.k (.bool false)))]) .ret) .skip
abbrev ZQ:AC:= .seq (.run [.o 15 (.bF bT cz 5), .o 16 (.load cZ true 5), .o 6 (.alloc [(.str []),(.slice .full 0 []),(.slice .full 0 []),(.slice .full 0 []),(.slice .full 0 [])]), .op none none (.store cD cw 5)]) (.seq (.run [.o 17 (.av cD 0), .o 18 (.load c6 false 1), .o 19 (.av cu 4), .o 20 (.load dd false 1), .o 21 (.bin .eql da dr)]) (.cond dh (.seq (.run [.o 22 (.av cD 1), .o 23 (.load dF false 1), .o 24 (.av cu 10), .o 25 (.load dU false 1), .c 26 rR [dG,dV], .m 4 eo]) .ret) .skip))
abbrev ZR:AC:= .seq (.cond cm .skip (.exit 0)) (.seq (.block 1 ZQ) (.run [.o 27 (.bin .add cz (.k (.int .i64 1))), .m 13 ef]))
abbrev ZS:AC:= .seq (.run [.o 10 (.av cH 1), .o 11 (.load cd false 1), .o 12 (.len bT), .o 13 (.mv (.k (.int .i64 0)))]) (.block 0 (.loop (.seq (.run [.o 14 (.bin .lss cz cb)]) ZR)))
abbrev ZT:AC:= .seq ZS (.seq (.run [.o 4 (.mv (.k (.bool false)))]) .ret)
abbrev ZU:AC:= .seq (.seq (.run [.o 7 (.av cu 1), .o 8 (.load bN false 1), .o 9 (.bin .neq b9 (.k (.int .i64 4)))]) ZP) ZT
abbrev ZV:AC:= .seq (.run [.o 2 (.box bE), .o 3 (.box bg), .o 4 (.mv (.k (.bool false)))]) ZU
abbrev ZW:AC:= .seq (.run [.o 12 (.av db 0), .o 13 (.av cb 1), .o 14 (.load cz false 1), .o 15 (.bin .eql cm (.k (.int .i64 4))), .m 16 cZ, .g 17 16 true (.load bg true 2), .g 18 16 true (.av db 0), .g 19 16 true (.load da true 13), .d 20 16 true mB [c6,dd], .g 21 16 true (.un .not dr), .o 22 (.pick cw dh (.k (.bool false)))]) (.cond dF (.seq (.run [.o 23 (.av db 0), .o 24 (.av dG 0), .o 25 (.load dU false 1), .c 26 fU [(.k (.int .i64 6)),dV], .op none none (.store cH eo 2)]) .ret) .skip)
abbrev ZX:AC:= .seq (.block 1 (.seq (.run [.o 10 (.bF cD b9 16), .o 11 (.load cd true 16), .o 4 (.alloc [(.int .i64 0),(.int .i64 0),(.slice .full 0 []),(.str []),(.str []),(.int .i64 0),(.int .i64 0),(.str []),(.slice .full 0 []),(.bool false),(.slice .full 0 []),(.slice .full 0 []),(.slice .full 0 []),(.int .i64 0),(.int .i64 0),(.bool false)]), .op none none (.store db bT 16)]) ZW)) (.run [.o 27 (.bin .add b9 (.k (.int .i64 1))), .m 8 ef])
abbrev ZY:AC:= .block 0 (.loop (.seq (.run [.o 9 (.bin .lss b9 bN)]) (.seq (.cond cO .skip (.exit 0)) ZX)))
abbrev ZZ:AC:= .seq (.seq (.run [.o 5 (.load bg true 2), .c 6 nu [bH], .o 7 (.len cD), .o 8 (.mv (.k (.int .i64 0)))]) ZY) (.seq (.run [.o 28 (.build [(.int .i64 0),(.int .i64 0)] []), .op none none (.store cH eI 2)]) .ret)
abbrev Z0:AC:= .seq (.run [.o 1 (.box bE), .o 2 (.alloc [(.int .i64 0),(.int .i64 0)])]) ZZ
abbrev Z1:AC:= .seq (.run [.o 2 (.mv (.k (.bool false)))]) (.seq (.run [.m 3 bE, .o 4 (.bin .geq cu (.k (.int .u8 97))), .m 5 db, .g 6 5 true (.mv bE), .g 7 5 true (.bin .leq cD (.k (.int .u8 122))), .o 8 (.pick bH bN (.k (.bool false))), .m 2 b9]) .ret)
abbrev Z2:AC:= .seq (.seq (.run [.m 5 bg, .m 6 bE, .o 7 (.py cD), .o 8 (.bin .lss bH bN), .m 9 b9, .g 10 9 true (.mv bE), .g 11 9 true (.mv bg), .g 12 9 true (.rn cd bT), .d 13 9 true oS [cb], .g 14 9 true (.mv cz), .g 15 14 false (.mv bE), .g 16 14 false (.mv bg), .g 17 14 false (.rn cZ cw), .d 18 14 false tx [c6], .g 19 9 true (.pick cm (.k (.bool true)) da), .o 20 (.pick cO dd (.k (.bool false)))]) (.cond dr .skip (.exit 0))) (.block 1 (.run [.m 21 bg, .o 22 (.bin .add dh (.k (.int .i64 1))), .m 1 dF]))
abbrev Z3:AC:= .seq (.run [.o 4 (.mv (.k (.int .i64 0)))]) (.seq (.block 0 (.loop Z2)) (.seq (.run [.m 23 bg, .m 4 dG]) .ret))
abbrev Z4:AC:= .seq (.run [.o 16 (.bin .eql cu (.k (.str [114,101,97,100]))), .m 4 cw]) (.cond db .skip (.run [.o 17 (.bin .eql cu (.k (.str [112,114,105,110,116]))), .m 4 c6]))
abbrev Z5:AC:= .cond db .skip (.seq (.run [.o 15 (.bin .eql cu (.k (.str [103,111,116,111]))), .m 4 cZ]) (.cond db .skip Z4))
abbrev Z6:AC:= .cond db .skip (.seq (.run [.o 14 (.bin .eql cu (.k (.str [114,101,116,117,114,110]))), .m 4 cm]) Z5)
abbrev Z7:AC:= .cond db .skip (.seq (.run [.o 13 (.bin .eql cu (.k (.str [99,111,110,116,105,110,117,101]))), .m 4 cz]) Z6)
abbrev Z8:AC:= .cond db .skip (.seq (.run [.o 12 (.bin .eql cu (.k (.str [98,114,101,97,107]))), .m 4 cb]) Z7)
abbrev Z9:AC:= .cond db .skip (.seq (.run [.o 11 (.bin .eql cu (.k (.str [119,104,105,108,101]))), .m 4 bT]) Z8)
abbrev aac:AC:= .cond db .skip (.seq (.run [.o 10 (.bin .eql cu (.k (.str [101,108,115,101]))), .m 4 cd]) Z9)
abbrev aad:AC:= .cond db .skip (.seq (.run [.o 9 (.bin .eql cu (.k (.str [105,102]))), .m 4 cO]) aac)
abbrev aae:AC:= .cond db .skip (.seq (.run [.o 8 (.bin .eql cu (.k (.str [114,101,102]))), .m 4 b9]) aad)
abbrev aaf:AC:= .cond db .skip (.seq (.run [.o 7 (.bin .eql cu (.k (.str [118,97,114]))), .m 4 bN]) aae)
abbrev aag:AC:= .cond db .skip (.seq (.run [.o 6 (.bin .eql cu (.k (.str [112,114,111,99]))), .m 4 cD]) aaf)
abbrev aah:AC:= .cond db (.seq (.run [.o 2 (.mv (.k (.bool true)))]) .ret) .skip
abbrev aai:AC:= .seq (.seq (.run [.o 5 (.bin .eql cu (.k (.str [103,108,111,98,97,108]))), .m 4 bH]) aag) aah
abbrev aaj:AC:= .seq (.seq (.run [.m 3 bE]) (.block 0 aai)) (.seq (.run [.o 2 (.mv (.k (.bool false)))]) .ret)
abbrev aak:AC:= .seq (.run [.o 2 (.mv (.k (.bool false)))]) aaj
abbrev aal:AC:= .par [.o 10 (.av bg 9), .o 11 (.load cd false 1), .o 3 (.mv (.k (.bool false))), .o 4 (.mv (.k (.bool false))), .o 5 (.mv (.k (.bool false))), .m 6 bT, .o 7 (.mv (.k (.bool false))), .o 8 (.mv (.k (.bool false)))] [(0,0),(1,0),(2,0),(3,0),(4,0),(5,0),(6,0),(7,0)]
abbrev aam:AC:= .seq (.run [.o 20 (.bin .eql cw (.k (.int .i64 2))), .m 19 dr]) (.cond dd .skip (.run [.o 21 (.bin .eql cw (.k (.int .i64 10))), .m 19 dh]))
abbrev aan:AC:= .seq (.run [.o 38 (.bin .eql cw (.k (.int .i64 7))), .m 37 iP]) (.cond gE .skip (.run [.o 39 (.bin .eql cw (.k (.int .i64 8))), .m 37 ij]))
abbrev aao:AC:= .cond gE .skip (.seq (.run [.o 2 (.mv (.k (.bool false)))]) .ret)
abbrev aap:AC:= .seq (.run [.o 34 (.bin .eql cw (.k (.int .i64 9))), .m 33 fD]) (.cond fj (.run [.o 35 (.av bg 9), .o 36 (.load fE false 1), .m 5 gq, .o 6 (.mv (.k (.bool false)))]) (.seq aan aao))
abbrev aaq:AC:= .seq (.run [.o 32 (.bin .eql cw (.k (.int .i64 6))), .m 31 fq]) (.cond eU (.run [.o 5 (.mv (.k (.bool true))), .o 7 (.mv (.k (.bool true)))]) aap)
abbrev aar:AC:= .seq (.run [.o 30 (.bin .eql cw (.k (.int .i64 5))), .m 29 fp]) (.cond eZ (.run [.o 5 (.mv (.k (.bool true))), .o 7 (.mv (.k (.bool true))), .o 8 (.mv (.k (.bool true)))]) aaq)
abbrev aas:AC:= .seq (.run [.o 25 (.bin .eql cw (.k (.int .i64 4))), .m 24 dV]) (.cond dU (.run [.o 26 (.av bg 3), .o 27 (.load eo false 1), .o 28 (.bin .neq ef (.k (.str []))), .m 3 eI, .o 4 (.mv (.k (.bool true)))]) aar)
abbrev aat:AC:= .seq (.run [.o 23 (.bin .eql cw (.k (.int .i64 3))), .m 22 dG]) (.cond dF (.run [.o 5 (.mv (.k (.bool true)))]) aas)
abbrev aau:AC:= .seq aam (.cond dd (.run [.o 3 (.mv (.k (.bool true)))]) aat)
abbrev aav:AC:= .seq (.run [.o 18 (.bin .eql cw (.k (.int .i64 1))), .m 17 da]) (.cond c6 (.run [.o 3 (.mv (.k (.bool true))), .o 5 (.mv (.k (.bool true)))]) aau)
abbrev aaw:AC:= .run [.m 40 cD, .m 41 jS, .g 42 41 false (.mv bN), .g 43 41 false (.un .not kq), .g 44 41 false (.mv kr), .g 45 44 true (.av bg 11), .g 46 44 true (.load lC false 1), .g 47 44 true (.len lD), .g 48 44 true (.bin .gtr lE (.k (.int .i64 0))), .g 49 41 false (.pick ku lF (.k (.bool false))), .o 50 (.pick jF (.k (.bool true)) jT), .m 51 lG, .g 52 51 false (.mv b9), .g 53 51 false (.un .not mW), .g 54 51 false (.mv mX), .g 55 54 true (.av bg 12), .g 56 54 true (.load mZ false 1), .g 57 54 true (.len oa), .g 58 54 true (.bin .gtr na (.k (.int .i64 0))), .g 59 51 false (.pick mY oc (.k (.bool false))), .o 60 (.pick k6 (.k (.bool true)) mb), .m 61 qH, .g 62 61 false (.mv cO), .g 63 61 false (.un .not rW), .g 64 61 false (.mv qI), .g 65 64 true (.av bg 10), .g 66 64 true (.load u5 false 1), .g 67 64 true (.len wK), .g 68 64 true (.bin .gtr u6 (.k (.int .i64 0))), .g 69 61 false (.pick qJ u7 (.k (.bool false))), .o 70 (.pick rV (.k (.bool true)) wL)]
abbrev aax:AC:= .cond wM (.seq (.run [.o 2 (.mv (.k (.bool false)))]) .ret) .skip
abbrev aay:AC:= .cond D6 (.seq (.run [.o 2 (.mv (.k (.bool false)))]) .ret) .skip
abbrev SE:AC:= .seq (.seq (.run [.o 71 (.av bg 3), .o 72 (.load AA false 1), .m 73 cu, .c 74 mV [yu,AB], .o 75 (.un .not yv), .m 76 AE, .g 77 76 false (.av bg 4), .g 78 76 false (.load AG false 1), .g 79 76 false (.mv db), .d 80 76 false mV [wN,DZ], .g 81 76 false (.un .not yw), .o 82 (.pick u9 (.k (.bool true)) D0), .m 83 AH, .g 84 83 false (.av bg 5), .g 85 83 false (.load yx true 4), .g 86 83 false (.mv bH), .d 87 83 false oT [D2,D3], .g 88 83 false (.un .not D4), .o 89 (.pick D1 (.k (.bool true)) D5)]) aay) (.seq (.run [.o 90 (.av bg 10), .o 91 (.load D7 false 1), .c 92 qG [D8], .m 2 D9]) .ret)
abbrev SF:AC:= .seq (.seq aaw aax) SE
abbrev Nd:AC:= .seq (.seq (.run [.o 15 (.av bg 1), .o 16 (.load cZ false 1)]) (.block 0 aav)) SF
abbrev SG:AC:= .seq (.run [.o 12 (.av bg 1), .o 13 (.load cb false 1), .o 14 (.bin .eql cz (.k (.int .i64 4))), .m 9 cm]) Nd
abbrev SH:AC:= .seq aal SG
abbrev aaz:AC:= .seq (.run [.o 1 (.box bE), .o 2 (.mv (.k (.bool false)))]) SH
abbrev aaA:AC:= .cond fp (.seq (.run [.o 4 (.mv (.k (.bool false)))]) .ret) .skip
abbrev aaB:AC:= .par [.o 37 (.av cu 10), .o 38 (.load gE false 1), .m 39 bN, .o 40 (.bF iP ij 6), .o 41 (.av jS 0), .o 42 (.load jF false 1), .o 43 (.av bH 1), .o 44 (.load kr false 1), .m 45 bN, .o 46 (.bF ku lC 2), .o 47 (.av lD 1), .o 48 (.load lE false 1), .o 49 (.vv true kq lF)] [(0,0),(1,0),(2,0),(3,0),(4,0),(5,0),(6,0),(7,0),(8,0),(9,0),(10,0),(11,0),(12,0)]
abbrev aaC:AC:= .cond jT (.seq (.run [.o 4 (.mv (.k (.bool false)))]) .ret) .skip
abbrev aaD:AC:= .seq (.cond fE .skip (.exit 0)) (.seq (.block 1 (.seq (.run [.m 36 fD, .m 7 gq]) (.seq aaB aaC))) (.run [.o 50 (.bin .add fD (.k (.int .i64 1))), .m 34 lG]))
abbrev aaE:AC:= .seq (.run [.o 31 (.av cu 10), .o 32 (.load eU false 1), .o 33 (.len fq), .o 34 (.mv (.k (.int .i64 0)))]) (.block 0 (.loop (.seq (.run [.o 35 (.bin .lss fD fj)]) aaD)))
abbrev aaF:AC:= .seq aaE (.seq (.run [.o 4 (.mv (.k (.bool true)))]) .ret)
abbrev aaG:AC:= .seq (.seq (.run [.o 15 (.av cu 1), .o 16 (.load cZ false 1), .o 17 (.bin .neq cw (.k (.int .i64 4))), .m 18 c6, .g 19 18 false (.mv cD), .g 20 18 false (.un .not dd), .o 21 (.pick da (.k (.bool true)) dr), .m 22 dh, .g 23 22 false (.av cu 10), .g 24 22 false (.load dG false 1), .g 25 22 false (.len dU), .g 26 22 false (.av bH 1), .g 27 22 false (.load eo false 1), .g 28 22 false (.len ef), .g 29 22 false (.bin .neq dV eI), .o 30 (.pick dF (.k (.bool true)) eZ)]) aaA) aaF
abbrev aaH:AC:= .seq (.run [.o 2 (.box bE), .o 3 (.box bg), .o 4 (.mv (.k (.bool false)))]) (.seq (.run [.o 9 (.load cH true 2), .o 10 (.av cu 4), .o 11 (.load cd false 1), .c 12 jE [cO,bT], .m 8 cb, .o 13 (.ext b9 0), .o 14 (.ext b9 1), .o 5 (.alloc [(.str []),(.slice .full 0 []),(.slice .full 0 []),(.slice .full 0 []),(.slice .full 0 [])]), .op none none (.store bH cz 5), .m 6 cm]) aaG)
abbrev aaI:AC:= .seq (.block 1 (.seq (.run [.o 13 (.bF cO bT 13), .o 14 (.load cz true 13), .o 5 (.alloc [(.int .i64 0),(.int .i64 0),(.slice .full 0 []),(.str []),(.str []),(.int .i64 0),(.int .i64 0),(.str []),(.slice .full 0 []),(.bool false),(.slice .full 0 []),(.slice .full 0 []),(.slice .full 0 [])]), .op none none (.store bH cm 13)]) (.run [.m 15 cu, .o 16 (.load bH true 13), .c 17 kp [cw], .o 18 (.bin .add cZ c6), .m 3 da]))) (.run [.o 19 (.bin .add bT (.k (.int .i64 1))), .m 11 dd])
abbrev aaJ:AC:= .block 0 (.loop (.seq (.run [.o 12 (.bin .lss bT cd)]) (.seq (.cond cb .skip (.exit 0)) aaI)))
abbrev aaK:AC:= .seq (.block 3 (.seq (.run [.o 25 (.bF dh dG 13), .o 26 (.load dV true 13), .o 7 (.alloc [(.int .i64 0),(.int .i64 0),(.slice .full 0 []),(.str []),(.str []),(.int .i64 0),(.int .i64 0),(.str []),(.slice .full 0 []),(.bool false),(.slice .full 0 []),(.slice .full 0 []),(.slice .full 0 [])]), .op none none (.store bN eo 13)]) (.run [.m 27 cu, .o 28 (.load bN true 13), .c 29 kp [eI], .o 30 (.bin .add ef eZ), .m 3 fp]))) (.run [.o 31 (.bin .add dG (.k (.int .i64 1))), .m 23 eU])
abbrev aaL:AC:= .block 2 (.loop (.seq (.run [.o 24 (.bin .lss dG dF)]) (.seq (.cond dU .skip (.exit 2)) aaK)))
abbrev aaM:AC:= .seq (.seq (.run [.o 20 (.av bg 12), .o 21 (.load dr false 1), .o 22 (.len dh), .o 23 (.mv (.k (.int .i64 0)))]) aaL) (.seq (.run [.m 32 cu, .m 2 fq]) .ret)
abbrev aaN:AC:= .seq (.seq (.run [.o 8 (.av bg 11), .o 9 (.load b9 false 1), .o 10 (.len cO), .o 11 (.mv (.k (.int .i64 0)))]) aaJ) aaM
abbrev aaO:AC:= .seq (.run [.o 1 (.box bE), .o 2 (.mv (.k (.int .i64 0)))]) (.seq (.run [.o 3 (.mv (.k (.int .i64 1)))]) aaN)
abbrev aaP:AC:= .cond cz (.seq (.run [.o 2 (.mv (.k (.bool false)))]) .ret) .skip
abbrev aaQ:AC:= .seq (.block 1 (.seq (.run [.o 9 (.bF bH bN 1), .o 10 (.load cO false 1), .m 4 cd]) (.seq (.run [.m 11 db, .c 12 gP [bT], .o 13 (.un .not cb)]) aaP))) (.run [.o 14 (.bin .add bN (.k (.int .i64 1))), .m 7 cm])
abbrev aaR:AC:= .block 0 (.loop (.seq (.run [.o 8 (.bin .lss bN cD)]) (.seq (.cond b9 .skip (.exit 0)) aaQ)))
abbrev aaS:AC:= .seq (.seq (.run [.m 5 bE, .o 6 (.len bH), .o 7 (.mv (.k (.int .i64 0)))]) aaR) (.seq (.run [.o 2 (.mv (.k (.bool true)))]) .ret)
abbrev aaT:AC:= .seq (.run [.o 2 (.mv (.k (.bool false)))]) aaS
abbrev aaU:AC:= .cond cw (.seq (.run [.o 2 (.mv (.k (.bool false)))]) .ret) .skip
abbrev aaV:AC:= .cond fD (.seq (.run [.o 2 (.mv (.k (.bool false)))]) .ret) .skip
abbrev aaW:AC:= .block 1 (.seq (.run [.m 23 bE, .m 24 cu, .o 25 (.rn dG dU), .c 26 oU [dV], .o 27 (.un .not eo), .m 28 ef, .g 29 28 true (.mv bE), .g 30 28 true (.mv cu), .g 31 28 true (.rn eZ fp), .d 32 28 true rS [eU], .g 33 28 true (.un .not fq), .o 34 (.pick eI fj (.k (.bool false)))]) aaV)
abbrev aaX:AC:= .seq (.seq (.run [.m 17 cu, .m 18 bE, .o 19 (.py da), .o 20 (.bin .lss c6 dd)]) (.cond dr .skip (.exit 0))) (.seq aaW (.run [.m 21 cu, .o 22 (.bin .add dh (.k (.int .i64 1))), .m 3 dF]))
abbrev aaY:AC:= .seq (.seq (.run [.o 3 (.mv (.k (.int .i64 1)))]) (.block 0 (.loop aaX))) (.seq (.run [.m 35 bE, .c 36 tz [fE], .o 37 (.un .not gq), .m 2 gE]) .ret)
abbrev aaZ:AC:= .seq (.seq (.run [.m 4 bE, .o 5 (.bin .eql db (.k (.str []))), .m 6 bH, .g 7 6 false (.mv bE), .g 8 6 false (.py bN), .g 9 6 false (.bin .gtr b9 (.k (.int .i64 8))), .o 10 (.pick cD (.k (.bool true)) cO), .m 11 cd, .g 12 11 false (.mv bE), .g 13 11 false (.rn cb (.k (.int .i64 0))), .d 14 11 false oU [cz], .g 15 11 false (.un .not cm), .o 16 (.pick bT (.k (.bool true)) cZ)]) aaU) aaY
abbrev aa0:AC:= .seq (.run [.o 2 (.mv (.k (.bool false)))]) aaZ
abbrev aa1:AC:= .run [.o 8 (.av bg 1), .o 9 (.load b9 false 1), .o 10 (.bin .eql cO (.k (.int .i64 1))), .m 11 cd, .g 12 11 false (.av bg 1), .g 13 11 false (.load cb false 1), .g 14 11 false (.bin .eql cz (.k (.int .i64 3))), .o 15 (.pick bT (.k (.bool true)) cm), .m 16 cZ, .g 17 16 false (.av bg 1), .g 18 16 false (.load c6 false 1), .g 19 16 false (.bin .eql da (.k (.int .i64 5))), .o 20 (.pick cw (.k (.bool true)) dd), .m 21 dr, .g 22 21 false (.av bg 1), .g 23 21 false (.load dF false 1), .g 24 21 false (.bin .eql dG (.k (.int .i64 6))), .o 25 (.pick dh (.k (.bool true)) dU), .m 26 dV, .g 27 26 false (.av bg 1), .g 28 26 false (.load ef false 1), .g 29 26 false (.bin .eql eI (.k (.int .i64 9))), .g 30 26 false (.mv eZ), .g 31 30 true (.av bg 9), .g 32 30 true (.load eU false 1), .g 33 26 false (.pick fp fq (.k (.bool false))), .o 34 (.pick eo (.k (.bool true)) fj), .m 3 fD]
abbrev aa2:AC:= .run [.o 51 (.av bg 1), .o 52 (.load k6 false 1), .o 53 (.bin .lss mW (.k (.int .i64 1))), .m 54 mX, .g 55 54 false (.av bg 1), .g 56 54 false (.load mZ false 1), .g 57 54 false (.bin .gtr oa (.k (.int .i64 10))), .o 58 (.pick mY (.k (.bool true)) na), .m 59 oc, .g 60 59 false (.av bg 2), .g 61 59 false (.load qH false 1), .d 62 59 false kZ [rV], .g 63 59 false (.un .not rW), .o 64 (.pick mb (.k (.bool true)) qI), .m 65 qJ, .g 66 65 false (.mv cu), .g 67 65 false (.mv wK), .g 68 67 true (.av bg 5), .g 69 67 true (.load u7 true 4), .d 70 67 true kY [wL], .g 71 67 true (.un .not wM), .g 72 65 false (.pick u6 AA (.k (.bool false))), .o 73 (.pick u5 (.k (.bool true)) yu), .m 74 AB, .g 75 74 false (.mv cu), .g 76 74 false (.un .not AE), .g 77 74 false (.mv u9), .g 78 77 true (.av bg 5), .g 79 77 true (.load wN true 4), .d 80 77 true p7 [DZ], .g 81 77 true (.un .not yw), .g 82 74 false (.pick AG D0 (.k (.bool false))), .o 83 (.pick yv (.k (.bool true)) AH), .m 84 D1, .g 85 84 false (.av bg 9), .g 86 84 false (.load D2 false 1), .g 87 84 false (.mv D3), .g 88 87 true (.av bg 1), .g 89 87 true (.load D5 false 1), .g 90 87 true (.bin .neq D6 (.k (.int .i64 9))), .g 91 84 false (.pick D4 D7 (.k (.bool false))), .o 92 (.pick yx (.k (.bool true)) D8)]
abbrev aa3:AC:= .cond D9 (.seq (.run [.o 2 (.mv (.k (.bool false)))]) .ret) .skip
abbrev aa4:AC:= .run [.m 93 db, .m 94 Io, .g 95 94 true (.av bg 3), .g 96 94 true (.load Iq false 1), .d 97 94 true gP [M9], .g 98 94 true (.un .not Na), .o 99 (.pick Ip Nb (.k (.bool false))), .m 100 Nc, .g 101 100 false (.mv db), .g 102 100 false (.un .not Is), .g 103 100 false (.mv Iu), .g 104 103 true (.av bg 3), .g 105 103 true (.load Iw false 1), .g 106 103 true (.bin .neq Ix (.k (.str []))), .g 107 100 false (.pick Iv Iy (.k (.bool false))), .g 108 100 false (.mv Iz), .g 109 108 true (.mv bH), .g 110 108 true (.mv IB), .g 111 110 true (.av bg 3), .g 112 110 true (.load Pf false 1), .d 113 110 true gP [Ph], .g 114 108 true (.pick Pe Pj (.k (.bool false))), .g 115 108 true (.un .not Pk), .g 116 100 false (.pick IA Pl (.k (.bool false))), .o 117 (.pick Ir (.k (.bool true)) Pn)]
abbrev aa5:AC:= .cond Po (.seq (.run [.o 2 (.mv (.k (.bool false)))]) .ret) .skip
abbrev aa6:AC:= .run [.m 118 bH, .o 119 (.av bg 4), .o 120 (.load Pq false 1), .o 121 (.bin .neq Pr (.k (.str []))), .o 122 (.vv true Pp Ps), .m 123 Pt, .g 124 123 false (.mv bH), .g 125 123 false (.mv U7), .g 126 125 true (.av bg 4), .g 127 125 true (.load U9 false 1), .d 128 125 true gP [Va], .g 129 125 true (.un .not Vb), .g 130 123 false (.pick U8 Vc (.k (.bool false))), .o 131 (.pick U6 (.k (.bool true)) Vd), .m 132 Ve, .g 133 132 false (.mv bH), .g 134 132 false (.un .not Vg), .g 135 132 false (.mv Vh), .g 136 135 true (.av bg 10), .g 137 135 true (.load Vj false 1), .g 138 135 true (.len Vk), .g 139 135 true (.bin .gtr Vl (.k (.int .i64 0))), .g 140 132 false (.pick Vi Vm (.k (.bool false))), .o 141 (.pick Vf (.k (.bool true)) Vn)]
abbrev aa7:AC:= .cond Vo (.seq (.run [.o 2 (.mv (.k (.bool false)))]) .ret) .skip
abbrev aa8:AC:= .cond Vw (.seq (.run [.o 2 (.mv (.k (.bool false)))]) .ret) .skip
abbrev aa9:AC:= .seq (.block 1 (.seq (.run [.o 147 (.bF Pu IC 6), .o 148 (.load Vs true 6), .o 7 (.alloc [(.bool false),(.str []),(.int .i64 0),(.int .i64 0),(.str []),(.slice .full 0 [])]), .op none none (.store bN Vt 6)]) (.seq (.run [.o 149 (.load bN true 6), .c 150 uZ [Vu], .o 151 (.un .not Vv)]) aa8))) (.run [.o 152 (.bin .add IC (.k (.int .i64 1))), .m 145 Vx])
abbrev abb:AC:= .block 0 (.loop (.seq (.run [.o 146 (.bin .lss IC Vq)]) (.seq (.cond Vr .skip (.exit 0)) aa9)))
abbrev abd:AC:= .run [.o 153 (.av bg 11), .o 154 (.load Vy false 1), .o 155 (.len Vz), .o 156 (.bin .eql VA (.k (.int .i64 0))), .m 157 VB, .g 158 157 false (.av bg 1), .g 159 157 false (.load VD false 1), .g 160 157 false (.bin .eql VE (.k (.int .i64 5))), .o 161 (.pick VC (.k (.bool true)) VF), .m 162 VG, .g 163 162 false (.av bg 1), .g 164 162 false (.load VI false 1), .g 165 162 false (.bin .eql VJ (.k (.int .i64 6))), .o 166 (.pick VH (.k (.bool true)) VK), .m 167 VL, .g 168 167 true (.av bg 12), .g 169 167 true (.load VN false 1), .g 170 167 true (.len VO), .g 171 167 true (.bin .eql VP (.k (.int .i64 0))), .g 172 167 true (.mv VQ), .g 173 172 false (.av bg 1), .g 174 172 false (.load VS false 1), .g 175 172 false (.bin .eql VT (.k (.int .i64 5))), .g 176 167 true (.pick VR (.k (.bool true)) VU), .o 177 (.pick VM VV (.k (.bool false))), .m 2 VW]
abbrev SI:AC:= .seq (.seq (.run [.o 142 (.av bg 10), .o 143 (.load Vp false 1), .o 144 (.len Pu), .o 145 (.mv (.k (.int .i64 0)))]) abb) (.seq abd .ret)
abbrev SJ:AC:= .seq (.seq aa6 aa7) SI
abbrev SK:AC:= .seq (.seq aa4 aa5) SJ
abbrev SL:AC:= .seq (.seq aa2 aa3) SK
abbrev SM:AC:= .seq (.run [.o 48 (.av bg 1), .o 49 (.load lF false 1), .o 50 (.bin .eql jT (.k (.int .i64 4))), .m 5 lG]) SL
abbrev SN:AC:= .seq (.run [.o 35 (.av bg 1), .o 36 (.load fE false 1), .o 37 (.bin .eql gq (.k (.int .i64 1))), .m 38 gE, .g 39 38 false (.av bg 1), .g 40 38 false (.load ij false 1), .g 41 38 false (.bin .eql jS (.k (.int .i64 2))), .o 42 (.pick iP (.k (.bool true)) jF), .m 43 kq, .g 44 43 false (.av bg 1), .g 45 43 false (.load ku false 1), .g 46 43 false (.bin .eql lC (.k (.int .i64 10))), .o 47 (.pick kr (.k (.bool true)) lD), .m 4 lE]) SM
abbrev SO:AC:= .seq aa1 SN
abbrev abe:AC:= .seq (.run [.o 1 (.box bE), .o 2 (.mv (.k (.bool false)))]) SO
abbrev abf:AC:= .seq (.run [.o 1 (.box bE), .o 2 (.mv (.k (.bool false)))]) (.seq (.run [.o 3 (.load bg true 4), .c 4 nQ [cu,(.k (.int .i64 20))], .m 2 db]) .ret)
abbrev abg:AC:= .seq (.block 1 (.seq (.run [.o 27 (.bF dG dV 4), .o 28 (.load ef true 4), .o 6 (.alloc [(.int .i64 0),(.int .i64 0),(.str []),(.slice .full 0 [])]), .op none none (.store cD eI 4)]) (.run [.o 29 (.load cD true 4), .m 30 bg, .c 31 gx [eZ,fp], .m 1 eU]))) (.run [.o 32 (.bin .add dV (.k (.int .i64 1))), .m 25 fq])
abbrev abh:AC:= .block 0 (.loop (.seq (.run [.o 26 (.bin .lss dV dU)]) (.seq (.cond eo .skip (.exit 0)) abg)))
abbrev abi:AC:= .seq (.seq (.run [.o 22 (.av cH 3), .o 23 (.load dF false 1), .o 24 (.len dG), .o 25 (.mv (.k (.int .i64 0)))]) abh) (.seq (.run [.m 33 bg, .m 4 fj]) .ret)
abbrev abj:AC:= .seq (.seq (.run [.o 7 (.av cH 0), .o 8 (.load bN false 1), .o 9 (.bin .eql b9 (.k (.int .i64 2))), .m 10 cO, .g 11 10 true (.mv bg), .g 12 10 true (.av cH 2), .g 13 10 true (.load cb false 1), .d 14 10 true ct [bT,cz], .g 15 10 true (.un .not cm), .o 16 (.pick cd cZ (.k (.bool false)))]) (.cond cw (.run [.m 17 bg, .o 18 (.av cH 2), .o 19 (.load da false 1), .o 20 (.cT [(.str [])] 1 1 [(0,dd)]), .o 21 (.app 1 16 c6 dr), .m 1 dh]) .skip)) abi
abbrev abk:AC:= .seq (.run [.o 2 (.box bE), .o 4 (.mv (.k (.slice .full 0 [])))]) abj
end Go.Abs

/-! Have2 -/

namespace Go.Abs
open Go.Proofs
theorem AR:Has Tryz.prog jE 22 [(4,(some (true,5))),(5,none)] YR:=⟨Tryz.f80,by kernel_rfl,by kernel_rfl⟩
theorem AS:Has Tryz.prog kX 25 [(2,none)] YZ:=⟨Tryz.f81,by kernel_rfl,by kernel_rfl⟩
theorem zD:Has Tryz.prog qE 20 [(2,none)] Y3:=⟨Tryz.f82,by kernel_rfl,by kernel_rfl⟩
theorem CG:Has Tryz.prog tw 39 [(6,none)] Zd:=⟨Tryz.f83,by kernel_rfl,by kernel_rfl⟩
theorem zE:Has Tryz.prog lW 40 [(2,none)] Zl:=⟨Tryz.f84,by kernel_rfl,by kernel_rfl⟩
theorem pj:Has Tryz.prog fe 19 [(4,none)] Zq:=⟨Tryz.f85,by kernel_rfl,by kernel_rfl⟩
theorem um:Has Tryz.prog jJ 8 [(3,none)] Zr:=⟨Tryz.f86,by kernel_rfl,by kernel_rfl⟩
theorem uq:Has Tryz.prog oQ 8 [(2,none)] Zu:=⟨Tryz.f87,by kernel_rfl,by kernel_rfl⟩
theorem qn:Has Tryz.prog ji 19 [(4,none)] Zz:=⟨Tryz.f90,by kernel_rfl,by kernel_rfl⟩
theorem AT:Has Tryz.prog rP 37 [(6,none)] ZJ:=⟨Tryz.f91,by kernel_rfl,by kernel_rfl⟩
theorem yA:Has Tryz.prog kY 10 [(2,none)] ZK:=⟨Tryz.f95,by kernel_rfl,by kernel_rfl⟩
theorem qL:Has Tryz.prog iH 28 [(4,none)] ZO:=⟨Tryz.f96,by kernel_rfl,by kernel_rfl⟩
theorem ur:Has Tryz.prog oR 28 [(4,none)] ZV:=⟨Tryz.f97,by kernel_rfl,by kernel_rfl⟩
theorem AU:Has Tryz.prog rQ 29 [(2,(some (true,2)))] Z0:=⟨Tryz.f98,by kernel_rfl,by kernel_rfl⟩
theorem AV:Has Tryz.prog oS 9 [(2,none)] Z1:=⟨Tryz.f99,by kernel_rfl,by kernel_rfl⟩
theorem FB:Has Tryz.prog wH 24 [(4,none)] Z3:=⟨Tryz.f100,by kernel_rfl,by kernel_rfl⟩
theorem Eh:Has Tryz.prog uX 18 [(2,none)] aak:=⟨Tryz.f101,by kernel_rfl,by kernel_rfl⟩
theorem zF:Has Tryz.prog qF 93 [(2,none)] aaz:=⟨Tryz.f102,by kernel_rfl,by kernel_rfl⟩
theorem kK:Has Tryz.prog mB 51 [(4,none)] aaH:=⟨Tryz.f103,by kernel_rfl,by kernel_rfl⟩
theorem CH:Has Tryz.prog kp 33 [(2,none)] aaO:=⟨Tryz.f104,by kernel_rfl,by kernel_rfl⟩
theorem AW:Has Tryz.prog kZ 15 [(2,none)] aaT:=⟨Tryz.f105,by kernel_rfl,by kernel_rfl⟩
theorem vI:Has Tryz.prog gP 38 [(2,none)] aa0:=⟨Tryz.f106,by kernel_rfl,by kernel_rfl⟩
theorem Ei:Has Tryz.prog uY 178 [(2,none)] abe:=⟨Tryz.f107,by kernel_rfl,by kernel_rfl⟩
theorem yB:Has Tryz.prog nw 5 [(2,none)] abf:=⟨Tryz.f108,by kernel_rfl,by kernel_rfl⟩
theorem oX:Has Tryz.prog gx 34 [(4,none)] abk:=⟨Tryz.f109,by kernel_rfl,by kernel_rfl⟩
end Go.Abs
