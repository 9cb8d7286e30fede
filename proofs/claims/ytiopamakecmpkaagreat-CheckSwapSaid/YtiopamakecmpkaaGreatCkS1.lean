/-
  What is proved here: part 1 of the road to the claim (Par, Par1, Par2, Par3, Step, Wp, Types, Mir, MirTree, Cnt, MirFlat, Nums, Codes0, Have0, Codes1, Have1, Codes2, Have2).
  No conditions.
-/
import Derived.Test.YtiopamakecmpkaaGreatCkS0
import Derived.Attr
import Derived.Test.YtiopamakecmpkaaGreatProg
import Derived.KernelRfl

set_option linter.unusedSimpArgs false
set_option linter.unusedVariables false

/-! Par -/

namespace Go.Abs
theorem X.bV {x:X} {tm bH:Tm} (h : ∀ t∈x.reads,tm.get t=bH.get t):x.ev tm=x.ev bH:=by
 cases x with
 | s t=>exact h t (by simp [X.reads])
 | k d=>rfl
theorem pT {t:Nat} {x:X} : ∀ {l:List X},x∈l→t∈x.reads→t∈mK l
 | [],h,_=>by cases h
 | y::r,h,ht=>by
  simp only [mK,List.mem_append]
  rcases List.mem_cons.1 h with rfl | h
  ·exact .inl ht
  ·exact .inr (pT h ht)
theorem uE {x:Option X} {tm bH:Tm} (h : ∀ t∈yk x,tm.get t=bH.get t):x.map (·.ev tm)=x.map (·.ev bH):=by
 cases x with
 | none=>rfl
 | some y=>simp only [Option.map_some];rw [X.bV h]
theorem AE {o:AO} {tm bH:Tm} {s:St} (h : ∀ t∈o.reads,tm.get t=bH.get t):aS o tm s=aS o bH s:=by
 cases o with
 | mv x=>
  have hx:x.ev tm=x.ev bH:=X.bV fun t ht=>h t (by simp [AO.reads,ht])
  simp only [aS,hx]
 | pick c a b=>
  have hc:c.ev tm=c.ev bH:=X.bV fun t ht=>h t (by simp [AO.reads,ht])
  have ha:a.ev tm=a.ev bH:=X.bV fun t ht=>h t (by simp [AO.reads,ht])
  have hb:b.ev tm=b.ev bH:=X.bV fun t ht=>h t (by simp [AO.reads,ht])
  simp only [aS,hc,ha,hb]
 | alloc z=>
  rfl
 | rk z T=>rfl
 | yi x T=>
  have hx:x.ev tm=x.ev bH:=X.bV fun t ht=>h t (by simp [AO.reads,ht])
  simp only [aS,hx]
 | yj x y=>
  have hx:x.ev tm=x.ev bH:=X.bV fun t ht=>h t (by simp [AO.reads,ht])
  have hy:y.ev tm=y.ev bH:=X.bV fun t ht=>h t (by simp [AO.reads,ht])
  simp only [aS,hx,hy]
 | apps x y=>
  have hx:x.ev tm=x.ev bH:=X.bV fun t ht=>h t (by simp [AO.reads,ht])
  have hy:y.ev tm=y.ev bH:=X.bV fun t ht=>h t (by simp [AO.reads,ht])
  simp only [aS,hx,hy]
 | box x=>
  have hx:x.ev tm=x.ev bH:=X.bV fun t ht=>h t (by simp [AO.reads,ht])
  simp only [aS,hx]
 | yh x=>
  have hx:x.ev tm=x.ev bH:=X.bV fun t ht=>h t (by simp [AO.reads,ht])
  simp only [aS,hx]
 | load x g n=>
  have hx:x.ev tm=x.ev bH:=X.bV fun t ht=>h t (by simp [AO.reads,ht])
  simp only [aS,hx]
 | store p x n=>
  have hp:p.ev tm=p.ev bH:=X.bV fun t ht=>h t (by simp [AO.reads,ht])
  have hx:x.ev tm=x.ev bH:=X.bV fun t ht=>h t (by simp [AO.reads,ht])
  simp only [aS,hp,hx]
 | di x=>
  have hx:x.ev tm=x.ev bH:=X.bV fun t ht=>h t (by simp [AO.reads,ht])
  simp only [aS,hx]
 | bin op x y=>
  have hx:x.ev tm=x.ev bH:=X.bV fun t ht=>h t (by simp [AO.reads,ht])
  have hy:y.ev tm=y.ev bH:=X.bV fun t ht=>h t (by simp [AO.reads,ht])
  simp only [aS,hx,hy]
 | As n x y=>
  have hx:x.ev tm=x.ev bH:=X.bV fun t ht=>h t (by simp [AO.reads,ht])
  have hy:y.ev tm=y.ev bH:=X.bV fun t ht=>h t (by simp [AO.reads,ht])
  simp only [aS,hx,hy]
 | eqs n ks x y=>
  have hx:x.ev tm=x.ev bH:=X.bV fun t ht=>h t (by simp [AO.reads,ht])
  have hy:y.ev tm=y.ev bH:=X.bV fun t ht=>h t (by simp [AO.reads,ht])
  simp only [aS,hx,hy]
 | DJ n x y=>
  have hx:x.ev tm=x.ev bH:=X.bV fun t ht=>h t (by simp [AO.reads,ht])
  have hy:y.ev tm=y.ev bH:=X.bV fun t ht=>h t (by simp [AO.reads,ht])
  simp only [aS,hx,hy]
 | un op x=>
  have hx:x.ev tm=x.ev bH:=X.bV fun t ht=>h t (by simp [AO.reads,ht])
  simp only [aS,hx]
 | conv k x=>
  have hx:x.ev tm=x.ev bH:=X.bV fun t ht=>h t (by simp [AO.reads,ht])
  simp only [aS,hx]
 | Bs x=>
  have hx:x.ev tm=x.ev bH:=X.bV fun t ht=>h t (by simp [AO.reads,ht])
  simp only [aS,hx]
 | vS x=>
  have hx:x.ev tm=x.ev bH:=X.bV fun t ht=>h t (by simp [AO.reads,ht])
  simp only [aS,hx]
 | au x n=>
  have hx:x.ev tm=x.ev bH:=X.bV fun t ht=>h t (by simp [AO.reads,ht])
  simp only [aS,hx]
 | rj x n g m=>
  have hx:x.ev tm=x.ev bH:=X.bV fun t ht=>h t (by simp [AO.reads,ht])
  simp only [aS,hx]
 | cu x i n=>
  have hx:x.ev tm=x.ev bH:=X.bV fun t ht=>h t (by simp [AO.reads,ht])
  have hi:i.ev tm=i.ev bH:=X.bV fun t ht=>h t (by simp [AO.reads,ht])
  simp only [aS,hx,hi]
 | nJ x i=>
  have hx:x.ev tm=x.ev bH:=X.bV fun t ht=>h t (by simp [AO.reads,ht])
  have hi:i.ev tm=i.ev bH:=X.bV fun t ht=>h t (by simp [AO.reads,ht])
  simp only [aS,hx,hi]
 | ext x i=>
  have hx:x.ev tm=x.ev bH:=X.bV fun t ht=>h t (by simp [AO.reads,ht])
  simp only [aS,hx]
 | len x=>
  have hx:x.ev tm=x.ev bH:=X.bV fun t ht=>h t (by simp [AO.reads,ht])
  simp only [aS,hx]
 | kR x=>
  have hx:x.ev tm=x.ev bH:=X.bV fun t ht=>h t (by simp [AO.reads,ht])
  simp only [aS,hx]
 | app a b x y=>
  have hx:x.ev tm=x.ev bH:=X.bV fun t ht=>h t (by simp [AO.reads,ht])
  have hy:y.ev tm=y.ev bH:=X.bV fun t ht=>h t (by simp [AO.reads,ht])
  simp only [aS,hx,hy]
 | mm b x y=>
  have hx:x.ev tm=x.ev bH:=X.bV fun t ht=>h t (by simp [AO.reads,ht])
  have hy:y.ev tm=y.ev bH:=X.bV fun t ht=>h t (by simp [AO.reads,ht])
  simp only [aS,hx,hy]
 | build z ps=>
  have hp:(ps.map fun p=>(p.1,p.2.1,p.2.2.ev tm))=ps.map fun p=>(p.1,p.2.1,p.2.2.ev bH):=List.map_congr_left fun p hp=>by
   have:p.2.2.ev tm=p.2.2.ev bH:=X.bV fun t ht=>h t (by simp only [AO.reads];exact pT (List.mem_map_of_mem hp) ht)
   rw [this]
  simp only [aS,hp]
 | cG z m n ps=>
  have hp:(ps.map fun p=>(p.1,p.2.ev tm))=ps.map fun p=>(p.1,p.2.ev bH):=List.map_congr_left fun p hp=>by
   have:p.2.ev tm=p.2.ev bH:=X.bV fun t ht=>h t (by simp only [AO.reads];exact pT (List.mem_map_of_mem hp) ht)
   rw [this]
  simp only [aS,hp]
 | s6 z m n ps=>
  have hp:(ps.map fun p=>(p.1,p.2.ev tm))=ps.map fun p=>(p.1,p.2.ev bH):=List.map_congr_left fun p hp=>by
   have:p.2.ev tm=p.2.ev bH:=X.bV fun t ht=>h t (by simp only [AO.reads];exact pT (List.mem_map_of_mem hp) ht)
   rw [this]
  simp only [aS,hp]
 | FJ n x lo hi=>
  have hx:x.ev tm=x.ev bH:=X.bV fun t ht=>h t (by simp [AO.reads,ht])
  have hl:lo.map (·.ev tm)=lo.map (·.ev bH):=uE fun t ht=>h t (by simp [AO.reads,ht])
  have hh:hi.map (·.ev tm)=hi.map (·.ev bH):=uE fun t ht=>h t (by simp [AO.reads,ht])
  simp only [aS,hx,hl,hh]
 | wR x lo hi=>
  have hx:x.ev tm=x.ev bH:=X.bV fun t ht=>h t (by simp [AO.reads,ht])
  have hl:lo.map (·.ev tm)=lo.map (·.ev bH):=uE fun t ht=>h t (by simp [AO.reads,ht])
  have hh:hi.map (·.ev tm)=hi.map (·.ev bH):=uE fun t ht=>h t (by simp [AO.reads,ht])
  simp only [aS,hx,hl,hh]
 | sA f xs=>
  have hp:(xs.map fun x=>x.ev tm)=xs.map fun x=>x.ev bH:=List.map_congr_left fun x hx=>X.bV fun t ht=>h t (by simp only [AO.reads];exact pT hx ht)
  simp only [aS,hp]
 | sB=>rfl
 | wS m k v=>
  have hm:m.ev tm=m.ev bH:=X.bV fun t ht=>h t (by simp [AO.reads,ht])
  have hk:k.ev tm=k.ev bH:=X.bV fun t ht=>h t (by simp [AO.reads,ht])
  have hv:v.ev tm=v.ev bH:=X.bV fun t ht=>h t (by simp [AO.reads,ht])
  simp only [aS,hm,hk,hv]
 | um m k z=>
  have hm:m.ev tm=m.ev bH:=X.bV fun t ht=>h t (by simp [AO.reads,ht])
  have hk:k.ev tm=k.ev bH:=X.bV fun t ht=>h t (by simp [AO.reads,ht])
  simp only [aS,hm,hk]
theorem Ik {o:AO} (ho:gd o.kind=false) {tm:Tm} {s s':St} {d:D} (h:aS o tm s=some (d,s')):s'=s:=by
 cases o <;> simp only [AO.kind,gd]at ho <;> first | cases ho | skip
 all_goals
  simp only [aS]at h
  first
   | (cases h;rfl)
   | (repeat' (split at h)) <;> first | (cases h;rfl) | cases h
theorem Kn {o:AO} (ho:o.kind = .pure) {tm:Tm} {s s':St} : (aS o tm s).map (·.1)=(aS o tm s').map (·.1):=by
 cases o <;> simp only [AO.kind]at ho <;> first | cases ho | skip
 all_goals
  simp only [aS]
  first
   | rfl
   | (repeat' split) <;> rfl
def ja (ai:AI) (tm:Tm) (s:St):Option D:=
 match ai with
 | .op _ none o=>(aS o tm s).map (·.1)
 | .op _ (some (t,want)) o=>
  match tm.get t with
  | .bool b=>if b=want then(aS o tm s).map (·.1)else some (.tuple [])
  | .tuple _=>some (.tuple [])
  | _=>none
 | _=>none
def qW (P:Program) (ai:AI) (tm:Tm) (s:St) (d:D) (s':St):Prop:=
 match ai with
 | .op _ g o=>guarded g tm (aS o tm s=some (d,s')) (d = .tuple []∧s'=s)
 | .call _ g f xs=>guarded g tm (eg P f (xs.map (·.ev tm)) s fun x y=>x=d∧y=s') (d = .tuple []∧s'=s)
 | .nil .. =>False
 | .iA .. =>False
def j8 (P:Program) (is:List AI) (K:Tm→St→Prop):List (Nat×Nat)→List St→Tm→St→Prop
 | [],_,tm,s=>K tm s
 | (q,b)::r,bq,tm,s=>
  match is[q]? with
  | none=>False
  | some ai=>
   match gd ai.kind with
   | true=>∃ d s',qW P ai tm s d s'∧j8 P is K r (s::bq) (tm.put ai.dst d) s'
   | false=>∃ d,ja ai tm s=some d∧(ai.kind = .load→∀ s'∈bq.take b,ja ai tm s'=some d)∧j8 P is K r bq (tm.put ai.dst d) s
def Tm.eqv (a b:Tm):Prop:=∀ t,a.get t=b.get t
theorem Tm.kx (tm:Tm) (dst:Option Nat) (d:D) (t:Nat):(tm.put dst d).get t=if dst=some t then d else tm.get t:=by
 cases dst with
 | none=>simp [Tm.put]
 | some u=>
  simp only [Tm.put,Tm.zQ,Option.some.injEq]
  by_cases h:t=u
  ·subst h;simp
  ·rw [if_neg h,if_neg (fun e=>h e.symm)]
theorem Tm.eqv.put {a b:Tm} (h:a.eqv b) (dst:Option Nat) (d:D):(a.put dst d).eqv (b.put dst d):=fun t=>by
 rw [Tm.kx,Tm.kx,h t]
theorem Tm.Ge (tm:Tm) {x y:Option Nat} (h : ∀ t,x=some t→y≠some t) (d e:D):((tm.put x d).put y e).eqv ((tm.put y e).put x d):=fun t=>by
 simp only [Tm.kx]
 by_cases h1:x=some t
 ·simp only [h1,h t h1,if_true,if_false]
 ·simp only [h1,if_false]
theorem xS {g:Option (Nat×Bool)} {tm bH:Tm} {A A' C:Prop} (h : ∀ t∈s7 g,tm.get t=bH.get t) (ha:A→A') (hh:guarded g tm A C):guarded g bH A' C:=by
 cases g with
 | none=>exact ha hh
 | some p=>
  obtain⟨t,want⟩:=p
  unfold guarded at *
  simp only at *
  rw [← h t (by simp [s7])]
  split
  ·rename_i b hb
   rw [hb]at hh
   exact⟨fun e=>ha (hh.1 e),hh.2⟩
  ·rename_i hb
   rw [hb]at hh
   exact hh
  ·rename_i x h1 h2
   split at hh
   ·exact h1 _ ‹_›
   ·exact h2 _ ‹_›
   ·exact hh
theorem DV {tm bH:Tm} : ∀ {l:List X},(∀ t∈mK l,tm.get t=bH.get t)→l.map (·.ev tm)=l.map (·.ev bH)
 | [],_=>rfl
 | x::r,h=>by
  simp only [List.map_cons]
  rw [X.bV fun t ht=>h t (by simp [mK,ht]),DV (l:=r) fun t ht=>h t (by simp [mK,ht])]
theorem vq {P:Program} {ai:AI} {tm bH:Tm} {s s':St} {d:D} (h : ∀ t∈ai.reads,tm.get t=bH.get t) (hh:qW P ai tm s d s'):qW P ai bH s d s':=by
 cases ai with
 | op dst g o=>
  simp only [AI.reads,List.mem_append]at h
  exact xS (fun t ht=>h t (.inl ht)) (fun e=>by rw [← AE fun t ht=>h t (.inr ht)];exact e) hh
 | call dst g f xs=>
  simp only [AI.reads,List.mem_append]at h
  exact xS (fun t ht=>h t (.inl ht)) (fun e=>by rw [← DV fun t ht=>h t (.inr ht)];exact e) hh
 | nil dst g n x=>exact hh
 | iA dst g t xs=>exact hh
theorem pC {ai:AI} {tm bH:Tm} {s:St} (h : ∀ t∈ai.reads,tm.get t=bH.get t):ja ai tm s=ja ai bH s:=by
 cases ai with
 | op dst g o=>
  simp only [AI.reads,List.mem_append]at h
  have he:=AE (s:=s) fun t ht=>h t (.inr ht)
  cases g with
  | none=>simp only [ja,he]
  | some p=>
   obtain⟨t,want⟩:=p
   simp only [ja,he,h t (.inl (by simp [s7]))]
 | call dst g f xs=>rfl
 | nil dst g n x=>rfl
 | iA dst g t xs=>rfl
theorem Jg {dst:Option Nat} {g:Option (Nat×Bool)} {o:AO} (h:gd (AI.op dst g o).kind=false):(AI.op dst g o).kind=o.kind:=by
 unfold AI.kind at *
 split at h
 ·cases h
 ·rename_i heq;cases heq;rfl
 ·cases h
theorem Qm {ai:AI} (hk:ai.kind = .pure) {tm:Tm} {s s':St} : ja ai tm s=ja ai tm s':=by
 cases ai with
 | op dst g o=>
  have ho:o.kind = .pure:=by rw [← hk];exact(Jg (by rw [hk];rfl)).symm
  have he:=Kn ho (tm:=tm) (s:=s) (s':=s')
  cases g with
  | none=>simp only [ja,he]
  | some p=>simp only [ja,he]
 | call dst g f xs=>rfl
 | nil dst g n x=>rfl
 | iA dst g t xs=>rfl
theorem apart_spec {a q:AI} (h:a.apart q=true):(∀ t,a.dst=some t→t∉q.reads)∧(∀ t,q.dst=some t→t∉a.reads)∧(∀ t,a.dst=some t→q.dst≠some t):=by
 unfold AI.apart at h
 simp only [Bool.and_eq_true]at h
 obtain⟨⟨h1,h2⟩,h3⟩:=h
 refine⟨fun t e=> ?_,fun t e=> ?_,fun t e e'=> ?_⟩
 ·rw [e]at h1;simpa [Bu]using h1
 ·rw [e]at h2;simpa [Bu]using h2
 ·rw [e,e']at h3;simp at h3
theorem qX {tm:Tm} {dst:Option Nat} {d:D} {l:List Nat} (h : ∀ t,dst=some t→t∉l) : ∀ t∈l,tm.get t=(tm.put dst d).get t:=fun t ht=>by
 rw [Tm.kx,if_neg fun e=>h t e ht]
section
variable {P:Program} {is:List AI} {K:Tm→St→Prop}
theorem qY (hK : ∀ tm bH s,Tm.eqv tm bH→K tm s→K bH s) : ∀ (R:List (Nat×Nat)) (bq:List St) (tm bH:Tm) (s:St),tm.eqv bH→j8 P is K R bq tm s→j8 P is K R bq bH s
 | [],_,tm,bH,s,e,h=>hK tm bH s e h
 | (q,b)::R,bq,tm,bH,s,e,h=>by
  unfold j8 at *
  split at h
  ·exact h.elim
  ·rename_i ai uB
   split at h
   ·rename_i hc
    obtain⟨d,s',h1,h2⟩:=h
    exact⟨d,s',vq (fun t _=>e t) h1,qY hK R _ _ _ _ (e.put _ d) h2⟩
   ·rename_i hc
    obtain⟨d,h1,h2,h3⟩:=h
    refine⟨d, ?_,fun hl s' nM=> ?_,qY hK R _ _ _ _ (e.put _ d) h3⟩
    ·rw [← pC fun t _=>e t];exact h1
    ·rw [← pC fun t _=>e t];exact h2 hl s' nM
theorem Gf (i:Nat) (l:List Nat):iK is (i::l)=(if gd (iB is i)then 1 else 0)+iK is l:=by
 unfold iK
 rw [List.filter_cons]
 split <;> simp <;> omega
theorem vr (hK : ∀ tm bH s,Tm.eqv tm bH→K tm s→K bH s) {q b:Nat} {ai:AI} (hq:is[q]? = some ai) (hm:gd ai.kind=false) (Y:List (Nat×Nat)) :
 ∀ (X:List (Nat×Nat)) (bq:List St) (tm:Tm) (s:St),(∀ a∈X,kq is a.1 q=true)→(ai.kind = .load→iK is (X.map (·.1))≤b)→
  j8 P is K (X++(q,b)::Y) bq tm s→
  ∃ d,ja ai tm s=some d∧(ai.kind = .load→∀ s'∈bq.take (b - iK is (X.map (·.1))),ja ai tm s'=some d)∧j8 P is K (X++Y) bq (tm.put ai.dst d) s
 | [],bq,tm,s,_,_,h=>by
  simp only [List.nil_append,j8,hq,hm]at h
  obtain⟨d,h1,h2,h3⟩:=h
  exact⟨d,h1,fun hl s' nM=>h2 hl s' (by simpa [iK]using nM),h3⟩
 | (a,c)::X,bq,tm,s,gf,hb,h=>by
  have Ko:=gf (a,c) (by simp)
  unfold kq at Ko
  split at Ko
  ·rename_i ia iq hia sq
   rw [hq]at sq
   cases sq
   obtain⟨p1,p2,p3⟩:=apart_spec Ko
   have uz:iB is a=ia.kind:=by simp [iB,hia]
   have Fl : ∀ x∈X,kq is x.1 q=true:=fun x hx=>gf x (List.mem_cons_of_mem _ hx)
   rw [List.map_cons,Gf,uz]at hb ⊢
   simp only [List.cons_append,j8,hia]at h ⊢
   cases hc:gd ia.kind
   ·simp only [hc,Bool.false_eq_true,if_false,Nat.zero_add]at h hb ⊢
    obtain⟨d,h1,h2,h3⟩:=h
    obtain⟨e,g1,g2,g3⟩:=vr hK hq hm Y X bq _ s Fl hb h3
    have cg : ∀ s,ja ai tm s=ja ai (tm.put ia.dst d) s:=fun s=>pC (qX p1)
    have cg' : ∀ s,ja ia tm s=ja ia (tm.put ai.dst e) s:=fun s=>pC (qX p2)
    refine⟨e,by rw [cg];exact g1,fun hl s' nM=>by rw [cg];exact g2 hl s' nM,d,by rw [← cg'];exact h1,fun hl s' nM=>by rw [← cg'];exact h2 hl s' nM, ?_⟩
    exact qY hK _ _ _ _ _ (Tm.Ge tm p3 d e) g3
   ·simp only [hc,if_true]at h hb ⊢
    obtain⟨d,s1,h1,h3⟩:=h
    obtain⟨e,g1,g2,g3⟩:=vr hK hq hm Y X (s::bq) _ s1 Fl (fun hl=>by have:=hb hl;omega) h3
    have cg : ∀ s,ja ai tm s=ja ai (tm.put ia.dst d) s:=fun s=>pC (qX p1)
    have oZ:ja ai tm s=some e:=by
     cases hk:ai.kind with
     | pure=>rw [cg,Qm hk (s':=s1)];exact g1
     | load=>
      have:=hb hk
      rw [cg]
      refine g2 hk s ?_
      rw [show b - iK is (X.map (·.1))=(b - (1+iK is (X.map (·.1))))+1 by omega,List.take_succ_cons]
      exact List.mem_cons_self
     | alloc=>rw [hk]at hm;cases hm
     | core=>rw [hk]at hm;cases hm
    refine⟨e,oZ,fun hl s' nM=> ?_,d,s1,vq (qX p2) h1,qY hK _ _ _ _ _ (Tm.Ge tm p3 d e) g3⟩
    have:=hb hl
    rw [cg]
    refine g2 hl s' ?_
    rw [show b - iK is (X.map (·.1))=(b - (1+iK is (X.map (·.1))))+1 by omega,List.take_succ_cons]
    exact List.mem_cons_of_mem _ nM
  ·cases Ko
end
end Go.Abs

/-! Par1 -/

namespace Go.Abs
section
variable {P:Program}
theorem Nf {o:Oper} {z:List D} (h:Bv P o=some (.alloc z)) : ∃ t,o.op = .alloc t∧zeroOf P t=some z:=by
 obtain⟨dst,op,type,pos,after,guard⟩:=o
 unfold Bv at h
 simp only at h
 split at h
 case h_4 t=>
  split at h
  ·obtain⟨z',h1,h2⟩:=map_some h;cases h2
  ·obtain⟨z',h1,h2⟩:=map_some h;cases h2;exact⟨t,rfl,h1⟩
 all_goals
  first
   | (rw [Option.map_eq_some_iff]at h;obtain⟨_,_,h⟩:=h;cases h)
   | skip
 all_goals
  (repeat' (split at h)) <;> first | (cases h;done) | (rw [Option.map_eq_some_iff]at h;obtain⟨_,_,h⟩:=h;cases h)
theorem yH {nt:Nat} {ops:Array Oper} {o:Oper} {ai:AI} (h:cI P nt ops o=some ai) :
 ∃ g,s8 ops o.guard=some g∧(∀ t,o.dst=some t→t<nt)∧qT P ops o g=some ai:=by
 have h2:=vY h
 unfold cI at h
 split at h
 ·cases h
 ·rename_i g hg
  split at h
  ·exact⟨g,hg,h2,h⟩
  ·cases h
theorem rA {ops:Array Oper} {o:Oper} {g:Option (Nat×Bool)} {ai:AI} (h:qT P ops o g=some ai):ai.dst=o.dst:=by
 unfold qT at h
 split at h
 ·split at h
  ·obtain⟨xs,_,rfl⟩:=map_some h;rfl
  ·cases h
 ·obtain⟨xs,_,rfl⟩:=map_some h;rfl
 ·split at h
  ·cases h;rfl
  ·split at h
   ·cases h;rfl
   ·cases h;rfl
   ·cases h
theorem rB {nt:Nat} {ops:Array Oper} {o:Oper} {ai:AI} (h:cI P nt ops o=some ai):ai.dst=o.dst:=by
 obtain⟨g,_,_,h⟩:=yH h
 exact rA h
theorem vt {nt:Nat} {ops:Array Oper} {i:Nat} {o:Oper} {ai:AI} (hi:ops[i]? = some o) (hc:cI P nt ops o=some ai)
 {M:Map} {s:St} {w:World} {tm:Tm} {act:Act} (r:Rel M s w) (kK:Laid M s w) (ht:k7 M s tm act.tmps) {K':Tm→St→Prop} (h:ib P [ai] K' tm s)
 {K:Act→World→Prop} {Q:Exit→Act→World→Prop}
 (hK : ∀ d v s1 w1 M1,K' (tm.put ai.dst d) s1→Ext M s w M1 s1 w1→Rel M1 s1 w1→RD M1 s1 d v→K (act.put o.dst v) w1):wpOp P ops Q i K act w:=by
 obtain⟨g,hg,_,hb⟩:=yH hc
 rw [rA hb]at hK
 simp only [wpOp,hi]
 have skip:K' (tm.put o.dst (.tuple [])) s→K (act.put o.dst Go.undef) w:=fun hk=>hK _ _ _ _ _ hk (Ext.refl M s w) r .undef
 unfold qT at hb
 split at hb
 ·rename_i f args mO lE
  split at hb
  ·rename_i wZ
   obtain⟨xs,nq,rfl⟩:=map_some hb
   simp only [ib]at h
   rcases jl hg ht h with ⟨hw,hA⟩ | ⟨hw,hB⟩
   ·simp only [hw,if_true]
    left
    have hex:(execOp act.eval o).run P w = .ok (.enter f (args.map act.eval)) w:=by
     obtain⟨dst,op,type,pos,after,guard⟩:=o
     simp only at lE
     subst lE
     exact vn act.eval dst f args mO type pos after guard rfl wZ w
    obtain⟨c1,c2⟩:=uA ht nq
    unfold Oper.wp
    rw [hex,Oper.upon_enter]
    refine(hA M w (args.map act.eval) r kK (by simp [c1]) (fun i d v e1 e2=>c2 i d v e1 (by simpa using e2))).mono ?_
    rintro en w' ⟨M',d,v,s',rfl,hk,e',r',hv⟩
    exact hK _ _ _ _ _ hk e' r' hv
   ·simp only [hw]
    exact skip hB
  ·cases hb
 ·rename_i t args mO lE
  obtain⟨xs,nq,rfl⟩:=map_some hb
  simp only [ib]at h
  rcases jl hg ht h with ⟨hw,hA⟩ | ⟨hw,hB⟩
  ·simp only [hw,if_true]
   left
   split at hA
   ·rename_i f mn xP
    obtain⟨wZ,hA⟩:=hA
    have MY:=ht t
    rw [xP]at MY
    obtain⟨vs,rr,hlen,BL⟩:=MY.I7
    have hex:(execOp act.eval o).run P w = .ok (.enter f (args.map act.eval++vs)) w:=by
     obtain⟨dst,op,type,pos,after,guard⟩:=o
     simp only at lE
     subst lE
     exact yz act.eval dst (.tmp t) f vs args mO type pos after guard rr wZ w
    have cc:=DR nq ht hlen BL
    unfold Oper.wp
    rw [hex,Oper.upon_enter]
    refine(hA M w (args.map act.eval++vs) r kK cc.1 cc.2).mono ?_
    rintro en w' ⟨M',d,v,s',rfl,hk,e',r',hv⟩
    exact hK _ _ _ _ _ hk e' r' hv
   ·exact hA.elim
  ·simp only [hw]
   exact skip hB
 ·split at hb
  ·rename_i neg x F6
   cases hb
   simp only [ib]at h
   rcases jl hg ht h with ⟨hw,hA⟩ | ⟨hw,hB⟩
   ·simp only [hw,if_true]
    left
    split at hA
    ·rename_i g' z rows hx
     obtain⟨b,hb,hex⟩:=xO (w:=w) F6 ht hx
     unfold Oper.wp
     rw [hex,Oper.upon_value]
     exact hK _ _ _ _ _ (hA b hb) (Ext.refl M s w) r (.bool _)
    ·exact hA.elim
   ·simp only [hw]
    exact skip hB
  ·have fin : ∀ ao,ai = .op o.dst g ao→(∀ d s',aS ao tm s=some (d,s')→dw P M s w (execOp act.eval o) d s')→
    (if Region.wanted o (yielded ops act.tmps)=true then o.wp P act w K Q∨(o.asks P act w∧LetsOut Q)else K (act.put o.dst Go.undef) w):=by
    intro ao uB XD
    subst uB
    simp only [ib]at h
    rcases jl hg ht h with ⟨hw,hA⟩ | ⟨hw,hB⟩
    ·simp only [hw,if_true]
     left
     split at hA
     ·rename_i d s' pA
      obtain⟨v,w',M',dF,r',hv,e'⟩:=XD d s' pA
      unfold Oper.wp
      rcases dF with dF | ⟨dF,rfl⟩
      ·rw [dF,Oper.upon_value]
       exact hK _ _ _ _ _ hA e' r' hv
      ·rw [dF,Oper.upon_skip]
       exact hK _ _ _ _ _ hA e' r' hv
     ·exact hA.elim
    ·simp only [hw]
     exact skip hB
   split at hb
   ·rename_i z k n ps mP
    cases hb
    refine fin _ rfl (fun d s' pA=> ?_)
    split at pA
    ·exact wY mP r ht pA
    ·exact qU mP r ht pA
   ·rename_i ao mP
    cases hb
    exact fin _ rfl (fun d s' pA=>qU mP r ht pA)
   ·cases hb
structure Jh (M:Map) (s:St) (b:Nat):Prop where
 o : ∀ o,o<s.aA.length→M.mu o≠b
 t : ∀ t c z,s.live t→M.be t≠some (b,c,z)
 g : ∀ off,M.G b off=none
theorem Jh.mono {M M':Map} {s s':St} {w w':World} {b:Nat} (h:Jh M s b) (e:Ext M s w M' s' w') (hb:b<w.heap.size):Jh M' s' b:=by
 refine⟨fun o ho=> ?_,fun t c z hl he=> ?_,fun off=> ?_⟩
 ·rcases Nat.lt_or_ge o s.aA.length with h1 | h1
  ·rw [e.le.mu o h1];exact h.o o h1
  ·have:=e.pL o h1 ho;omega
 ·rcases e.pM t b c z hl he with ⟨h1,c',z',h2⟩ | h1
  ·exact h.t t c' z' h1 h2
  ·omega
 ·by_cases hg:M'.G b off=M.G b off
  ·rw [hg];exact h.g off
  ·rcases e.rP b off hg with h1 | ⟨t,c,z,h1,h2⟩
   ·omega
   ·exact(h.t t c z h1 h2).elim
theorem Rel.idle {M:Map} {s:St} {w:World} (r:Rel M s w) (x:Obj):Rel M s (w.alloc x)∧Ext M s w M s (w.alloc x)∧Jh M s w.heap.size:=by
 refine⟨⟨fun b o v e=> ?_,fun o ds e=> ?_,r.kz,r.inj,fun t n e=> ?_,r.fm,r.fS⟩, ?_,⟨fun o ho=> ?_,fun t c z hl e=> ?_,fun off=>r.SX (Nat.le_refl _) off⟩⟩
 ·obtain⟨h3,h4⟩:=r.comm b o v e
  refine⟨?_,h4⟩
  rw [World.cell?_alloc_lt]
  ·exact h3
  ·exact r.CP e
 ·obtain⟨vs,T,h3,h4,h5,h6⟩:=r.obj o ds e
  exact⟨vs,T,by rw [heap_alloc_old w _ _ h3.lt];exact h3,h4,h5,h6⟩
 ·rcases r.tok t n e with h3 | ⟨b,cap,size,fD,T',h3,h4,h5⟩
  ·exact .inl h3
  ·exact .inr ⟨b,cap,size,fD,T',h3,by rw [heap_alloc_old w _ _ (kZ h4)];exact h4,h5⟩
 ·exact⟨Le.refl M s,fun b hb _ _=>heap_alloc_old w _ b hb,fun o h3 h4=>by omega,fun t b c z h e=> .inl ⟨h,c,z,e⟩,fun _ _ h=>(h rfl).elim,by simp,rfl,rfl,rfl⟩
 ·have:=r.pP ho;omega
 ·have:=r.sC hl e;omega
theorem Rel.abw {M:Map} {s:St} {w:World} (r:Rel M s w) {B:fj} (e:Ext B.M B.s B.w M s w) {b:Nat} (u:Jh M s b) (hb:B.w.heap.size≤b)
 (ds:List D) (vs:Array Value) (T:TypeId) (hh:w.heap[b]? = some (.cells vs T (0,0))) (hl:vs.size=ds.length) (h1 : ∀ v∈vs,v.oneCell'=true)
 (h2 : ∀ (i:Nat) (d:D) (v:Value),ds[i]? = some d→vs[i]? = some v→RD M s d v) :
 Rel (M.dQ s.aA.length b) {s with aA:=s.aA++ [ds]} w∧Ext B.M B.s B.w (M.dQ s.aA.length b) {s with aA:=s.aA++ [ds]} w∧
 Le M s (M.dQ s.aA.length b) {s with aA:=s.aA++ [ds]}:=by
 have le:=s9 (M:=M) s b ds
 have py : ∀ o,o<s.aA.length→(M.dQ s.aA.length b).mu o=M.mu o:=le.mu
 have dV:(M.dQ s.aA.length b).mu s.aA.length=b:=by simp [Map.dQ,Map.mu]
 refine⟨⟨r.comm,fun o nn e'=> ?_,fun o ho off=> ?_,fun o o' ho ml e'=> ?_,r.tok,fun t b' c z o hl e' ho=> ?_,r.fS⟩, ?_,le⟩
 ·rcases Nat.lt_or_ge o s.aA.length with ho | ho
  ·rw [List.getElem?_append_left ho]at e'
   obtain⟨fD,T',h3,h4,h5,h6⟩:=r.obj o nn e'
   refine⟨fD,T', ?_,h4,⟨h5.1,by rw [le.ty o ho];exact h5.2⟩,fun i d v e1 e2=>(h6 i d v e1 e2).mono le⟩
   rw [py o ho,le.ob o ho];exact h3
  ·rw [List.getElem?_append_right ho]at e'
   have:o=s.aA.length:=by
    have:=(List.getElem?_eq_some_iff.1 e').1
    simp at this;omega
   subst this
   simp at e';subst e'
   refine⟨vs,T, ?_,hl,⟨h1,fun T' h=>by simp [Map.dQ,Map.ty,Ob.ty?]at h⟩,fun i d v e1 e2=>(h2 i d v e1 e2).mono le⟩
   rw [dV];exact lJ.of hh (by simp [Map.dQ,Map.ob])
 ·simp at ho
  rcases Nat.lt_or_ge o s.aA.length with h3 | h3
  ·rw [py o h3];exact r.kz o h3 off
  ·have:o=s.aA.length:=by omega
   subst this
   rw [dV];exact u.g off
 ·simp at ho ml
  rcases Nat.lt_or_ge o s.aA.length with h3 | h3 <;> rcases Nat.lt_or_ge o' s.aA.length with h4 | h4
  ·rw [py o h3,py o' h4]at e';exact r.inj o o' h3 h4 e'
  ·have:o'=s.aA.length:=by omega
   subst this
   rw [py o h3,dV]at e'
   exact(u.o o h3 e').elim
  ·have:o=s.aA.length:=by omega
   subst this
   rw [py o' h4,dV]at e'
   exact(u.o o' h4 e'.symm).elim
  ·omega
 ·simp at ho
  rcases Nat.lt_or_ge o s.aA.length with h3 | h3
  ·rw [py o h3];exact r.fm t b' c z o hl e' h3
  ·have:o=s.aA.length:=by omega
   subst this
   rw [dV]
   intro he
   subst he
   exact u.t t c z hl e'
 ·refine⟨e.le.trans le,e.kept,fun o h3 h4=> ?_,e.pM,e.rP,e.size,e.os,e.tape,e.output⟩
  simp at h4
  rcases Nat.lt_or_ge o s.aA.length with h5 | h5
  ·rw [py o h5];exact e.pL o h3 h5
  ·have:o=s.aA.length:=by omega
   subst this
   rw [dV];exact hb
theorem Il {nt:Nat} {ops:Array Oper} {i:Nat} {o:Oper} {t:Nat} {z:List D} (hi:ops[i]? = some o) (hc:cI P nt ops o=some (.op (some t) none (.alloc z)))
 {w:World} {act:Act} {K:Act→World→Prop} {Q:Exit→Act→World→Prop}
 (hK : ∀ vs T,vs.size=z.length→(∀ v∈vs,v.oneCell'=true)→(∀ (M:Map) (s:St) (i:Nat) (d:D) (v:Value),z[i]? = some d→vs[i]? = some v→RD M s d v)→
  K (act.put (some t) (.pointer (some ⟨w.heap.size,0,none⟩))) (w.alloc (.cells vs T))):wpOp P ops Q i K act w:=by
 obtain⟨g,hg,_,hb⟩:=yH hc
 have o8:=rA hb
 simp only [AI.dst]at o8
 simp only [wpOp,hi]
 have lE:g=none∧Bv P o=some (.alloc z):=by
  unfold qT at hb
  split at hb
  ·split at hb
   ·obtain⟨xs,_,h⟩:=map_some hb;cases h
   ·cases hb
  ·obtain⟨xs,_,h⟩:=map_some hb;cases h
  ·split at hb
   ·cases hb
   ·split at hb
    ·rename_i mP
     simp only [Option.some.injEq,AI.op.injEq]at hb
     obtain⟨_,_,h⟩:=hb
     split at h <;> cases h
    ·rename_i ao mP
     simp only [Option.some.injEq,AI.op.injEq]at hb
     obtain⟨_,h1,h2⟩:=hb
     subst h2
     exact⟨h1,mP⟩
    ·cases hb
 obtain⟨rfl,mP⟩:=lE
 obtain⟨T,hT,hz⟩:=Nf mP
 have hw:Region.wanted o (yielded ops act.tmps)=true:=by
  have:o.guard=none:=by
   cases DN:o.guard with
   | none=>rfl
   | some p=>
    obtain⟨j,b⟩:=p
    rw [DN]at hg
    unfold s8 at hg
    simp only at hg
    split at hg <;> cases hg
  simp [Region.wanted,this]
 simp only [hw,if_true]
 left
 unfold zeroOf at hz
 split at hz
 ·rename_i inf Qh
  split at hz
  ·rename_i v hv
   split at hz
   ·have dF:(execOp act.eval o).run P w = .ok (.value (.pointer (some ⟨w.heap.size,0,none⟩))) (w.alloc (.cells v.cells T)):=by
     obtain⟨dst,op,type,pos,after,guard⟩:=o
     simp only at hT
     subst hT
     simp [execOp,Instr.alloc,zeroValue,gH P Qh,hv,newVar,newRow]
    have h3:=fun M s=>kv (M:=M) (s:=s) hz
    obtain⟨h1,h2,_⟩:=h3 ⟨fun _ _=>none,fun _=>(0, .any),fun _=>none⟩ ⟨[],[]⟩
    unfold Oper.wp
    rw [dF,Oper.upon_value, ← o8]
    exact hK _ _ (by rw [h1];simp) (fun u hu=>h2 u (by simpa using hu)) (fun M s i d u e1 e2=>(h3 M s).2.2 i d u e1 (by simpa using e2))
   ·cases hz
  ·cases hz
 ·cases hz
end
end Go.Abs

/-! Par2 -/

namespace Go.Abs
section
variable {is:List AI} {af pt:List (List Nat)}
theorem xT {pq:List Nat} {l l':List Nat} (h:l'.Sublist l) (hb:ki is pq l=true):ki is pq l'=true:=by
 induction h with
 | slnil=>rfl
 | cons a h ih=>
  simp only [ki,Bool.and_eq_true]at hb
  exact ih hb.2
 | cons_cons a h ih=>
  simp only [ki,Bool.and_eq_true,Bool.or_eq_true]at hb ⊢
  refine⟨hb.1.imp id fun h1=> ?_,ih hb.2⟩
  rw [List.all_eq_true]at h1 ⊢
  exact fun x hx=>h1 x (h.subset hx)
theorem zU {f:Nat→Bool} {l l':List Nat} (h:l'.Sublist l) (ha:l.all f=true):l'.all f=true:=by
 rw [List.all_eq_true]at ha ⊢
 exact fun x hx=>ha x (h.subset hx)
theorem Io {l l':List Nat} (h:l'.Sublist l):iK is l'≤iK is l:=(h.filter _).length_le
theorem Kp {pre C2:List Nat} {q b:Nat} (h:C2.Sublist pre) (hs:nK is pt pre q b=true):nK is pt C2 q b=true:=by
 unfold nK at *
 split at hs
 ·exact zU h hs
 ·exact zU h hs
 ·simp only [Bool.and_eq_true]at hs ⊢
  exact⟨zU h hs.1,xT h hs.2⟩
 ·simp only [Bool.and_eq_true,decide_eq_true_eq]at hs ⊢
  exact⟨⟨zU h hs.1.1,xT h hs.1.2⟩,Nat.le_trans (Io (h.filter _)) hs.2⟩
theorem Gg : ∀ {R:List (Nat×Nat)} {pre C2:List Nat},C2.Sublist pre→sj is af pt pre R=true→sj is af pt C2 R=true
 | [],_,_,_,_=>rfl
 | (q,b)::R,pre,C2,h,ho=>by
  simp only [sj,Bool.and_eq_true,Bool.not_eq_true']at ho ⊢
  obtain⟨⟨⟨h1,h2⟩,h3⟩,h4⟩:=ho
  refine⟨⟨⟨Kp h h1, ?_⟩,h3⟩,Gg (h.cons_cons q) h4⟩
  rw [← Bool.not_eq_true,List.contains_iff_mem]at h2 ⊢
  exact fun hm=>h2 (h.subset hm)
theorem C3 : ∀ {X:List (Nat×Nat)} {e:Nat×Nat} {Y:List (Nat×Nat)} {pre:List Nat},sj is af pt pre (X++e::Y)=true→sj is af pt pre (X++Y)=true
 | [],(q,b),Y,pre,h=>by
  simp only [List.nil_append,sj,Bool.and_eq_true]at h
  exact Gg (List.sublist_cons_self q pre) h.2
 | (a,c)::X,e,Y,pre,h=>by
  simp only [List.cons_append,sj,Bool.and_eq_true]at h ⊢
  obtain⟨⟨⟨h1,h2⟩,h3⟩,h4⟩:=h
  refine⟨⟨⟨h1,h2⟩, ?_⟩,C3 h4⟩
  rw [List.all_eq_true]at h3 ⊢
  intro j hj
  have:=h3 j hj
  simp only [Bool.and_eq_true,Bool.not_eq_true']at this ⊢
  refine⟨this.1, ?_⟩
  have h5:=this.2
  rw [← Bool.not_eq_true,List.contains_iff_mem]at h5 ⊢
  refine fun hm=>h5 ?_
  simp only [List.map_append,List.map_cons,List.mem_append,List.mem_cons]at hm ⊢
  exact hm.imp id .inr
theorem rC : ∀ {X:List (Nat×Nat)} {q b:Nat} {Y:List (Nat×Nat)} {pre:List Nat},sj is af pt pre (X++(q,b)::Y)=true→
 nK is pt ((X.map (·.1)).reverse++pre) q b=true∧q∉X.map (·.1)∧q∉pre∧(∀ j∈gw af q,j≠q∧j∉Y.map (·.1))∧sj is af pt (q::((X.map (·.1)).reverse++pre)) Y=true
 | [],q,b,Y,pre,h=>by
  simp only [List.nil_append,sj,Bool.and_eq_true,Bool.not_eq_true']at h
  obtain⟨⟨⟨h1,h2⟩,h3⟩,h4⟩:=h
  rw [← Bool.not_eq_true,List.contains_iff_mem]at h2
  refine⟨h1,by simp,h2,fun j hj=> ?_,h4⟩
  rw [List.all_eq_true]at h3
  have:=h3 j hj
  simp only [Bool.and_eq_true,bne_iff_ne,Bool.not_eq_true', ← Bool.not_eq_true,List.contains_iff_mem]at this
  exact this
 | (a,c)::X,q,b,Y,pre,h=>by
  simp only [List.cons_append,sj,Bool.and_eq_true]at h
  obtain⟨_,h4⟩:=h
  obtain⟨g1,g2,g3,g4,g5⟩:=rC h4
  simp only [List.map_cons,List.reverse_cons,List.append_assoc,List.singleton_append]
  refine⟨g1, ?_,fun h=>g3 (List.mem_cons_of_mem _ h),g4,g5⟩
  intro hm
  rcases List.mem_cons.1 hm with rfl | hm
  ·exact g3 (by simp)
  ·exact g2 hm
theorem zV : ∀ {Y:List (Nat×Nat)} {pre:List Nat},sj is af pt pre Y=true→∀ x∈Y,x.1∉pre∧(iB is x.1 = .alloc→∀ a∈pre,kq is a x.1=true)
 | [],_,_,x,hx=>by cases hx
 | (q,b)::Y,pre,h,x,hx=>by
  simp only [sj,Bool.and_eq_true,Bool.not_eq_true']at h
  obtain⟨⟨⟨h1,h2⟩,_⟩,h4⟩:=h
  rw [← Bool.not_eq_true,List.contains_iff_mem]at h2
  rcases List.mem_cons.1 hx with rfl | hx
  ·refine⟨h2,fun hk a ha=> ?_⟩
   unfold nK at h1
   simp only [hk]at h1
   rw [List.all_eq_true]at h1
   exact h1 a ha
  ·obtain⟨g1,g2⟩:=zV h4 x hx
   exact⟨fun h=>g1 (List.mem_cons_of_mem _ h),fun hk a ha=>g2 hk a (List.mem_cons_of_mem _ ha)⟩
theorem AG : ∀ {n:Nat},vT af pt n=true→∀ i,i<n→∀ j∈gw pt i,j∈gw af i∨∃ k∈gw af i,j∈gw pt k
 | 0,_,i,hi=>by omega
 | n+1,h,i,hi=>by
  simp only [vT,Bool.and_eq_true]at h
  rcases Nat.lt_or_ge i n with h1 | h1
  ·exact AG h.2 i h1
  ·have:i=n:=by omega
   subst this
   intro j hj
   have:=h.1
   rw [List.all_eq_true]at this
   have:=this j hj
   simp only [Bool.or_eq_true,List.contains_iff_mem,List.any_eq_true]at this
   exact this
theorem v8 {pq:List Nat} : ∀ {l:List Nat},ki is pq l=true→∀ (x:Nat) (l1 l2:List Nat),l=l1++x::l2→iB is x = .alloc→x∈pq→∀ y∈l2,y∈pq
 | [],_,x,l1,l2,h=>by simp at h
 | a::l,hb,x,l1,l2,h=>by
  simp only [ki,Bool.and_eq_true,Bool.or_eq_true,Bool.not_eq_true',Bool.and_eq_false_iff]at hb
  intro hk hx y hy
  cases l1 with
  | nil=>
   simp only [List.nil_append,List.cons.injEq]at h
   obtain⟨rfl,rfl⟩:=h
   rcases hb.1 with h1 | h1
   ·rcases h1 with h1 | h1
    ·simp [hk]at h1
    ·rw [← Bool.not_eq_true,List.contains_iff_mem]at h1
     exact(h1 hx).elim
   ·rw [List.all_eq_true]at h1
    have:=h1 y hy
    rwa [List.contains_iff_mem]at this
  | cons b l1=>
   simp only [List.cons_append,List.cons.injEq]at h
   exact v8 hb.2 x l1 l2 h.2 hk hx y hy
end
structure Pd where
 q:Nat
 t:Nat
 z:List D
 b:Nat
structure XJ (is:List AI) (R:List (Nat×Nat)) (B:fj) (M:Map) (s:St) (act:Act) (w:World) (p:Pd):Prop where
 mem:p.q∈R.map (·.1)
 ai:is[p.q]? = some (.op (some p.t) none (.alloc p.z))
 cells : ∃ (vs:Array Value) (T:TypeId),w.heap[p.b]? = some (.cells vs T (0,0))∧vs.size=p.z.length∧(∀ v∈vs,v.oneCell'=true)∧
  ∀ (M:Map) (s:St) (i:Nat) (d:D) (v:Value),p.z[i]? = some d→vs[i]? = some v→RD M s d v
 unk:Jh M s p.b
 base:B.w.heap.size≤p.b
 slot:act.tmps.getD p.t Go.undef = .pointer (some ⟨p.b,0,none⟩)
def w8 (P:Program) (is:List AI) (K:Tm→St→Prop) (B:fj) (nt:Nat) (R:List (Nat×Nat)) (dM:List Pd) (act:Act) (w:World):Prop:=
 ∃ (M:Map) (s:St) (tm rD:Tm) (bq:List St),Ext B.M B.s B.w M s w∧Rel M s w∧k7 M s rD act.tmps∧(∀ t,(∀ p∈dM,p.t≠t)→rD.get t=tm.get t)∧
  act.tmps.size=nt∧act.defers = []∧j8 P is K R bq tm s∧(∀ p∈dM,XJ is R B M s act w p)∧
  (∀ p∈dM,∀ p'∈dM,p.q=p'.q∨p.t=p'.t∨p.b=p'.b→p=p')
structure pU (is:List AI) (af pt:List (List Nat)) (c9:Array Bool) (R:List (Nat×Nat)) (dM:List Pd):Prop where
 ok:sj is af pt [] R=true
 DW : ∀ i,i<is.length→(c9.getD i false=true↔(i∉R.map (·.1)∨∃ p∈dM,p.q=i))
 cl : ∀ i,i<is.length→c9.getD i false=true→∀ j∈gw pt i,c9.getD j false=true
 size:c9.size=is.length
 lt : ∀ x∈R,x.1<is.length
section
variable {P:Program} {is:List AI} {af pt:List (List Nat)} {K:Tm→St→Prop} {B:fj} {nt:Nat}
theorem XK {c9:Array Bool} {q b:Nat} {R:List (Nat×Nat)} {dM:List Pd} {act:Act} {w:World} (hs:pU is af pt c9 ((q,b)::R) dM) (h:w8 P is K B nt ((q,b)::R) dM act w)
 {p:Pd} (hp:p∈dM) (sr:p.q=q) :
 pU is af pt c9 R (dM.filter fun p'=>decide (p'.q≠q))∧w8 P is K B nt R (dM.filter fun p'=>decide (p'.q≠q)) act w:=by
 have ng : ∀ p',p'∈(dM.filter fun p'=>decide (p'.q≠q))↔p'∈dM∧p'.q≠q:=fun p'=>by simp
 constructor
 ·have DT:=hs.ok
  have Bb:=rC (X:= []) DT
  refine⟨C3 (X:= []) DT,fun i hi=> ?_,hs.cl,hs.size,fun x hx=>hs.lt x (List.mem_cons_of_mem _ hx)⟩
  rw [hs.DW i hi]
  simp only [List.map_cons,List.mem_cons,not_or]
  have XL:q∉R.map (·.1):=fun hm=>by
   obtain⟨x,hx,rfl⟩:=List.mem_map.1 hm
   exact(zV Bb.2.2.2.2 x hx).1 (by simp)
  constructor
  ·rintro(⟨h1,h2⟩ | ⟨p',h1,h2⟩)
   ·exact .inl h2
   ·by_cases hq:i=q
    ·subst hq;exact .inl XL
    ·exact .inr ⟨p',(ng p').2 ⟨h1,by rw [h2];exact hq⟩,h2⟩
  ·rintro(h1 | ⟨p',h1,h2⟩)
   ·by_cases hq:i=q
    ·subst hq;exact .inr ⟨p,hp,sr⟩
    ·exact .inl ⟨hq,h1⟩
   ·exact .inr ⟨p',((ng p').1 h1).1,h2⟩
 ·obtain⟨M,s,tm,rD,bq,e,r,ht,oZ,hn,hd,hg,uF,qZ⟩:=h
  have hk:=uF p hp
  obtain⟨vs,T,hh,hl,h1,h2⟩:=hk.cells
  have uB:=hk.ai
  rw [sr]at uB
  simp only [j8,uB,AI.kind,gd]at hg
  obtain⟨d,s',Au,hg⟩:=hg
  have pA:aS (.alloc p.z) tm s=some (d,s'):=Au
  simp only [aS,Option.some.injEq,Prod.mk.injEq]at pA
  obtain⟨rfl,rfl⟩:=pA
  obtain⟨r',e',le⟩:=r.abw e hk.unk hk.base p.z vs T hh hl h1 (h2 M s)
  refine⟨_,_,_,rD.put (some p.t) (.ptr s.aA.length 0),_,e',r',fun u=> ?_,fun t XM=> ?_,hn,hd,hg,fun p' nu=> ?_,fun p1 h1 p2 h2=>qZ p1 ((ng p1).1 h1).1 p2 ((ng p2).1 h2).1⟩
  ·rw [Tm.kx]
   split
   ·rename_i heq
    cases heq
    rw [hk.slot]
    have:(M.dQ s.aA.length p.b).mu s.aA.length=p.b:=by simp [Map.dQ,Map.mu]
    have h5:=RD.ptr (M:=M.dQ s.aA.length p.b) (s:= {s with aA:=s.aA++ [p.z]}) s.aA.length 0 (by simp) (by simp [Map.dQ,Map.ob])
    rw [this]at h5
    exact h5
   ·exact(ht u).mono le
  ·simp only [AI.dst]
   rw [Tm.kx,Tm.kx]
   split
   ·rfl
   ·rename_i fp
    refine oZ t fun p' nu=> ?_
    by_cases hq:p'.q=q
    ·have:=qZ p' nu p hp (.inl (hq.trans sr.symm))
     subst this
     exact fun h=>fp (by rw [h])
    ·exact XM p' ((ng p').2 ⟨nu,hq⟩)
  ·obtain⟨hp1,hp2⟩:=(ng p').1 nu
   have AH:=uF p' hp1
   refine⟨?_,AH.ai,AH.cells,⟨fun o ho=> ?_,AH.unk.t,AH.unk.g⟩,AH.base,AH.slot⟩
   ·have:=AH.mem
    simp only [List.map_cons,List.mem_cons]at this
    exact this.resolve_left hp2
   ·simp at ho
    rcases Nat.lt_or_ge o s.aA.length with h5 | h5
    ·rw [le.mu o h5];exact AH.unk.o o h5
    ·have:o=s.aA.length:=by omega
     subst this
     have:(M.dQ s.aA.length p.b).mu s.aA.length=p.b:=by simp [Map.dQ,Map.mu]
     rw [this]
     intro hb
     have:=qZ p hp p' hp1 (.inr (.inr hb))
     subst this
     exact hp2 sr
theorem norm {c9:Array Bool} {act:Act} {w:World} : ∀ (R:List (Nat×Nat)) (dM:List Pd),pU is af pt c9 R dM→w8 P is K B nt R dM act w→
 ∃ R' uG,pU is af pt c9 R' uG∧w8 P is K B nt R' uG act w∧∀ x l,R'=x::l→∀ p∈uG,p.q≠x.1
 | [],dM,hs,h=>⟨[],dM,hs,h,fun _ _ he=>by cases he⟩
 | (q,b)::R,dM,hs,h=>by
  by_cases hp : ∃ p∈dM,p.q=q
  ·obtain⟨p,hp,sr⟩:=hp
   obtain⟨h1,h2⟩:=XK hs h hp sr
   exact norm R _ h1 h2
  ·refine⟨(q,b)::R,dM,hs,h,fun x l he p XN sr=>hp ⟨p,XN, ?_⟩⟩
   cases he
   exact sr
theorem Tq {ops:Array Oper} {q:Nat} {o:Oper} {ai:AI} (hi:ops[q]? = some o) (hc:cI P nt ops o=some ai) {R R':List (Nat×Nat)} {dM:List Pd} {act:Act} {w:World} {M:Map} {s s1:St} {tm rD:Tm} {d:D} {Tr:List St}
 (e:Ext B.M B.s B.w M s w) (r:Rel M s w) (ht:k7 M s rD act.tmps) (oZ : ∀ t,(∀ p∈dM,p.t≠t)→rD.get t=tm.get t) (hn:act.tmps.size=nt) (hd:act.defers = [])
 (uF : ∀ p∈dM,XJ is R B M s act w p) (qZ : ∀ p∈dM,∀ p'∈dM,p.q=p'.q∨p.t=p'.t∨p.b=p'.b→p=p')
 (hv:ib P [ai] (fun a b=>a=rD.put ai.dst d∧b=s1) rD s) (hg:j8 P is K R' Tr (tm.put ai.dst d) s1)
 (ng : ∀ p∈dM,p.q∈R'.map (·.1)) (o8 : ∀ p∈dM,ai.dst≠some p.t) {Q:Exit→Act→World→Prop} :
 wpOp P ops Q q (w8 P is K B nt R' dM) act w:=by
 refine vt hi hc r (B.laid.ext e) ht hv fun d' v s2 w1 M1 hk e1 r1 oJ=> ?_
 obtain⟨ta,rfl⟩:=hk
 have hde:=rB hc
 have hP : ∀ t,o.dst=some t→t<act.tmps.size:=fun t h=>by rw [hn];exact vY hc t h
 refine⟨M1,s2,tm.put ai.dst d,rD.put ai.dst d,Tr,e.trans e1,r1, ?_,fun t XM=> ?_, ?_, ?_,hg,fun p hp=> ?_,qZ⟩
 ·rw [← ta,hde]
  exact(ht.mono e1.le).put hP oJ
 ·rw [Tm.kx,Tm.kx,oZ t XM]
 ·cases ho:o.dst <;> simp [Act.put,hn]
 ·cases ho:o.dst <;> simp [Act.put,hd]
 ·have hk:=uF p hp
  obtain⟨vs,T,hh,hl,h1,h2⟩:=hk.cells
  have hb:=kZ hh
  refine⟨ng p hp,hk.ai,⟨vs,T,by rw [e1.kept p.b hb hk.unk.o hk.unk.t];exact hh,hl,h1,h2⟩,hk.unk.mono e1 hb,hk.base, ?_⟩
  rw [← hk.slot]
  have:=o8 p hp
  rw [hde]at this
  cases ho:o.dst with
  | none=>rfl
  | some t=>
   rw [ho]at this
   have fp:t≠p.t:=fun h=>this (by rw [h])
   simp [Act.put,Array.getElem?_setIfInBounds_ne fp]
theorem Kq {ai:AI} (hm:gd ai.kind=false) {tm:Tm} {s:St} {d:D} (h:ja ai tm s=some d):ib P [ai] (fun a b=>a=tm.put ai.dst d∧b=s) tm s:=by
 cases ai with
 | op dst g o=>
  have hko:=Jg hm
  have key : ∀ {d},(aS o tm s).map (·.1)=some d→aS o tm s=some (d,s):=by
   intro d h
   cases he:aS o tm s with
   | none=>rw [he]at h;cases h
   | some p=>
    obtain⟨d',s'⟩:=p
    rw [he]at h
    simp only [Option.map_some,Option.some.injEq]at h
    subst h
    rw [Ik (by rw [← hko];exact hm) he]
  simp only [ib,AI.dst]
  cases g with
  | none=>
   simp only [ja]at h
   simp only [guarded,key h,and_self]
  | some p=>
   obtain⟨t,want⟩:=p
   simp only [ja]at h
   simp only [guarded]
   split at h
   ·rename_i b hb
    simp only [hb]
    split at h
    ·rename_i heq
     refine⟨fun _=>by simp only [key h,and_self],fun fp=> ?_⟩
     subst heq
     cases b <;> cases fp
    ·rename_i fp
     cases h
     exact⟨fun heq=>(fp heq).elim,fun _=>by simp⟩
   ·rename_i ds hb
    cases h
    simp only [hb,and_self]
   ·cases h
 | call dst g f xs=>cases hm
 | nil dst g n x=>cases hm
 | iA dst g t xs=>cases hm
theorem yI {g:Option (Nat×Bool)} {tm:Tm} {A A' C C':Prop} (ha:A→A') (hc:C→C') (hh:guarded g tm A C):guarded g tm A' C':=by
 cases g with
 | none=>exact ha hh
 | some p=>
  obtain⟨t,want⟩:=p
  unfold guarded at *
  simp only at *
  split
  ·rename_i b hb;rw [hb]at hh;exact⟨fun e=>ha (hh.1 e),fun e=>hc (hh.2 e)⟩
  ·rename_i hb;rw [hb]at hh;exact hc hh
  ·rename_i x h1 h2
   split at hh
   ·exact h1 _ ‹_›
   ·exact h2 _ ‹_›
   ·exact hh
theorem Gh {ai:AI} {tm:Tm} {s s1:St} {d:D} (h:qW P ai tm s d s1):ib P [ai] (fun a b=>a=tm.put ai.dst d∧b=s1) tm s:=by
 cases ai with
 | op dst g o=>
  refine yI (fun e=> ?_) (fun e=> ?_) h
  ·rw [e];exact⟨rfl,rfl⟩
  ·obtain⟨rfl,rfl⟩:=e;exact⟨rfl,rfl⟩
 | call dst g f xs=>
  refine yI (fun e=> ?_) (fun e=> ?_) h
  ·exact e.mono fun x y hxy=>by obtain⟨rfl,rfl⟩:=hxy;exact⟨rfl,rfl⟩
  ·obtain⟨rfl,rfl⟩:=e;exact⟨rfl,rfl⟩
 | nil dst g n x=>exact h.elim
 | iA dst g t xs=>exact h.elim
end
end Go.Abs

/-! Par3 -/

namespace Go.Abs
section
variable {P:Program} {is:List AI} {af pt:List (List Nat)} {K:Tm→St→Prop} {B:fj} {nt:Nat}
theorem zW {ops:Array Oper} : ∀ {ol:List Oper} {is:List AI},pO P nt ops ol=some is→is.length=ol.length∧∀ (i:Nat) (o:Oper),ol[i]? = some o→∃ ai,is[i]? = some ai∧cI P nt ops o=some ai
 | [],is,h=>by cases h;exact⟨rfl,by simp⟩
 | o::ol,is,h=>by
  unfold pO at h
  split at h
  ·rename_i ai MX h1 h2
   cases h
   obtain⟨g1,g2⟩:=zW h2
   refine⟨by simp [g1],fun i o' ho=> ?_⟩
   cases i with
   | zero=>simp at ho;subst ho;exact⟨ai,rfl,h1⟩
   | succ i=>exact g2 i o' (by simpa using ho)
  ·cases h
theorem q4 {c9:Array Bool} {i:Nat} (h:i<c9.size):c9.getD i true=c9.getD i false:=by
 simp [h]
theorem pU.done {c9:Array Bool} {X Y:List (Nat×Nat)} {q b:Nat} {dM:List Pd} (hs:pU is af pt c9 (X++(q,b)::Y) dM) (hq:q<is.length)
 (DX : ∀ j∈gw pt q,c9.getD j false=true):pU is af pt (c9.setIfInBounds q true) (X++Y) dM:=by
 obtain⟨g1,g2,g3,g4,g5⟩:=rC hs.ok
 have hqY:q∉Y.map (·.1):=fun hm=>by
  obtain⟨x,hx,rfl⟩:=List.mem_map.1 hm
  exact(zV g5 x hx).1 (by simp)
 refine⟨C3 hs.ok,fun i hi=> ?_,fun i hi hl j hj=> ?_,by simp [hs.size],fun x hx=>hs.lt x (by simp at hx ⊢;exact hx.imp id .inr)⟩
 ·by_cases sq:i=q
  ·subst sq
   have:i<c9.size:=by rw [hs.size];exact hq
   simp only [List.map_append,List.mem_append,g2,hqY,or_self,not_false_eq_true,true_or,iff_true]
   simp [this]
  ·rw [getD_set_ne false (Ne.symm sq),hs.DW i hi]
   simp [sq]
 ·by_cases sq:i=q
  ·subst sq;exact getD_set_true (DX j hj)
  ·rw [getD_set_ne false (Ne.symm sq)]at hl
   exact getD_set_true (hs.cl i hi hl j hj)
theorem pU.flag {c9:Array Bool} {R:List (Nat×Nat)} {dM:List Pd} (hs:pU is af pt c9 R dM) {p:Pd} (hq:p.q<is.length)
 (DX : ∀ j∈gw pt p.q,c9.getD j false=true):pU is af pt (c9.setIfInBounds p.q true) R (p::dM):=by
 refine⟨hs.ok,fun i hi=> ?_,fun i hi hl j hj=> ?_,by simp [hs.size],hs.lt⟩
 ·by_cases sq:i=p.q
  ·subst sq
   have:p.q<c9.size:=by rw [hs.size];exact hq
   simp [this]
  ·rw [getD_set_ne false (Ne.symm sq),hs.DW i hi]
   have fp:p.q≠i:=fun h=>sq h.symm
   simp [fp]
 ·by_cases sq:i=p.q
  ·subst sq;exact getD_set_true (DX j hj)
  ·rw [getD_set_ne false (Ne.symm sq)]at hl
   exact getD_set_true (hs.cl i hi hl j hj)
theorem Kr {ai:AI} (h:ai.kind = .alloc) : ∃ t z,ai = .op (some t) none (.alloc z):=by
 cases ai with
 | op dst g o=>
  unfold AI.kind at h
  split at h
  ·rename_i heq;cases heq;exact⟨_,_,rfl⟩
  ·rename_i heq
   cases heq
   exfalso
   revert h
   cases o <;> simp [AO.kind]
  ·cases h
 | call dst g f xs=>cases h
 | nil dst g n x=>cases h
 | iA dst g t xs=>cases h
theorem Ks {ops:Array Oper} (vu:pO P nt ops ops.toList=some is) (Kt:vT af pt is.length=true)
 (hK : ∀ tm bH s,Tm.eqv tm bH→K tm s→K bH s) {c9:Array Bool} {R:List (Nat×Nat)} {dM:List Pd} {act:Act} {w:World} (hs:pU is af pt c9 R dM) (h:w8 P is K B nt R dM act w)
 (abx : ∀ x l,R=x::l→∀ p∈dM,p.q≠x.1) {q:Nat} (hq:q<is.length) (BP:c9.getD q false=false) (oJ : ∀ j∈gw af q,j<is.length∧c9.getD j false=true)
 {Q:Exit→Act→World→Prop} {K2:Act→World→Prop} (XP : ∀ R' uG a' w',pU is af pt (c9.setIfInBounds q true) R' uG→w8 P is K B nt R' uG a' w'→K2 a' w'):wpOp P ops Q q K2 act w:=by
 obtain⟨hlen,hY⟩:=zW vu
 have Tf:q<ops.size:=by rw [hlen]at hq;simpa using hq
 obtain⟨ai,uB,Nh⟩:=hY q ops[q] (by simp [Tf])
 have hi:ops[q]? = some ops[q]:=by simp [Tf]
 have DX : ∀ j∈gw pt q,c9.getD j false=true:=fun j hj=>by
  rcases AG Kt q hq j hj with h1 | ⟨k,h1,h2⟩
  ·exact(oJ j h1).2
  ·exact hs.cl k (oJ k h1).1 (oJ k h1).2 j h2
 have Ni : ∀ p∈dM,p.q≠q:=fun p hp sr=>by
  have:=(hs.DW q hq).2 (.inr ⟨p,hp,sr⟩)
  rw [BP]at this;cases this
 have XL:q∈R.map (·.1):=by
  by_cases hm:q∈R.map (·.1)
  ·exact hm
  ·have:=(hs.DW q hq).2 (.inl hm)
   rw [BP]at this;cases this
 obtain⟨⟨q',b⟩,hx,hqq⟩:=List.mem_map.1 XL
 simp only at hqq
 subst hqq
 obtain⟨X,Y,rfl⟩:=List.append_of_mem hx
 obtain⟨g1,g2,g3,g4,g5⟩:=rC hs.ok
 rw [List.append_nil]at g1 g5
 obtain⟨M,s,tm,rD,bq,e,r,ht,oZ,hn,hd,hg,uF,qZ⟩:=h
 have Nj:iB is q'=ai.kind:=by simp [iB,uB]
 -- what must have come up ahead of it, is not here any more, but for what was allocated early
 have Ts : ∀ a∈X.map (·.1),a∈gw pt q'→∃ p∈dM,p.q=a:=fun a ha gf=>by
  have h1:=DX a gf
  obtain⟨x,hxX,rfl⟩:=List.mem_map.1 ha
  rcases(hs.DW x.1 (hs.lt x (by simp [hxX]))).1 h1 with h2 | h2
  ·exact(h2 (by simp;exact .inl ⟨x.2,hxX⟩)).elim
  ·exact h2
 have Tv : ∀ x l,X=x::l→x.1∉gw pt q':=fun x l hX hxp=>by
  obtain⟨p,hp,sr⟩:=Ts x.1 (by simp [hX]) hxp
  exact abx x (l++(q',b)::Y) (by simp [hX]) p hp sr
 have hpk : ∀ p∈dM,iB is p.q = .alloc:=fun p hp=>by simp [iB,(uF p hp).ai,AI.kind]
 have Bb : ∀ p∈dM,(p.q∈X.map (·.1)→kq is p.q q'=true)→(∀ t,ai.dst=some t→t≠p.t)∧p.t∉ai.reads:=fun p hp hX=>by
  have hk:=uF p hp
  have hm:=hk.mem
  simp only [List.map_append,List.map_cons,List.mem_append,List.mem_cons]at hm
  rcases hm with hm | hm | hm
  ·have:=hX hm
   simp only [kq,hk.ai,uB]at this
   obtain⟨p1,p2,p3⟩:=apart_spec this
   exact⟨fun t ht he=>p3 p.t rfl (by rw [ht,he]),p1 p.t rfl⟩
  ·exact(Ni p hp hm).elim
  ·obtain⟨x,hxY,Tw⟩:=List.mem_map.1 hm
   have:=(zV g5 x hxY).2 (by rw [Tw];exact hpk p hp) q' (by simp)
   rw [Tw]at this
   simp only [kq,hk.ai,uB]at this
   obtain⟨p1,p2,p3⟩:=apart_spec this
   exact⟨fun t ht he=>p3 t ht (by rw [he];rfl),p2 p.t rfl⟩
 have Nl:(∀ p∈dM,p.t∉ai.reads)→∀ t∈ai.reads,tm.get t=rD.get t:=fun hp t ht=>(oZ t fun p XN he=>hp p XN (by rw [he];exact ht)).symm
 have Tx : ∀ p∈dM,p.q∈(X++Y).map (·.1):=fun p hp=>by
  have hm:=(uF p hp).mem
  have:=Ni p hp
  simp only [List.map_append,List.map_cons,List.mem_append,List.mem_cons]at hm ⊢
  rcases hm with hm | hm | hm
  ·exact .inl hm
  ·exact(this hm).elim
  ·exact .inr hm
 by_cases xU:ai.kind = .alloc
 ·-- an allocation
  obtain⟨t,z,rfl⟩:=Kr xU
  have gf : ∀ a∈X.map (·.1),kq is a q'=true:=fun a ha=>by
   unfold nK at g1
   rw [Nj,xU]at g1
   simp only [List.all_reverse,List.all_eq_true]at g1
   exact g1 a ha
  have DY:=fun p hp=>Bb p hp (gf p.q)
  refine Il hi Nh fun vs T hl h1 h2=> ?_
  obtain⟨r1,e1,u1⟩:=r.idle (.cells vs T)
  have XQ:t<act.tmps.size:=by
   rw [hn]
   exact vY Nh t (by rw [← rB Nh];rfl)
  have:=hs.flag (p:=⟨q',t,z,w.heap.size⟩) hq DX
  refine XP _ _ _ _ this ⟨M,s,tm,rD.put (some t) .junk,bq,e.trans e1,r1,k7.put ht (dst:=some t) (fun u hu=>by cases hu;exact XQ) (.junk _),fun u hu=> ?_,by simp [Act.put,hn],by simp [Act.put,hd],hg,fun p hp=> ?_,fun p hp p' nu he=> ?_⟩
  ·have h3:=hu ⟨q',t,z,w.heap.size⟩ (by simp)
   rw [Tm.kx,if_neg (by simpa using h3)]
   exact oZ u fun p hp=>hu p (List.mem_cons_of_mem _ hp)
  ·rcases List.mem_cons.1 hp with rfl | hp
   ·refine⟨by simp,uB,⟨vs,T,heap_alloc_new w _,hl,h1,h2⟩,u1,e.size, ?_⟩
    simp [Act.put,XQ]
   ·have hk:=uF p hp
    obtain⟨fD,T',jk,mN,qC,v7⟩:=hk.cells
    refine⟨hk.mem,hk.ai,⟨fD,T',by rw [heap_alloc_old w _ _ (kZ jk)];exact jk,mN,qC,v7⟩,hk.unk,hk.base, ?_⟩
    rw [← hk.slot]
    have fp:t≠p.t:=(DY p hp).1 t rfl
    simp [Act.put,Array.getElem?_setIfInBounds_ne fp]
  ·have dV : ∀ p∈dM,¬ (q'=p.q∨t=p.t∨w.heap.size=p.b):=fun p hp h=>by
    rcases h with h | h | h
    ·exact Ni p hp h.symm
    ·exact(DY p hp).1 t rfl h
    ·obtain⟨fD,T',jk,_⟩:=(uF p hp).cells
     have:=kZ jk
     omega
   rcases List.mem_cons.1 hp with rfl | hp <;> rcases List.mem_cons.1 nu with rfl | nu
   ·rfl
   ·exact(dV p' nu he).elim
   ·exact(dV p hp (he.imp Eq.symm (Or.imp Eq.symm Eq.symm))).elim
   ·exact qZ p hp p' nu he
 ·by_cases mP:gd ai.kind=true
  ·-- a step that changes something: it stands first
   have hkc:ai.kind = .core:=by
    cases hk:ai.kind <;> simp_all [gd]
   have hX:X = []:=by
    cases X with
    | nil=>rfl
    | cons x l=>
     refine(Tv x l rfl ?_).elim
     unfold nK at g1
     rw [Nj,hkc]at g1
     simp only [List.all_reverse,List.all_eq_true]at g1
     have:=g1 x.1 (by simp)
     rwa [List.contains_iff_mem]at this
   subst hX
   have DY:=fun p hp=>Bb p hp (fun h=>by simp at h)
   simp only [List.nil_append,j8,uB,mP]at hg
   obtain⟨d,s1,Au,hg⟩:=hg
   have aeM:=vq (Nl fun p hp=>(DY p hp).2) Au
   refine wpOp_mono (fun a' w' hr=>XP _ _ _ _ (hs.done hq DX) hr) ?_
   exact Tq hi Nh e r ht oZ hn hd uF qZ (Gh aeM) hg Tx (fun p hp he=>(DY p hp).1 _ he rfl)
  ·-- a step that changes nothing
   have hm:gd ai.kind=false:=by simpa using mP
   have nS : ∀ a∈X.map (·.1),a∉gw pt q':=fun a ha gf=>by
    obtain⟨p,hp,sr⟩:=Ts a ha gf
    have uz:iB is a = .alloc:=by rw [← sr];exact hpk p hp
    have jT:ki is (gw pt q') (X.map (·.1)).reverse=true:=by
     unfold nK at g1
     rw [Nj]at g1
     cases hk:ai.kind with
     | pure=>simp only [hk,Bool.and_eq_true]at g1;exact g1.2
     | load=>simp only [hk,Bool.and_eq_true]at g1;exact g1.1.2
     | alloc=>exact(xU hk).elim
     | core=>rw [hk]at hm;cases hm
    cases X with
    | nil=>simp at ha
    | cons x l=>
     have ha2:a∈((x::l).map (·.1)).reverse:=List.mem_reverse.2 ha
     obtain⟨l1,l2,AJ⟩:=List.append_of_mem ha2
     have vv:=v8 jT a l1 l2 AJ uz gf
     refine Tv x l rfl ?_
     cases tc:l2.reverse with
     | nil=>
      have h3:l2 = []:=by simpa using tc
      subst h3
      have:=congrArg List.reverse AJ
      simp at this
      rw [this.1];exact gf
     | cons y l3=>
      have:=congrArg List.reverse AJ
      simp only [List.reverse_reverse,List.map_cons,List.reverse_append,List.reverse_cons,List.reverse_nil,List.append_assoc,tc,List.cons_append,List.nil_append,List.cons.injEq]at this
      rw [this.1]
      exact vv y (by rw [← List.mem_reverse,tc];simp)
   have gf : ∀ a∈X,kq is a.1 q'=true:=fun a ha=>by
    have h3 : ∀ x∈(X.map (·.1)).reverse,((gw pt q').contains x || kq is x q')=true:=by
     unfold nK at g1
     rw [Nj]at g1
     cases hk:ai.kind with
     | pure=>simp only [hk,Bool.and_eq_true]at g1;exact List.all_eq_true.1 g1.1
     | load=>simp only [hk,Bool.and_eq_true]at g1;exact List.all_eq_true.1 g1.1.1
     | alloc=>exact(xU hk).elim
     | core=>rw [hk]at hm;cases hm
    have:=h3 a.1 (List.mem_reverse.2 (List.mem_map_of_mem ha))
    simp only [Bool.or_eq_true,List.contains_iff_mem]at this
    exact this.resolve_left (nS a.1 (List.mem_map_of_mem ha))
   have XR:ai.kind = .load→iK is (X.map (·.1))≤b:=fun hk=>by
    unfold nK at g1
    rw [Nj,hk]at g1
    simp only [Bool.and_eq_true,decide_eq_true_eq]at g1
    have h3:=g1.2
    have h4:(X.map (·.1)).reverse.filter (fun a=> !(gw pt q').contains a)=(X.map (·.1)).reverse:=by
     rw [List.filter_eq_self]
     intro a ha
     have:=nS a (List.mem_reverse.1 ha)
     simpa using this
    rw [h4]at h3
    unfold iK at h3 ⊢
    rw [List.filter_reverse,List.length_reverse]at h3
    exact h3
   have DY:=fun p hp=>Bb p hp (fun h=>by
    obtain⟨x,hx,Tw⟩:=List.mem_map.1 h
    rw [← Tw];exact gf x hx)
   obtain⟨d,h1,_,Gi⟩:=vr hK uB hm Y X bq tm s gf XR hg
   have qC:ja ai rD s=some d:=by rw [← pC (Nl fun p hp=>(DY p hp).2)];exact h1
   refine wpOp_mono (fun a' w' hr=>XP _ _ _ _ (hs.done hq DX) hr) ?_
   exact Tq hi Nh e r ht oZ hn hd uF qZ (Kq hm qC) Gi Tx (fun p hp he=>(DY p hp).1 _ he rfl)
theorem AL {o:Oper} {j:Nat} : j∈lQ o↔∃ e∈o.after,Region.binds .any e=true∧e.on=j:=by
 simp only [lQ,List.mem_map,List.mem_filter,Array.mem_toList_iff]
 constructor
 ·rintro⟨e,⟨h1,h2⟩,h3⟩;exact⟨e,h1,h2,h3⟩
 ·rintro⟨e,h1,h2,h3⟩;exact⟨e,⟨h1,h2⟩,h3⟩
theorem Ku {ops:Array Oper} (vu:pO P nt ops ops.toList=some is) (Kt:vT (ops.toList.map lQ) pt is.length=true)
 (XS : ∀ i,i<is.length→∀ j∈gw (ops.toList.map lQ) i,j<is.length) {Q:Exit→Tm→St→Prop} (hK : ∀ tm bH s,Tm.eqv tm bH→K tm s→K bH s)
 (hKQ : ∀ tm s act w,K tm s→Holds B nt tm s act w→oC B nt Q .normal act w) :
 ∀ (fuel:Nat) (c9:Array Bool) (R:List (Nat×Nat)) (dM:List Pd) (act:Act) (w:World) (U:List Nat),U.length≤fuel→(∀ j,j<is.length→c9.getD j false=false→j∈U)→
  pU is (ops.toList.map lQ) pt c9 R dM→w8 P is K B nt R dM act w→wpAny P .any ops (oC B nt Q) fuel c9 act w:=by
 obtain⟨hlen,_⟩:=zW vu
 have uH:is.length=ops.size:=by rw [hlen];simp
 have XT : ∀ (j:Nat) (o:Oper),ops[j]? = some o→gw (ops.toList.map lQ) j=lQ o:=fun j o h=>by
  simp [gw,List.getD,h]
 have fin : ∀ {c9:Array Bool} {dM:List Pd} {act:Act} {w:World},w8 P is K B nt [] dM act w→oC B nt Q .normal act w:=by
  intro c9 dM act w h
  obtain⟨M,s,tm,rD,bq,e,r,ht,oZ,hn,hd,hg,uF,qZ⟩:=h
  have F6 : ∀ p∈dM,False:=fun p hp=>by have:=(uF p hp).mem;simp at this
  exact hKQ rD s act w (hK tm rD s (fun t=>(oZ t fun p hp=>(F6 p hp).elim).symm) hg) ⟨M,e,r,ht,hn,hd⟩
 have Nn : ∀ {c9:Array Bool} {R:List (Nat×Nat)} {dM:List Pd} {x:Nat×Nat} {l:List (Nat×Nat)},pU is (ops.toList.map lQ) pt c9 R dM→R=x::l→(∀ p∈dM,p.q≠x.1)→
  x.1∈Region.ready .any ops c9:=by
  intro c9 R dM x l hs hR Ni
  subst hR
  have hx:=hs.lt x (by simp)
  rw [mem_ready]
  have BP:c9.getD x.1 false=false:=by
   cases hl:c9.getD x.1 false with
   | false=>rfl
   | true=>
    rcases(hs.DW x.1 hx).1 hl with h1 | ⟨p,hp,sr⟩
    ·exact(h1 (by simp)).elim
    ·exact(Ni p hp sr).elim
  have hxo:x.1<ops.size:=by rw [← uH];exact hx
  refine⟨by rw [q4 (by rw [hs.size];exact hx)];exact BP,ops[x.1],by simp [hxo],fun e he hb=> ?_⟩
  have hm:e.on∈gw (ops.toList.map lQ) x.1:=by rw [XT x.1 ops[x.1] (by simp [hxo])];exact AL.2 ⟨e,he,hb,rfl⟩
  obtain⟨_,_,_,g4,_⟩:=rC (X:= []) (q:=x.1) (b:=x.2) hs.ok
  obtain⟨h1,h2⟩:=g4 _ hm
  refine(hs.DW e.on (XS x.1 hx _ hm)).2 (.inl ?_)
  simp only [List.map_cons,List.mem_cons,not_or]
  exact⟨h1,h2⟩
 intro fuel
 induction fuel with
 | zero=>
  intro c9 R dM act w U hU BP hs h
  obtain⟨R',uG,nM,h',hn⟩:=norm R dM hs h
  have hUn:U = []:=List.length_eq_zero_iff.1 (by omega)
  have vv : ∀ j,j<is.length→c9.getD j false=true:=fun j hj=>by
   cases hl:c9.getD j false with
   | true=>rfl
   | false=>have:=BP j hj hl;rw [hUn]at this;cases this
  have hR:R' = []:=by
   cases hR:R' with
   | nil=>rfl
   | cons x l=>
    have hx:=nM.lt x (by simp [hR])
    have:=Nn nM hR (hn x l hR)
    rw [mem_ready,q4 (by rw [nM.size];exact hx),vv x.1 hx]at this
    cases this.1
  subst hR
  refine⟨?_,fin (c9:=c9) h'⟩
  cases hr:Region.ready .any ops c9 with
  | nil=>rfl
  | cons j js=>
   have hj:j∈Region.ready .any ops c9:=by rw [hr];simp
   rw [mem_ready]at hj
   obtain⟨h1,o,ho,_⟩:=hj
   have Ty:j<is.length:=by rw [uH];exact(Array.getElem?_eq_some_iff.1 ho).1
   rw [q4 (by rw [hs.size];exact Ty),vv j Ty]at h1
   cases h1
 | succ fuel ih=>
  intro c9 R dM act w U hU BP hs h
  obtain⟨R',uG,nM,h',hn⟩:=norm R dM hs h
  refine⟨fun hr=> ?_,fun i hi=> ?_⟩
  ·cases hR:R' with
   | nil=>subst hR;exact fin (c9:=c9) h'
   | cons x l=>
    have:=Nn nM hR (hn x l hR)
    rw [hr]at this
    cases this
  ·rw [mem_ready]at hi
   obtain⟨h1,o,ho,Kv⟩:=hi
   have pB:i<is.length:=by rw [uH];exact(Array.getElem?_eq_some_iff.1 ho).1
   rw [q4 (by rw [hs.size];exact pB)]at h1
   refine Ks vu Kt hK nM h' hn pB h1 (fun j hj=>⟨XS i pB j hj, ?_⟩) fun R2 abz a2 w2 Jb h2=> ?_
   ·rw [XT i o ho]at hj
    obtain⟨e,he,hb,rfl⟩:=AL.1 hj
    exact Kv e he hb
   ·refine ih _ R2 abz a2 w2 (U.erase i) ?_ (fun j hj hl=> ?_) Jb h2
    ·have:=List.length_erase_of_mem (BP i pB h1)
     omega
    ·have hji:j≠i:=fun e=>by
      subst e
      have:j<c9.size:=by rw [hs.size];exact pB
      simp [this]at hl
     rw [getD_set_ne false (Ne.symm hji)]at hl
     exact(List.mem_erase_of_ne hji).2 (BP j hj hl)
theorem Sem.par {is:List AI} {kS:List (Nat×Nat)} {Q:Exit→Tm→St→Prop} {tm:Tm} {s:St} (h:j8 P is (Q .normal) kS [] tm s):Sem P B nt (.par is kS) Q tm s:=by
 intro c hc act w hh
 obtain⟨id,ops,rfl,hi,hm,pt,hp⟩:=kC hc
 simp only [FK,Bool.and_eq_true,List.all_eq_true,List.mem_range,List.contains_iff_mem,decide_eq_true_eq]at hp
 obtain⟨⟨⟨⟨h1,h2⟩,h3⟩,h4⟩,h5⟩:=hp
 obtain⟨hlen,_⟩:=zW hi
 have uH:is.length=ops.size:=by rw [hlen];simp
 refine wp_region_any hm ?_
 obtain⟨M,e,r,ht,hn,hd⟩:=hh
 have key : ∀ (R:List (Nat×Nat)) (bq:List St) (tm:Tm) (s:St),j8 P is (Q .normal) R bq tm s→j8 P is (fun tm s=>∃ bH,tm.eqv bH∧Q .normal bH s) R bq tm s:=by
  intro R
  induction R with
  | nil=>intro bq tm s h;exact⟨tm,fun _=>rfl,h⟩
  | cons x R ih=>
   obtain⟨q,b⟩:=x
   intro bq tm s h
   unfold j8 at h ⊢
   split at h
   ·exact h.elim
   ·split at h
    ·obtain⟨d,s',h1,h2⟩:=h;exact⟨d,s',h1,ih _ _ _ h2⟩
    ·obtain⟨d,h1,h2,h3⟩:=h;exact⟨d,h1,h2,ih _ _ _ h3⟩
 have hg:=key _ _ _ _ h
 refine Ku (K:=fun tm s=>∃ bH,tm.eqv bH∧Q .normal bH s) hi h1 h5 (fun tm bH s he ⟨t2,h3,h4⟩=>⟨t2,fun t=>(he t).symm.trans (h3 t),h4⟩)
  (fun tm s act w ⟨t2,h3,h4⟩ ⟨M,e,r,ht,hn,hd⟩=>⟨t2,s,h4,M,e,r,fun t=>by rw [← h3 t];exact ht t,hn,hd⟩) ops.size _ kS [] act _ (List.range is.length) (by simp [uH]) (fun j hj _=>by simpa using hj)
  ⟨h2,fun i hi=> ?_,fun i hi hl=> ?_,by simp [uH],h4⟩ ⟨M,s,tm,tm,[],⟨e.le,e.kept,e.pL,e.pM,e.rP,e.size,e.os,e.tape,e.output⟩,r.of_heap rfl,ht,fun _ _=>rfl,hn,hd,hg,by simp,by simp⟩
 ·have:i<ops.size:=by rw [← uH];exact hi
  have h6:=h3 i hi
  simp only [List.not_mem_nil,false_and,exists_false,or_false]
  rw [show(Array.replicate ops.size false).getD i false=false by simp [this]]
  simp [h6]
 ·have:i<ops.size:=by rw [← uH];exact hi
  rw [show(Array.replicate ops.size false).getD i false=false by simp [this]]at hl
  cases hl
end
end Go.Abs

/-! Step -/

namespace Go.Abs
theorem Vr (k:IntKind) (n:Int):D.row (.int k n)=some [.int k n]:=rfl
theorem Qn (b:Bool):D.row (.bool b)=some [.bool b]:=rfl
theorem Vs (l:List UInt8):D.row (.str l)=some [.str l]:=rfl
theorem Qo:D.row .e9=some [.e9]:=rfl
theorem Vt (o f:Nat):D.row (.ptr o f)=some [.ptr o f]:=rfl
theorem Qp (r:List D) (f:Nat):D.row (.dI r f)=some [.dI r f]:=rfl
theorem No (g:Tag) (z:Nat) (r:List (List D)):D.row (.slice g z r)=some [.slice g z r]:=rfl
theorem Vu (cs:List D):D.row (.agg cs)=some cs:=rfl
theorem Vv (v:Value):D.row (.val v)=some [.val v]:=rfl
theorem Np (T:TypeId) (o:Nat):D.row (.fB T o)=some [.fB T o]:=rfl
theorem Vw (f:Nat) (cs:List D):D.row (.gn f cs)=some [.gn f cs]:=rfl
theorem Qq (o:Nat):D.row (.gk o)=some [.gk o]:=rfl
theorem Qr (w:Bool):Tag.cut .full w=if w then .full else .shared:=rfl
theorem Kw (w:Bool):Tag.cut .shared w = .shared:=rfl
theorem Qs (t:Nat) (y:Bool) (w:Bool):Tag.cut (.tok t y) w = .tok t y:=rfl
section
variable {P:Program}
def KC (P:Program) (r:List AI) (K:Tm→St→Prop) (tm:Tm) (dst:Option Nat) (d:D) (s:St):Prop:=ib P r K (tm.put dst d) s
def GI (P:Program) (g:D) (want:Bool) (i:AI) (r:List AI) (K:Tm→St→Prop) (tm:Tm) (s:St):Prop:=
 match g with
 | .bool b=>(b=want→ib P (i::r) K tm s)∧(b=(!want)→ib P r K (tm.put i.dst (.tuple [])) s)
 | .tuple _=>ib P r K (tm.put i.dst (.tuple [])) s
 | _=>False
def NI (P:Program) (dst:Option Nat) (neg:Bool) (x:D) (r:List AI) (K:Tm→St→Prop) (tm:Tm) (s:St):Prop:=
 match x with
 | .slice _ _ rows=>∀ b:Bool,(rows≠ []→b=false)→ib P r K (tm.put dst (.bool (if neg then !b else b))) s
 | _=>False
def sI (d:D) (A C:Prop):Prop:=
 match d with
 | .bool b=>(b=true→A)∧(b=false→C)
 | _=>False
theorem Sem.abA {B:fj} {nt:Nat} {Q:Exit→Tm→St→Prop} {tm:Tm} {s:St} {x:X} {a b:AC} (h:sI (x.ev tm) (Sem P B nt a Q tm s) (Sem P B nt b Q tm s)):Sem P B nt (.cond x a b) Q tm s:=by
 unfold sI at h
 split at h
 ·rename_i t ht
  exact Sem.cond ht h.1 h.2
 ·exact h.elim
def gh (P:Program) (K:Tm→St→Prop):List (AI×Nat)→List St→Tm→St→Prop
 | [],_,tm,s=>K tm s
 | (ai,b)::r,bq,tm,s=>
  match gd ai.kind with
  | true=>∃ d s',qW P ai tm s d s'∧gh P K r (s::bq) (tm.put ai.dst d) s'
  | false=>∃ d,ja ai tm s=some d∧(ai.kind = .load→∀ s'∈bq.take b,ja ai tm s'=some d)∧gh P K r bq (tm.put ai.dst d) s
def lT (is:List AI):List (Nat×Nat)→Option (List (AI×Nat))
 | []=>some []
 | (q,b)::r=>match is[q]?,lT is r with
  | some ai,some l=>some ((ai,b)::l)
  | _,_=>none
theorem C4 {is:List AI} {K:Tm→St→Prop} : ∀ {kS:List (Nat×Nat)} {items:List (AI×Nat)} {bq:List St} {tm:Tm} {s:St},lT is kS=some items→gh P K items bq tm s→j8 P is K kS bq tm s
 | [],items,bq,tm,s,h,g=>by cases h;exact g
 | (q,b)::r,items,bq,tm,s,h,g=>by
  simp only [lT]at h
  split at h
  ·rename_i ai l h1 h2
   cases h
   simp only [gh]at g
   simp only [j8,h1]
   split at g
   ·rename_i hk
    obtain⟨d,s',g1,g2⟩:=g
    try simp only [hk]
    exact⟨d,s',g1,C4 h2 g2⟩
   ·rename_i hk
    obtain⟨d,g1,g2,g3⟩:=g
    try simp only [hk]
    exact⟨d,g1,g2,C4 h2 g3⟩
  ·cases h
theorem Sem.aeO {B:fj} {nt:Nat} {Q:Exit→Tm→St→Prop} {tm:Tm} {s:St} {is:List AI} {kS:List (Nat×Nat)} {items:List (AI×Nat)} (hi:lT is kS=some items) (h:gh P (Q .normal) items [] tm s):Sem P B nt (.par is kS) Q tm s:=
 Sem.par (C4 hi h)
def AI.free:AI→AI
 | .op d _ o=> .op d none o
 | .call d _ f xs=> .call d none f xs
 | .nil d _ n x=> .nil d none n x
 | .iA d _ t xs=> .iA d none t xs
def GL (P:Program) (g:D) (want:Bool) (i:AI) (b:Nat) (r:List (AI×Nat)) (K:Tm→St→Prop) (bq:List St) (tm:Tm) (s:St):Prop:=
 match g with
 | .bool v=>(v=want→gh P K ((i,b)::r) bq tm s)∧(v=(!want)→gh P K r (if gd i.kind then s::bq else bq) (tm.put i.dst (.tuple [])) s)
 | .tuple _=>gh P K r (if gd i.kind then s::bq else bq) (tm.put i.dst (.tuple [])) s
 | _=>False
def CL (P:Program) (f:Nat) (args:List D) (s:St) (K:D→St→Prop):Prop:=∃ d s',aD P f args s d s'∧K d s'
def KL (P:Program) (K:Tm→St→Prop) (r:List (AI×Nat)) (bq:List St) (tm:Tm) (dst:Option Nat) (d:D) (s:St):Prop:=gh P K r bq (tm.put dst d) s
def mS (i:AI) (tm:Tm) (d:D):List St→Prop
 | []=>True
 | s::r=>ja i tm s=some d∧mS i tm d r
theorem BQ {i:AI} {tm:Tm} {d:D} : ∀ {l:List St},mS i tm d l→∀ s∈l,ja i tm s=some d
 | [],_,s,h=>by cases h
 | a::l,h,s,hs=>by
  rcases List.mem_cons.1 hs with rfl | hs
  ·exact h.1
  ·exact BQ h.2 s hs
def PL (P:Program) (o:AO) (dst:Option Nat) (b:Nat) (r:List (AI×Nat)) (K:Tm→St→Prop) (bq:List St) (tm:Tm) (s:St):Prop:=
 match aS o tm s with
 | some (d,_)=>mS (.op dst none o) tm d (bq.take b)∧gh P K r bq (tm.put dst d) s
 | none=>False
def ML (P:Program) (o:AO) (dst:Option Nat) (r:List (AI×Nat)) (K:Tm→St→Prop) (bq:List St) (tm:Tm) (s:St):Prop:=
 match aS o tm s with
 | some (d,s')=>gh P K r (s::bq) (tm.put dst d) s'
 | none=>False
def AO.core:AO→Bool
 | .alloc _=>true
 | .box _=>true
 | .s6 .. =>true
 | .yh _=>true
 | .store .. =>true
 | .app .. =>true
 | .rk .. =>true
 | .yi .. =>true
 | .yj .. =>true
 | .apps .. =>true
 | .sB=>true
 | .wS .. =>true
 | _=>false
theorem rE (dst:Option Nat) (g:Option (Nat×Bool)) (o:AO):gd (AI.op dst g o).kind=o.core:=by
 cases dst <;> cases g <;> cases o <;> rfl
def OL (P:Program) (o:AO) (dst:Option Nat) (b:Nat) (r:List (AI×Nat)) (K:Tm→St→Prop) (bq:List St) (tm:Tm) (s:St):Prop:=
 match o.core with
 | true=>ML P o dst r K bq tm s
 | false=>PL P o dst b r K bq tm s
theorem Gj {K:Tm→St→Prop} {dst:Option Nat} {o:AO} {b:Nat} {r:List (AI×Nat)} {bq:List St} {tm:Tm} {s:St} (h:OL P o dst b r K bq tm s) :
 gh P K ((.op dst none o,b)::r) bq tm s:=by
 unfold OL at h
 simp only [gh,rE]
 cases hc:o.core with
 | true=>
  simp only [hc,ML]at h
  simp only []
  split at h
  ·rename_i d s' he
   exact⟨d,s',by simpa [qW,guarded]using he,h⟩
  ·exact h.elim
 | false=>
  simp only [hc,PL]at h
  simp only []
  split at h
  ·rename_i d s' he
   exact⟨d,by simp [ja,he],fun _=>BQ h.1,h.2⟩
  ·exact h.elim
theorem Ky {K:Tm→St→Prop} {dst:Option Nat} {f:Nat} {xs:List X} {b:Nat} {r:List (AI×Nat)} {bq:List St} {tm:Tm} {s:St} (h:CL P f (xs.map (·.ev tm)) s (KL P K r (s::bq) tm dst)) :
 gh P K ((.call dst none f xs,b)::r) bq tm s:=by
 obtain⟨d,s',h1,h2⟩:=h
 exact⟨d,s',h1,h2⟩
theorem XU {K:Tm→St→Prop} {i:AI} {t:Nat} {w:Bool} {b:Nat} {r:List (AI×Nat)} {bq:List St} {tm:Tm} {s:St} {j:AI} (hf:(∃ d o,i = .op d none o∧j = .op d (some (t,w)) o)∨(∃ d f xs,i = .call d none f xs∧j = .call d (some (t,w)) f xs))
 (hg:tm.get t = .bool w) (h:gh P K ((i,b)::r) bq tm s):gh P K ((j,b)::r) bq tm s:=by
 rcases hf with ⟨d,o,rfl,rfl⟩ | ⟨d,f,xs,rfl,rfl⟩
 ·simp only [gh,rE]at h ⊢
  cases hc:o.core <;> simp only [hc]at h ⊢
  ·obtain⟨x,h1,h2,h3⟩:=h
   refine⟨x,by simpa [ja,hg]using h1,fun hk s' nM=> ?_,h3⟩
   have AH:(AI.op d none o).kind = .load:=by
    cases d <;> cases o <;> first | exact hk | (cases hc;done) | (cases hk;done)
   simpa [ja,hg]using h2 AH s' nM
  ·obtain⟨x,s',h1,h2⟩:=h
   exact⟨x,s',by simpa [qW,guarded,hg]using h1,h2⟩
 ·obtain⟨x,s',h1,h2⟩:=h
  exact⟨x,s',by simpa [qW,guarded,hg]using h1,h2⟩
theorem Nq {K:Tm→St→Prop} {i:AI} {t:Nat} {w:Bool} {b:Nat} {r:List (AI×Nat)} {bq:List St} {tm:Tm} {s:St} {j:AI} (hf:(∃ d o,i = .op d none o∧j = .op d (some (t,w)) o)∨(∃ d f xs,i = .call d none f xs∧j = .call d (some (t,w)) f xs))
 (hg:tm.get t = .bool (!w)∨∃ l,tm.get t = .tuple l) (h:gh P K r (if gd i.kind then s::bq else bq) (tm.put i.dst (.tuple [])) s):gh P K ((j,b)::r) bq tm s:=by
 rcases hf with ⟨d,o,rfl,rfl⟩ | ⟨d,f,xs,rfl,rfl⟩
 ·simp only [gh,rE]at h ⊢
  cases hc:o.core <;> simp only [hc]at h ⊢
  ·refine⟨.tuple [], ?_,fun hk s' nM=> ?_,h⟩
   ·rcases hg with hg | ⟨l,hg⟩ <;> simp [ja,hg]
   ·rcases hg with hg | ⟨l,hg⟩ <;> simp [ja,hg]
  ·refine⟨.tuple [],s, ?_,h⟩
   rcases hg with hg | ⟨l,hg⟩ <;> simp [qW,guarded,hg]
 ·refine⟨.tuple [],s, ?_,h⟩
  rcases hg with hg | ⟨l,hg⟩ <;> simp [qW,guarded,hg]
theorem Ji {K:Tm→St→Prop} {i j:AI} {t:Nat} {w:Bool} {b:Nat} {r:List (AI×Nat)} {bq:List St} {tm:Tm} {s:St} (hf:(∃ d o,i = .op d none o∧j = .op d (some (t,w)) o)∨(∃ d f xs,i = .call d none f xs∧j = .call d (some (t,w)) f xs))
 (h:GL P (tm.get t) w i b r K bq tm s):gh P K ((j,b)::r) bq tm s:=by
 unfold GL at h
 split at h
 ·rename_i v hv
  by_cases e:v=w
  ·exact XU hf (by rw [hv,e]) (h.1 e)
  ·exact Nq hf (.inl (by rw [hv];cases v <;> cases w <;> simp_all)) (h.2 (by cases v <;> cases w <;> simp_all))
 ·rename_i l hl
  exact Nq hf (.inr ⟨l,hl⟩) h
 ·exact h.elim
theorem DZ {K:Tm→St→Prop} {dst:Option Nat} {o:AO} {t:Nat} {w:Bool} {b:Nat} {r:List (AI×Nat)} {bq:List St} {tm:Tm} {s:St} (h:GL P (tm.get t) w (.op dst none o) b r K bq tm s) :
 gh P K ((.op dst (some (t,w)) o,b)::r) bq tm s:=Ji (.inl ⟨dst,o,rfl,rfl⟩) h
theorem Ip {K:Tm→St→Prop} {dst:Option Nat} {f:Nat} {xs:List X} {t:Nat} {w:Bool} {b:Nat} {r:List (AI×Nat)} {bq:List St} {tm:Tm} {s:St} (h:GL P (tm.get t) w (.call dst none f xs) b r K bq tm s) :
 gh P K ((.call dst (some (t,w)) f xs,b)::r) bq tm s:=Ji (.inr ⟨dst,f,xs,rfl,rfl⟩) h
theorem CU {f:Nat} {args:List D} {s:St} {d:D} {s':St} {K:D→St→Prop} (h:aD P f args s d s') (hk:K d s'):CL P f args s K:=⟨d,s',h,hk⟩
end
end Go.Abs

/-! Wp -/

namespace Go.Abs
theorem nd {α:Type} {a b:α} (h:a=b):a=b:=h
def GJ (g:D) (w:Bool) (A C:Prop):Prop:=
 match g with
 | .bool b=>(b=w→A)∧(b=(!w)→C)
 | .tuple _=>C
 | _=>False
class Two where
 a:Prop
 c:Prop
def CB (d:D) [b:Two] : Prop:=sI d b.a b.c
def GB (d:D) (w:Bool) [b:Two] : Prop:=GJ d w b.a b.c
def lU (g:Option (Nat×Bool)) (tm:Tm) (A C:Prop):Prop:=
 match g with
 | none=>A
 | some (t,w)=>GJ (tm.get t) w A C
def jt (P:Program):List AI→(Tm→St→Prop)→Tm→St→Prop
 | [],K,tm,s=>K tm s
 | .op dst g o::r,K,tm,s=>lU g tm (match aS o tm s with | some (d,s')=>jt P r K (tm.put dst d) s' | none=>False) (jt P r K (tm.put dst (.tuple [])) s)
 | .call dst g f xs::r,K,tm,s=>lU g tm (CL P f (xs.map (·.ev tm)) s fun d s'=>jt P r K (tm.put dst d) s') (jt P r K (tm.put dst (.tuple [])) s)
 | .nil dst g neg x::r,K,tm,s=>
  lU g tm (match x.ev tm with
   | .slice _ _ rows=>∀ b:Bool,(rows≠ []→b=false)→jt P r K (tm.put dst (.bool (if neg then !b else b))) s
   | _=>False) (jt P r K (tm.put dst (.tuple [])) s)
 | .iA dst g t xs::r,K,tm,s=>
  lU g tm (match tm.get t with
   | .gn f mn=>enters P f=true∧CL P f (xs.map (·.ev tm)++mn) s fun d s'=>jt P r K (tm.put dst d) s'
   | _=>False) (jt P r K (tm.put dst (.tuple [])) s)
theorem q5 {g:Option (Nat×Bool)} {tm:Tm} {A C A' C':Prop} (h:lU g tm A C) (ha:A→A') (hc:C→C'):guarded g tm A' C':=by
 unfold lU at h
 unfold guarded
 cases g with
 | none=>exact ha h
 | some p=>
  obtain⟨t,w⟩:=p
  simp only [GJ]at h ⊢
  split at h
  ·rename_i hb;try simp only [hb]
   exact⟨fun e=>ha (h.1 e),fun e=>hc (h.2 e)⟩
  ·rename_i hb;try simp only [hb]
   exact hc h
  ·exact h.elim
theorem mZ {P:Program} {K:Tm→St→Prop} : ∀ {is:List AI} {tm:Tm} {s:St},jt P is K tm s→ib P is K tm s
 | [],tm,s,h=>h
 | .op dst g o::r,tm,s,h=>by
  refine q5 h (fun h=> ?_) mZ
  split at h
  ·rename_i he;try simp only [he]
   exact mZ h
  ·exact h.elim
 | .call dst g f xs::r,tm,s,h=>q5 h (fun⟨d,s',h1,h2⟩=>h1.use (mZ h2)) mZ
 | .nil dst g neg x::r,tm,s,h=>by
  refine q5 h (fun h=> ?_) mZ
  split at h
  ·rename_i he;try simp only [he]
   exact fun b hb=>mZ (h b hb)
  ·exact h.elim
 | .iA dst g t xs::r,tm,s,h=>by
  refine q5 h (fun h=> ?_) mZ
  split at h
  ·rename_i he;try simp only [he]
   obtain⟨h0,d,s',h1,h2⟩:=h
   exact⟨h0,h1.use (mZ h2)⟩
  ·exact h.elim
def fN (P:Program) (K:Tm→St→Prop):List (AI×Nat)→List St→Tm→St→Prop
 | [],_,tm,s=>K tm s
 | (.op dst g o,b)::r,bq,tm,s=>
  match o.core with
  | true=>lU g tm (match aS o tm s with | some (d,s')=>fN P K r (s::bq) (tm.put dst d) s' | none=>False) (fN P K r (s::bq) (tm.put dst (.tuple [])) s)
  | false=>lU g tm (match aS o tm s with | some (d,_)=>mS (.op dst none o) tm d (bq.take b)∧fN P K r bq (tm.put dst d) s | none=>False) (fN P K r bq (tm.put dst (.tuple [])) s)
 | (.call dst g f xs,_)::r,bq,tm,s=>lU g tm (CL P f (xs.map (·.ev tm)) s fun d s'=>fN P K r (s::bq) (tm.put dst d) s') (fN P K r (s::bq) (tm.put dst (.tuple [])) s)
 | (.nil ..,_)::_,_,_,_=>False
 | (.iA ..,_)::_,_,_,_=>False
theorem yK {P:Program} {t:Nat} {w:Bool} {tm:Tm} {i:AI} {b:Nat} {r:List (AI×Nat)} {K:Tm→St→Prop} {bq:List St} {s:St} {A C:Prop} (h:lU (some (t,w)) tm A C) (ha:A→gh P K ((i,b)::r) bq tm s)
 (hc:C→gh P K r (if gd i.kind then s::bq else bq) (tm.put i.dst (.tuple [])) s):GL P (tm.get t) w i b r K bq tm s:=by
 simp only [lU,GJ]at h
 unfold GL
 split at h
 ·rename_i hb;try simp only [hb]
  exact⟨fun e=>ha (h.1 e),fun e=>hc (h.2 e)⟩
 ·rename_i hb;try simp only [hb]
  exact hc h
 ·exact h.elim
theorem lx {P:Program} {K:Tm→St→Prop} : ∀ {l:List (AI×Nat)} {bq:List St} {tm:Tm} {s:St},fN P K l bq tm s→gh P K l bq tm s
 | [],bq,tm,s,h=>h
 | (.op dst g o,b)::r,bq,tm,s,h=>by
  simp only [fN]at h
  cases hc:o.core with
  | true=>
   simp only [hc]at h
   have ha:(match aS o tm s with | some (d,s')=>fN P K r (s::bq) (tm.put dst d) s' | none=>False)→gh P K ((.op dst none o,b)::r) bq tm s:=by
    intro h
    refine Gj ?_
    simp only [OL,hc,ML]
    split at h
    ·rename_i he;try simp only [he]
     exact lx h
    ·exact h.elim
   cases g with
   | none=>exact ha h
   | some p=>
    obtain⟨t,w⟩:=p
    refine DZ (yK h ha fun h=> ?_)
    simp only [rE,hc,if_true]
    exact lx h
  | false=>
   simp only [hc]at h
   have ha:(match aS o tm s with | some (d,_)=>mS (.op dst none o) tm d (bq.take b)∧fN P K r bq (tm.put dst d) s | none=>False)→gh P K ((.op dst none o,b)::r) bq tm s:=by
    intro h
    refine Gj ?_
    simp only [OL,hc,PL]
    split at h
    ·rename_i he;try simp only [he]
     exact⟨h.1,lx h.2⟩
    ·exact h.elim
   cases g with
   | none=>exact ha h
   | some p=>
    obtain⟨t,w⟩:=p
    refine DZ (yK h ha fun h=> ?_)
    simp only [rE,hc]
    exact lx h
 | (.call dst g f xs,b)::r,bq,tm,s,h=>by
  simp only [fN]at h
  have ha:(CL P f (xs.map (·.ev tm)) s fun d s'=>fN P K r (s::bq) (tm.put dst d) s')→gh P K ((.call dst none f xs,b)::r) bq tm s:=
   fun⟨d,s',h1,h2⟩=>Ky ⟨d,s',h1,lx h2⟩
  cases g with
  | none=>exact ha h
  | some p=>
   obtain⟨t,w⟩:=p
   exact Ip (yK h ha fun h=>lx h)
 | (.nil ..,_)::_,bq,tm,s,h=>h.elim
 | (.iA ..,_)::_,bq,tm,s,h=>h.elim
section
variable {P:Program} {B:fj} {nt:Nat}
def gB (P:Program) (B:fj) (nt:Nat):AC→(Exit→Tm→St→Prop)→Tm→St→Prop
 | .skip,Q,tm,s=>Q .normal tm s
 | .run is,Q,tm,s=>jt P is (Q .normal) tm s
 | .par is kS,Q,tm,s=>match lT is kS with | some l=>fN P (Q .normal) l [] tm s | none=>False
 | .seq a b,Q,tm,s=>gB P B nt a (lL (gB P B nt b Q) Q) tm s
 | .cond x a b,Q,tm,s=>sI (x.ev tm) (gB P B nt a Q tm s) (gB P B nt b Q tm s)
 | .block id a,Q,tm,s=>gB P B nt a (jI id Q) tm s
 | .loop a,Q,tm,s=>bj P B nt a Q tm s
 | .exit id,Q,tm,s=>Q (.exit id) tm s
 | .scope a,Q,tm,s=>nf P B nt a a Q tm s
 | .label _,Q,tm,s=>Q .normal tm s
 | .goto l,Q,tm,s=>Q (.goto l) tm s
 | .ret,Q,tm,s=>Q .ret tm s
theorem gN : ∀ {ac:AC} {Q:Exit→Tm→St→Prop} {tm:Tm} {s:St},gB P B nt ac Q tm s→Sem P B nt ac Q tm s:=by
 intro ac
 induction ac with
 | skip=>exact fun h=>Sem.skip h
 | run is=>exact fun h=>Sem.run (mZ h)
 | par is kS=>
  intro Q tm s h
  simp only [gB]at h
  split at h
  ·exact Sem.aeO ‹_› (lx h)
  ·exact h.elim
 | seq a b M3 M4=>
  intro Q tm s h
  refine Sem.seq ((M3 h).mono fun e tm s hq=> ?_)
  cases e with
  | normal=>exact M4 hq
  | _=>exact hq
 | cond x a b M3 M4=>
  intro Q tm s h
  refine Sem.abA ?_
  simp only [gB]at h
  unfold sI at h ⊢
  split at h
  ·exact⟨fun e=>M3 (h.1 e),fun e=>M4 (h.2 e)⟩
  ·exact h.elim
 | block id a ih=>exact fun h=>Sem.block (ih h)
 | loop a ih=>exact fun h=>Sem.loop h
 | exit id=>exact fun h=>Sem.exit h
 | scope a ih=>exact fun h=>Sem.scope h
 | label l=>exact fun h=>Sem.label h
 | goto l=>exact fun h=>Sem.goto h
 | ret=>exact fun h=>Sem.ret h
section
variable (Q:Exit→Tm→St→Prop) (N:Tm→St→Prop) (tm:Tm) (s:St) (a b:AC) (is:List AI) (x:X)
theorem Qt:gB P B nt .skip Q tm s=Q .normal tm s:=nd rfl
theorem Vy:gB P B nt (.run is) Q tm s=jt P is (Q .normal) tm s:=nd rfl
theorem Vz (kS:List (Nat×Nat)):gB P B nt (.par is kS) Q tm s=match lT is kS with | some l=>fN P (Q .normal) l [] tm s | none=>False:=nd rfl
theorem VA:gB P B nt (.seq a b) Q tm s=gB P B nt a (lL (gB P B nt b Q) Q) tm s:=nd rfl
theorem Qu:gB P B nt (.cond x a b) Q tm s = @CB (x.ev tm) ⟨gB P B nt a Q tm s,gB P B nt b Q tm s⟩:=nd rfl
theorem Nr (id:Nat):gB P B nt (.block id a) Q tm s=gB P B nt a (jI id Q) tm s:=nd rfl
theorem Qv:gB P B nt (.loop a) Q tm s=bj P B nt a Q tm s:=nd rfl
theorem Ns:gB P B nt (.scope a) Q tm s=nf P B nt a a Q tm s:=nd rfl
theorem Qw (id:Nat):gB P B nt (.exit id) Q tm s=Q (.exit id) tm s:=nd rfl
theorem Nt (id:Nat):gB P B nt (.label id) Q tm s=Q .normal tm s:=nd rfl
theorem Qx (id:Nat):gB P B nt (.goto id) Q tm s=Q (.goto id) tm s:=nd rfl
theorem VB:gB P B nt .ret Q tm s=Q .ret tm s:=nd rfl
theorem VC:lL N Q .normal tm s=N tm s:=nd rfl
theorem VD:lL N Q .ret tm s=Q .ret tm s:=nd rfl
theorem VE (id:Nat):lL N Q (.exit id) tm s=Q (.exit id) tm s:=nd rfl
theorem VF (id:Nat):lL N Q (.goto id) tm s=Q (.goto id) tm s:=nd rfl
theorem Qy (id:Nat):jI id Q .normal tm s=Q .normal tm s:=nd rfl
theorem Qz (id:Nat):jI id Q .ret tm s=Q .ret tm s:=nd rfl
theorem QA (id l:Nat):jI id Q (.goto l) tm s=Q (.goto l) tm s:=nd rfl
theorem QB (id i:Nat):jI id Q (.exit i) tm s=if i=id then Q .normal tm s else Q (.exit i) tm s:=nd rfl
end
theorem bj.uI {a:AC} {Q:Exit→Tm→St→Prop} {tm:Tm} {s:St} (h:gB P B nt a (lL (bj P B nt a Q) Q) tm s):bj P B nt a Q tm s:=bj.once (gN h)
theorem nf.uI {a r:AC} {Q:Exit→Tm→St→Prop} {tm:Tm} {s:St} (h:gB P B nt r (jm P B nt a Q) tm s):nf P B nt a r Q tm s:=nf.once (gN h)
def su (tm:Tm) (n m:Nat):Tm→Prop
 | []=>True
 | (k,d)::r=>Wk ((tm.get k).fg n m) d∧su tm n m r
theorem su.get {tm:Tm} {n m:Nat} : ∀ {bH:Tm},su tm n m bH→∀ t,Wk ((tm.get t).fg n m) (bH.get t)
 | [],_,t=>Wk.junk _
 | (k,d)::r,h,t=>by
  simp only [Tm.get]
  split
  ·rename_i hk;subst hk;exact h.1
  ·exact su.get h.2 t
theorem Holds.re {Q:Exit→Tm→St→Prop} {tm bH:Tm} {s:St} {j9:List (List D)} {act:Act} {w:World} (n m:Nat) (hn:B.s.aA.length≤n) (hm:B.s.aC.length≤m) (ht:su tm n m bH) (ho:gT (s.cut n m).aA j9)
 (h:Holds B nt tm s act w):Holds B nt bH ⟨j9,(s.cut n m).aC⟩ act w:=by
 obtain⟨M,e,r,hr,h1,h2⟩:=h
 obtain⟨r',le⟩:=(r.cut n m).Ba ho
 have e':=e.cut hn hm
 refine⟨M,e'.trans ⟨le,fun _ _ _ _=>rfl,fun o h1 h2=> ?_,fun t b c z hl e=> .inl ⟨hl,c,z,e⟩,fun _ _ h=>(h rfl).elim,Nat.le_refl _,rfl,rfl,rfl⟩,r',fun k=>((ht.get k) _ _ _ ((hr k).fg n m)).mono le,h1,h2⟩
 rw [← ho.len]at h2
 exact absurd h2 (Nat.not_lt.2 h1)
theorem bj.re {a:AC} {Q:Exit→Tm→St→Prop} {tm:Tm} {s:St} (bH:Tm) (j9:List (List D)) (n m:Nat) (hn:B.s.aA.length≤n) (hm:B.s.aC.length≤m) (ht:su tm n m bH) (ho:gT (s.cut n m).aA j9)
 (h:bj P B nt a Q bH ⟨j9,(s.cut n m).aC⟩):bj P B nt a Q tm s:=
 fun c hc act w hh=>h c hc act w (hh.re (Q:=Q) n m hn hm ht ho)
theorem nf.re {a r:AC} {Q:Exit→Tm→St→Prop} {tm:Tm} {s:St} (bH:Tm) (j9:List (List D)) (n m:Nat) (hn:B.s.aA.length≤n) (hm:B.s.aC.length≤m) (ht:su tm n m bH) (ho:gT (s.cut n m).aA j9)
 (h:nf P B nt a r Q bH ⟨j9,(s.cut n m).aC⟩):nf P B nt a r Q tm s:=
 fun c rest hc hr act w hh=>h c rest hc hr act w (hh.re (Q:=Q) n m hn hm ht ho)
theorem bj.ind {ι:Type} {a:AC} {Q:Exit→Tm→St→Prop} (I:ι→Prop) (μ:ι→Nat) (TM:ι→Tm) (ST:ι→St)
 (step : ∀ i,I i→(∀ j,I j→μ j<μ i→bj P B nt a Q (TM j) (ST j))→gB P B nt a (lL (bj P B nt a Q) Q) (TM i) (ST i)) : ∀ i,I i→bj P B nt a Q (TM i) (ST i):=by
 have key : ∀ n i,μ i<n→I i→bj P B nt a Q (TM i) (ST i):=by
  intro n
  induction n with
  | zero=>intro i h;exact absurd h (Nat.not_lt_zero _)
  | succ n ih=>exact fun i h hi=>bj.uI (step i hi fun j hj hP=>ih j (by omega) hj)
 exact fun i hi=>key (μ i+1) i (Nat.lt_succ_self _) hi
theorem drop_cons {α:Type} {l rest:List α} {k:Nat} {x:α} (h:l.drop k=x::rest):l[k]? = some x∧l.drop (k+1)=rest∧decide ((k:Int)<(l.length:Int))=true∧k<l.length:=by
 have h1:l[k]? = some x:=by
  have:(l.drop k)[0]? = some x:=by rw [h];rfl
  simpa using this
 have h2:=(List.getElem?_eq_some_iff.1 h1).1
 refine⟨h1, ?_,by simpa using h2,h2⟩
 have:l.drop (k+1)=(l.drop k).drop 1:=by rw [List.drop_drop]
 rw [this,h];rfl
theorem drop_nil {α:Type} {l:List α} {k:Nat} (h:l.drop k = []):decide ((k:Int)<(l.length:Int))=false:=by
 have:=List.drop_eq_nil_iff.1 h
 simp;omega
theorem bj.nT {a:AC} {Q:Exit→Tm→St→Prop} {tm:Tm} {s:St} (t z':Nat) {z:Nat} (hw:tm.get t = .slice .full z [])
 (h:bj P B nt a Q (tm.set t (.slice (.tok s.aC.length) z' [])) {s with aC:=s.aC++ [some 0]}):bj P B nt a Q tm s:=by
 intro c hc act w ⟨M,e,r,ht,h1,h2⟩
 obtain⟨r',le⟩:=r.blank
 refine h c hc act w ⟨_,yG e le,r',fun k=> ?_,h1,h2⟩
 rw [Tm.zQ]
 split
 ·rename_i hk;subst hk;have:=ht k;rw [hw]at this;exact this.own
 ·exact(ht k).mono le
theorem bj.pb {a:AC} {Q:Exit→Tm→St→Prop} {tm:Tm} {s:St} (o i z':Nat) {z:Nat} {cs:List D} (hc:s.aA[o]? = some cs) (hi:cs[i]? = some (.slice .full z []))
 (h:bj P B nt a Q tm ⟨s.aA.set o (cs.set i (.slice (.tok s.aC.length) z' [])),s.aC++ [some 0]⟩):bj P B nt a Q tm s:=by
 intro c Xx act w hh
 obtain⟨M,e,r,ht,h1,h2⟩:=hh
 obtain⟨r',le⟩:=r.blank
 have le':Le M s (M.ey s.aC.length none) ⟨s.aA.set o (cs.set i (.slice (.tok s.aC.length) z' [])),s.aC++ [some 0]⟩:=⟨le.G,by simp,le.loc,le.t,le.tk⟩
 have XW:Le (M.ey s.aC.length none) {s with aC:=s.aC++ [some 0]} (M.ey s.aC.length none) ⟨s.aA.set o (cs.set i (.slice (.tok s.aC.length) z' [])),s.aC++ [some 0]⟩:=
  ⟨fun _ _ _ h=>h,by simp,fun _ _=>rfl,Nat.le_refl _,fun t n' _ e=>⟨n',e,Nat.le_refl _,fun _=>rfl⟩⟩
 have r2:Rel (M.ey s.aC.length none) ⟨s.aA.set o (cs.set i (.slice (.tok s.aC.length) z' [])),s.aC++ [some 0]⟩ w:=by
  refine⟨r'.comm,fun o' ds e=> ?_,fun o ho=>r'.kz o (by simpa using ho),fun o o' ho ml=>r'.inj o o' (by simpa using ho) (by simpa using ml),r'.tok,
   fun t b c z o hv e ho=>r'.fm t b c z o hv e (by simpa using ho),r'.fS⟩
  simp only [List.getElem?_set]at e
  split at e
  ·rename_i ho
   subst ho
   split at e
   ·cases e
    obtain⟨vs,T,g1,g2,g3,g4⟩:=r.obj o cs hc
    refine⟨vs,T,g1,by simpa using g2,g3,fun j d v e1 e2=> ?_⟩
    rw [List.getElem?_set]at e1
    split at e1
    ·rename_i hj
     subst hj
     split at e1
     ·cases e1
      exact((g4 i _ v hi e2).own (z':=z')).mono XW
     ·cases e1
    ·exact(g4 j d v e1 e2).mono le'
   ·cases e
  ·obtain⟨vs,T,g1,g2,g3,g4⟩:=r'.obj o' ds e
   exact⟨vs,T,g1,g2,g3,fun i d v e1 e2=>(g4 i d v e1 e2).mono XW⟩
 have ee:Ext B.M B.s B.w (M.ey s.aC.length none) ⟨s.aA.set o (cs.set i (.slice (.tok s.aC.length) z' [])),s.aC++ [some 0]⟩ w:=by
  refine(yG e le).trans ⟨XW,fun _ _ _ _=>rfl,fun o h1 h2=> ?_,fun t b c z hl e=> .inl ⟨hl,c,z,e⟩,fun _ _ h=>(h rfl).elim,Nat.le_refl _,rfl,rfl,rfl⟩
  simp at h2
  exact absurd h2 (Nat.not_lt.2 h1)
 exact h c Xx act w ⟨_,ee,r2,fun k=>(ht k).mono le',h1,h2⟩
theorem bT {ac r:AC} {l:Nat} {Q:Exit→Tm→St→Prop} {tm:Tm} {s:St} (hf:qV ac l=some r) (h:gB P B nt r (jm P B nt ac Q) tm s):jm P B nt ac Q (.goto l) tm s:=⟨r,hf,nf.uI h⟩
theorem QC {ac r:AC} {l:Nat} {Q:Exit→Tm→St→Prop} {tm:Tm} {s:St} (hf:qV ac l=some r) (h:nf P B nt ac r Q tm s):jm P B nt ac Q (.goto l) tm s:=⟨r,hf,h⟩
theorem Sem.kb {a b:AC} {Q:Exit→Tm→St→Prop} {tm:Tm} {s:St} (h:gB P B nt a (lL (Sem P B nt b Q) Q) tm s):Sem P B nt (.seq a b) Q tm s:=Sem.seq (gN h)
theorem Sem.re {a:AC} {Q:Exit→Tm→St→Prop} {tm:Tm} {s:St} (bH:Tm) (j9:List (List D)) (n m:Nat) (hn:B.s.aA.length≤n) (hm:B.s.aC.length≤m) (ht:su tm n m bH) (ho:gT (s.cut n m).aA j9)
 (h:Sem P B nt a Q bH ⟨j9,(s.cut n m).aC⟩):Sem P B nt a Q tm s:=
 fun c hc act w hh=>h c hc act w (hh.re (Q:=Q) n m hn hm ht ho)
def Has (P:Program) (f nt:Nat) (res:List (Nat×Option (Bool×Nat))) (body:AC):Prop:=∃ fn,P.funcs[f]? = some fn∧cF P fn=some ⟨nt,res,body⟩
theorem aD.go {f:FuncId} {res:List (Nat×Option (Bool×Nat))} {body:AC} {args:List D} {s:St} {d:D} {s':St} (h0:Has P f nt res body) (hl:Nat.ble args.length nt=true)
 (h : ∀ (B:fj) (Q:Exit→Tm→St→Prop),B.s=s→ig s.aA.length s.aC.length res d s'=Q→gB P B nt body Q (nr 0 args) s):aD P f args s d s':=by
 obtain⟨fn,hf,hc⟩:=h0
 exact aD.intro ⟨fn,hf,hc⟩ (Nat.le_of_ble_eq_true hl) fun B hB=>gN (h B _ hB rfl)
theorem aD.abD {f:FuncId} {args row kT:List D} {rows kI:List (List D)} {z z' k k':Nat} (h:aD P f (.ptr 0 0:: .slice (.tok 0) z rows::args) ⟨[row],[some k]⟩ (.slice (.tok 0) z' kI) ⟨[kT],[some k']⟩)
 (ha:D.bJ 0 0 args=true) (hr:D.bJ 0 0 row=true) (FW:D.bJ 0 0 kT=true) (hw:D.iZ 0 0 rows=true) (Nu:D.iZ 0 0 kI=true)
 {s:St} {o t:Nat} (ho:s.aA[o]? = some row) (ht:s.aC[t]? = some (some k)):aD P f (.ptr o 0:: .slice (.tok t) z rows::args) s (.slice (.tok t) z' kI) ⟨s.aA.set o kT,s.aC.set t (some k')⟩:=by
 refine eg.frame [o] [t] h (by simp) (by simp) (by simpa using (List.getElem?_eq_some_iff.1 ho).1) (by simpa using (List.getElem?_eq_some_iff.1 ht).1) rfl (fun i o' ds e1 e2=> ?_) rfl (fun i t' e1=> ?_)
  (by simp [D.fV,D.dK,Tag.dK,ff _ _ _ ha,iP _ _ _ hw])
  (by simp [D.bJ,D.ok,Tag.ok,gI (Nat.zero_le 1) (Nat.zero_le 1) _ ha,mA (Nat.zero_le 1) (Nat.zero_le 1) _ hw]) ?_
 ·cases i with
  | zero=>simp at e1 e2;subst e1;subst e2;exact⟨by rw [ff _ _ _ hr];exact ho,gI (Nat.zero_le 1) (Nat.zero_le 1) _ hr⟩
  | succ i=>simp at e1
 ·cases i with
  | zero=>simp at e1;subst e1;simp [ht]
  | succ i=>simp at e1
 ·rintro _ _ ⟨rfl,rfl⟩
  refine⟨by simp [D.back,D.dK,Tag.dK,jE,iP _ _ _ Nu], ?_⟩
  simp [St.back,jJ,ff _ _ _ FW]
theorem aD.aeR {f:FuncId} {pre post:List D} {rows kI:List (List D)} {z z' k k':Nat} (h:aD P f (pre++ .slice (.tok 0) z rows::post) ⟨[],[some k]⟩ (.slice (.tok 0) z' kI) ⟨[],[some k']⟩)
 (hp:D.bJ 0 0 pre=true) (ha:D.bJ 0 0 post=true) (hw:D.iZ 0 0 rows=true) (Nu:D.iZ 0 0 kI=true)
 {s:St} {t:Nat} (ht:s.aC[t]? = some (some k)):aD P f (pre++ .slice (.tok t) z rows::post) s (.slice (.tok t) z' kI) ⟨s.aA,s.aC.set t (some k')⟩:=by
 refine eg.frame [] [t] h (by simp) (by simp) (by simp) (by simpa using (List.getElem?_eq_some_iff.1 ht).1) rfl (fun i o' ds e1 e2=>by simp at e1) rfl (fun i t' e1=> ?_)
  ?_ ?_ ?_
 ·cases i with
  | zero=>simp at e1;subst e1;simp [ht]
  | succ i=>simp at e1
 ·have h1:=ff [] [t] _ hp
  have h2:=ff [] [t] _ ha
  rw [fC]at h1 h2
  simp [fC,D.dK,Tag.dK,h1,h2,iP _ _ _ hw]
 ·have h1:=gI (n':=0) (m':=1) (Nat.le_refl 0) (Nat.zero_le 1) _ hp
  have h2:=gI (n':=0) (m':=1) (Nat.le_refl 0) (Nat.zero_le 1) _ ha
  rw [yD]at h1 h2 ⊢
  simp only [List.length_nil,List.length_cons,List.all_append,h1,Bool.true_and,List.all_cons,h2,Bool.and_true,D.ok,Tag.ok,mA (Nat.zero_le 0) (Nat.zero_le 1) _ hw]
  rfl
 ·rintro _ _ ⟨rfl,rfl⟩
  refine⟨by simp [D.back,D.dK,Tag.dK,jE,iP _ _ _ Nu], ?_⟩
  simp [St.back,jJ]
theorem aeS (A C:Prop) : @CB (.bool true) ⟨A,C⟩=A:=by simp [CB,sI]
theorem aeT (A C:Prop) : @CB (.bool false) ⟨A,C⟩=C:=by simp [CB,sI]
theorem XX (b:Bool) (A C:Prop) : @CB (.bool (!b)) ⟨A,C⟩ = @CB (.bool b) ⟨C,A⟩:=by
 cases b <;> simp [CB,sI]
theorem Gk {b:Bool} {A C:Prop} (h1:b=true→A) (h2:b=false→C) : @CB (.bool b) ⟨A,C⟩:=⟨h1,h2⟩
theorem XY {b:Bool} {A C:Prop} (h:b=true) (h1:b=true→A) : @CB (.bool b) ⟨A,C⟩:=Gk h1 (fun h'=>by rw [h]at h';cases h')
theorem XZ {b:Bool} {A C:Prop} (h:b=false) (h1:b=false→C) : @CB (.bool b) ⟨A,C⟩:=Gk (fun h'=>by rw [h]at h';cases h') h1
theorem abE {n m:Nat} {res:List (Nat×Option (Bool×Nat))} {d:D} {s':St} {tm:Tm} {s:St} {Q:Exit→Tm→St→Prop} (hQ:ig n m res d s'=Q)
 (h : ∃ l,az res tm s=some l∧Wk ((aB l).fg n m) d∧gT (s.cut n m).aA s'.aA∧(s.cut n m).aC=s'.aC):Q .ret tm s:=hQ ▸ h
theorem abF {n m:Nat} {res:List (Nat×Option (Bool×Nat))} {d:D} {s':St} {tm:Tm} {s:St} {Q:Exit→Tm→St→Prop} (hQ:ig n m res d s'=Q)
 (h : ∃ l,az res tm s=some l∧Wk ((aB l).fg n m) d∧gT (s.cut n m).aA s'.aA∧(s.cut n m).aC=s'.aC):Q .normal tm s:=hQ ▸ h
end
attribute [go_sem] Qt Vy Vz VA Qu Nr Qv Ns Qw Nt Qx VB VC VD VE VF Qy Qz QA QB
theorem Nv : ∀ (tm:Tm) (s:St) (x:X),aS (AO.mv x) tm s=some (X.ev tm x,s):=
 fun tm s x=>nd (aS.eq_1 tm s x)
theorem Nw : ∀ (tm:Tm) (s:St) (c a b:X),
 aS (AO.pick c a b) tm s =
  match X.ev tm c with
  | D.bool t=>some (if t=true then X.ev tm a else X.ev tm b,s)
  | x=>none:=
 fun tm s c a b=>nd (aS.eq_2 tm s c a b)
theorem Nx : ∀ (tm:Tm) (s:St) (zero:List D),
 aS (AO.alloc zero) tm s=some (D.ptr s.aA.length 0,{aA:=s.aA++ [zero],aC:=s.aC}):=
 fun tm s zero=>nd (aS.eq_3 tm s zero)
theorem Ny : ∀ (tm:Tm) (s:St) (x:X),
 aS (AO.box x) tm s =
  match (X.ev tm x).row with
  | some r=>some (D.ptr s.aA.length 0,{aA:=s.aA++ [r],aC:=s.aC})
  | none=>none:=
 fun tm s x=>nd (aS.eq_4 tm s x)
theorem Nz : ∀ (tm:Tm) (s:St) (zero:List D) (parts:List (Nat×Nat×X)),
 aS (AO.build zero parts) tm s =
  match pN zero (List.map (fun(p:Nat×Nat×X)=>(p.fst,p.snd.fst,X.ev tm p.snd.snd)) parts)with
  | some cs=>some (D.agg cs,s)
  | none=>none:=
 fun tm s zero parts=>nd (aS.eq_5 tm s zero parts)
theorem NA : ∀ (tm:Tm) (s:St) (zero:List D) (size n:Nat) (parts:List (Nat×X)),
 aS (AO.cG zero size n parts) tm s =
  match je size (ic zero n) (List.map (fun(p:Nat×X)=>(p.fst,X.ev tm p.snd)) parts)with
  | some rows=>some (D.slice Tag.full size rows,s)
  | none=>none:=
 fun tm s zero size n parts=>nd (aS.eq_6 tm s zero size n parts)
theorem NB : ∀ (tm:Tm) (s:St) (zero:List D) (size n:Nat) (parts:List (Nat×X)),
 aS (AO.s6 zero size n parts) tm s =
  match je size (ic zero n) (List.map (fun(p:Nat×X)=>(p.fst,X.ev tm p.snd)) parts)with
  | some rows=>
   some (D.slice (Tag.tok s.aC.length) size rows,{aA:=s.aA,aC:=s.aC++ [some rows.length]})
  | none=>none:=
 fun tm s zero size n parts=>nd (aS.eq_7 tm s zero size n parts)
theorem NC : ∀ (tm:Tm) (s:St) (x:X),
 aS (AO.yh x) tm s =
  match X.ev tm x with
  | D.slice (Tag.tok t _) z rows=>
   if rows≠ []∧s.aC[t]? = some (some rows.length)then
    some (D.slice Tag.shared z rows,{aA:=s.aA,aC:=s.aC.set t none})
   else none
  | x=>none:=
 fun tm s x=>nd (aS.eq_8 tm s x)
theorem ND : ∀ (tm:Tm) (s:St) (x:X) (agg:Bool) (size:Nat),
 aS (AO.load x agg size) tm s =
  match X.ev tm x with
  | D.ptr o off=>
   match s.aA[o]? with
   | some cs=>
    match part cs off agg size with
    | some d=>some (d,s)
    | none=>none
   | none=>none
  | D.dI row off=>
   match part row off agg size with
   | some d=>some (d,s)
   | none=>none
  | x=>none:=
 fun tm s x agg size=>nd (aS.eq_9 tm s x agg size)
theorem Kz : ∀ (tm:Tm) (s:St) (p x:X) (size:Nat),
 aS (AO.store p x size) tm s =
  match X.ev tm p,(X.ev tm x).row with
  | D.ptr o off,some r=>
   match s.aA[o]? with
   | some cs=>
    if r.length=size∧off+size≤cs.length then
     some (D.tuple [],{aA:=s.aA.set o (iY cs off r),aC:=s.aC})
    else none
   | none=>none
  | x,fb=>none:=
 fun tm s p x size=>nd (aS.eq_10 tm s p x size)
theorem KA : ∀ (tm:Tm) (s:St) (x:X),
 aS (AO.di x) tm s =
  match X.ev tm x with
  | D.ptr o off=>some (D.ptr o off,s)
  | D.dI row off=>some (D.dI row off,s)
  | x=>none:=
 fun tm s x=>nd (aS.eq_11 tm s x)
theorem KB : ∀ (tm:Tm) (s:St) (op:BinOp) (x y:X),
 aS (AO.bin op x y) tm s =
  match vi op (X.ev tm x) (X.ev tm y)with
  | some d=>some (d,s)
  | none=>none:=
 fun tm s op x y=>nd (aS.eq_12 tm s op x y)
theorem KD : ∀ (tm:Tm) (s:St) (neg:Bool) (x y:X),
 aS (AO.As neg x y) tm s =
  match X.ev tm x,X.ev tm y with
  | D.bool a,D.bool b=>some (D.bool (if neg=true then !a==b else a==b),s)
  | x,fb=>none:=
 fun tm s neg x y=>nd (aS.eq_13 tm s neg x y)
theorem KE : ∀ (tm:Tm) (s:St) (neg:Bool) (ks:List Nat) (x y:X),
 aS (AO.eqs neg ks x y) tm s =
  match X.ev tm x,X.ev tm y with
  | D.agg a,D.agg b=>
   match kr ks a b with
   | some e=>some (D.bool (if neg=true then !e else e),s)
   | none=>none
  | x,fb=>none:=
 fun tm s neg ks x y=>nd (aS.eq_14 tm s neg ks x y)
theorem KF : ∀ (tm:Tm) (s:St) (neg:Bool) (x y:X),
 aS (AO.DJ neg x y) tm s =
  match X.ev tm x,X.ev tm y with
  | D.e9,D.e9=>some (D.bool !neg,s)
  | D.ptr o off,D.e9=>some (D.bool neg,s)
  | D.dI row off,D.e9=>some (D.bool neg,s)
  | x,fb=>none:=
 fun tm s neg x y=>nd (aS.eq_15 tm s neg x y)
theorem KH : ∀ (tm:Tm) (s:St) (op:UnOp) (x:X),
 aS (AO.un op x) tm s =
  match FM op (X.ev tm x)with
  | some d=>some (d,s)
  | none=>none:=
 fun tm s op x=>nd (aS.eq_16 tm s op x)
theorem KI : ∀ (tm:Tm) (s:St) (k:IntKind) (x:X),
 aS (AO.conv k x) tm s =
  match X.ev tm x with
  | D.int k_1 n=>some (D.int k (k.wrap n),s)
  | x=>none:=
 fun tm s k x=>nd (aS.eq_17 tm s k x)
theorem KK : ∀ (tm:Tm) (s:St) (x:X),
 aS (AO.Bs x) tm s =
  match X.ev tm x with
  | D.slice g size rows=>
   match mY rows with
   | some b=>some (D.str b,s)
   | none=>none
  | x=>none:=
 fun tm s x=>nd (aS.eq_18 tm s x)
theorem KM : ∀ (tm:Tm) (s:St) (x:X),
 aS (AO.vS x) tm s =
  match X.ev tm x with
  | D.str l=>some (D.slice Tag.shared 1 (List.map (fun(c:UInt8)=> [D.int IntKind.u8 ↑c.toNat]) l),s)
  | x=>none:=
 fun tm s x=>nd (aS.eq_19 tm s x)
theorem KN : ∀ (tm:Tm) (s:St) (size:Nat) (x:X) (lo hi:Option X),
 aS (AO.FJ size x lo hi) tm s =
  match X.ev tm x with
  | D.slice g z rows=>
   match yl (Option.map (fun(x:X)=>X.ev tm x) lo),
    ym (Option.map (fun(x:X)=>X.ev tm x) hi) rows.length with
   | some l,some h=>
    if(rows = []∨z=size)∧0≤l∧l≤h∧h≤ ↑rows.length then
     some
      (D.slice (if l=0 then g.cut (decide (h = ↑rows.length))else Tag.shared) z
       (List.drop l.toNat (List.take h.toNat rows)),
       s)
    else none
   | x,fb=>none
  | x=>none:=
 fun tm s size x lo hi=>nd (aS.eq_20 tm s size x lo hi)
theorem KO : ∀ (tm:Tm) (s:St) (x:X) (lo hi:Option X),
 aS (AO.wR x lo hi) tm s =
  match X.ev tm x with
  | D.str t=>
   match yl (Option.map (fun(x:X)=>X.ev tm x) lo),ym (Option.map (fun(x:X)=>X.ev tm x) hi) t.length with
   | some l,some h=>
    if 0≤l∧l≤h∧h≤ ↑t.length then some (D.str (List.drop l.toNat (List.take h.toNat t)),s)else none
   | x,fb=>none
  | x=>none:=
 fun tm s x lo hi=>nd (aS.eq_21 tm s x lo hi)
theorem KP : ∀ (tm:Tm) (s:St) (x:X) (off:Nat),
 aS (AO.au x off) tm s =
  match X.ev tm x with
  | D.ptr o k=>some (D.ptr o (k+off),s)
  | D.dI row k=>some (D.dI row (k+off),s)
  | x=>none:=
 fun tm s x off=>nd (aS.eq_22 tm s x off)
theorem KQ : ∀ (tm:Tm) (s:St) (x:X) (off:Nat) (agg:Bool) (size:Nat),
 aS (AO.rj x off agg size) tm s =
  match X.ev tm x with
  | D.agg cs=>
   match part cs off agg size with
   | some d=>some (d,s)
   | none=>none
  | x=>none:=
 fun tm s x off agg size=>nd (aS.eq_23 tm s x off agg size)
theorem KR : ∀ (tm:Tm) (s:St) (x i:X) (size:Nat),
 aS (AO.cu x i size) tm s =
  match X.ev tm x,X.ev tm i with
  | D.slice g z rows,D.int k n=>
   if 0≤n∧z=size then
    match rows[n.toNat]? with
    | some row=>some (D.dI row 0,s)
    | none=>none
   else none
  | x,fb=>none:=
 fun tm s x i size=>nd (aS.eq_24 tm s x i size)
theorem KS : ∀ (tm:Tm) (s:St) (x i:X),
 aS (AO.nJ x i) tm s =
  match X.ev tm x,X.ev tm i with
  | D.str t,D.int k n=>
   if 0≤n then
    match t[n.toNat]? with
    | some c=>some (D.int IntKind.u8 ↑c.toNat,s)
    | none=>none
   else none
  | x,fb=>none:=
 fun tm s x i=>nd (aS.eq_25 tm s x i)
theorem KT : ∀ (tm:Tm) (s:St) (x:X) (i:Nat),
 aS (AO.ext x i) tm s =
  match X.ev tm x with
  | D.tuple ds=>
   match ds[i]? with
   | some d=>some (d,s)
   | none=>none
  | x=>none:=
 fun tm s x i=>nd (aS.eq_26 tm s x i)
theorem KU : ∀ (tm:Tm) (s:St) (x:X),
 aS (AO.kR x) tm s =
  match X.ev tm x with
  | D.str t=>some (D.int IntKind.i64 ↑t.length,s)
  | x=>none:=
 fun tm s x=>nd (aS.eq_27 tm s x)
theorem KV : ∀ (tm:Tm) (s:St) (x:X),
 aS (AO.len x) tm s =
  match X.ev tm x with
  | D.slice g size rows=>some (D.int IntKind.i64 ↑rows.length,s)
  | x=>none:=
 fun tm s x=>nd (aS.eq_28 tm s x)
theorem KW : ∀ (tm:Tm) (s:St) (size bytes:Nat) (x y:X),
 aS (AO.app size bytes x y) tm s=kA size bytes (X.ev tm x) (X.ev tm y) s:=
 fun tm s size bytes x y=>nd (aS.eq_29 tm s size bytes x y)
theorem KX : ∀ (tm:Tm) (s:St) (isMax:Bool) (x y:X),
 aS (AO.mm isMax x y) tm s =
  match X.ev tm x,X.ev tm y with
  | D.int k a,D.int k' b=>
   if k=k' then some (D.int k (if isMax=true then if b > a then b else a else if b<a then b else a),s)
   else none
  | x,fb=>none:=
 fun tm s isMax x y=>nd (aS.eq_30 tm s isMax x y)
theorem KY (tm:Tm) (s:St) (r:List D) (T:TypeId):aS (AO.rk (.e9::r) T) tm s=some (.ptr s.aA.length 0,{aA:=s.aA++ [.fB T s.aA.length::r],aC:=s.aC}):=nd rfl
theorem KZ (tm:Tm) (s:St) (x:X) (T:TypeId):aS (AO.yi x T) tm s =
 match (x.ev tm).row with
 | some (.e9::r)=>some (.ptr s.aA.length 0,{aA:=s.aA++ [.fB T s.aA.length::r],aC:=s.aC})
 | _=>none:=nd rfl
theorem K0 (tm:Tm) (s:St) (x y:X):aS (AO.apps x y) tm s =
 match y.ev tm with
 | .str l=>yn (x.ev tm) (.slice .shared 1 (l.map fun c=> [.int .u8 c.toNat])) s
 | _=>none:=nd rfl
theorem K1 (tm:Tm) (s:St) (x y:X):aS (AO.yj x y) tm s=yn (x.ev tm) (y.ev tm) s:=nd rfl
theorem K3 (tm:Tm) (s:St) (f:Nat) (xs:List X):aS (AO.sA f xs) tm s=some (.gn f (xs.map fun x=>x.ev tm),s):=nd rfl
theorem K4 (tm:Tm) (s:St):aS AO.sB tm s=some (.gk s.aA.length,{aA:=s.aA++ [[]],aC:=s.aC}):=nd rfl
theorem K5 (tm:Tm) (s:St) (m k v:X):aS (AO.wS m k v) tm s =
 match m.ev tm,k.ev tm,v.ev tm with
 | .gk o, .str key, .slice g z rows=>
  match s.aA[o]? with
  | some cs=>match vj key (.slice g z rows) cs with | some iO=>some (.tuple [],{aA:=s.aA.set o iO,aC:=s.aC}) | none=>none
  | none=>none
 | _,_,_=>none:=nd rfl
theorem K6 (tm:Tm) (s:St) (m k:X) (zero:D):aS (AO.um m k zero) tm s =
 match m.ev tm,k.ev tm with
 | .gk o, .str key=>
  match s.aA[o]? with
  | some cs=>match wT key zero cs with | some d=>some (d,s) | none=>none
  | none=>none
 | _,_=>none:=nd rfl
theorem Gl (f:Nat) (xs:List X):(AO.sA f xs).core=false:=nd rfl
theorem Gm:AO.sB.core=true:=nd rfl
theorem Gn (m k v:X):(AO.wS m k v).core=true:=nd rfl
theorem Gp (m k:X) (zero:D):(AO.um m k zero).core=false:=nd rfl
theorem NF (n m f:Nat) (cs:List D):D.fg n m (.gn f cs) = .gn f (D.gG n m cs):=nd (by simp only [D.fg])
theorem NG (n m:Nat) (o:Nat):D.fg n m (.gk o)=if o<n then .gk o else .junk:=nd (by simp only [D.fg])
theorem K7 (d:Option Nat) (g:Option (Nat×Bool)) (t:Nat) (xs:List X):(AI.iA d g t xs).dst=d:=nd rfl
theorem Gq (x y:X):(AO.yj x y).core=true:=nd rfl
theorem Gr (z:List D) (T:TypeId):(AO.rk z T).core=true:=nd rfl
theorem Gs (x:X) (T:TypeId):(AO.yi x T).core=true:=nd rfl
theorem Gt (x y:X):(AO.apps x y).core=true:=nd rfl
theorem NH (n m:Nat) (v:Value):D.fg n m (.val v) = .val v:=nd (by simp only [D.fg])
theorem NK (n m:Nat) (T:TypeId) (o:Nat):D.fg n m (.fB T o)=if o<n then .fB T o else .junk:=nd (by simp only [D.fg])
theorem QD : ∀ (tm:Tm) (t:Nat),X.ev tm (X.s t)=tm.get t:=
 fun tm t=>nd (X.ev.eq_1 tm t)
theorem QE : ∀ (tm:Tm) (d:D),X.ev tm (X.k d)=d:=
 fun tm d=>nd (X.ev.eq_2 tm d)
theorem K8 : ∀ (tm:Tm) (d:D) (t:Nat),tm.put (some t) d=tm.set t d:=
 fun tm d t=>nd (Tm.put.eq_1 tm d t)
theorem K9 : ∀ (tm:Tm) (d:D),tm.put none d=tm:=
 fun tm d=>nd (Tm.put.eq_2 tm d)
theorem La : ∀ (x:Nat) (fb:D),Tm.set [] x fb = [(x,fb)]:=
 fun x fb=>nd (Tm.set.eq_1 x fb)
theorem Lb : ∀ (x:Nat) (fb:D) (k:Nat) (e:D) (r:List (Nat×D)),
 Tm.set ((k,e)::r) x fb=if k=x then(k,fb)::r else(k,e)::Tm.set r x fb:=
 fun x fb k e r=>nd (Tm.set.eq_2 x fb k e r)
theorem Lc : ∀ (x:Nat),Tm.get [] x=D.junk:=
 fun x=>nd (Tm.get.eq_1 x)
theorem Ld : ∀ (x k:Nat) (d:D) (r:List (Nat×D)),Tm.get ((k,d)::r) x=if k=x then d else Tm.get r x:=
 fun x k d r=>nd (Tm.get.eq_2 x k d r)
theorem NL : ∀ (x:Nat),nr x [] = []:=
 fun x=>nd (nr.eq_1 x)
theorem NM : ∀ (x:Nat) (d:D) (r:List D),nr x (d::r)=(x,d)::nr (x+1) r:=
 fun x d r=>nd (nr.eq_2 x d r)
theorem Lf : ∀ (d:Option Nat) (g:Option (Nat×Bool)) (o:AO),(AI.op d g o).dst=d:=
 fun d g o=>nd (AI.dst.eq_1 d g o)
theorem Lg : ∀ (d:Option Nat) (g:Option (Nat×Bool)) (f:Nat) (xs:List X),(AI.call d g f xs).dst=d:=
 fun d g f xs=>nd (AI.dst.eq_2 d g f xs)
theorem Lh : ∀ (d:Option Nat) (g:Option (Nat×Bool)) (neg:Bool) (fb:X),(AI.nil d g neg fb).dst=d:=
 fun d g neg fb=>nd (AI.dst.eq_3 d g neg fb)
theorem QF : ∀ (cs:List D) (off size:Nat),
 part cs off true size=if off+size≤cs.length then some (D.agg (List.take size (List.drop off cs)))else none:=
 fun cs off size=>nd (part.eq_1 cs off size)
theorem QG : ∀ (cs:List D) (off size:Nat),part cs off false size=cs[off]? :=
 fun cs off size=>nd (part.eq_2 cs off size)
theorem Li : ∀ (cs:List D) (off:Nat) (r:List D),
 iY cs off r=List.take off cs++r++List.drop (off+r.length) cs:=
 fun cs off r=>nd (iY.eq_1 cs off r)
theorem NN : ∀ (cells:List D),pN cells [] = some cells:=
 fun cells=>nd (pN.eq_1 cells)
theorem NO : ∀ (cells:List D) (off size:Nat) (d:D) (rest:List (Nat×Nat×D)),
 pN cells ((off,size,d)::rest) =
  match d.row with
  | none=>none
  | some r=>if r.length=size∧off+size≤cells.length then pN (iY cells off r) rest else none:=
 fun cells off size d rest=>nd (pN.eq_2 cells off size d rest)
theorem Gu : ∀ (size:Nat) (rows:List (List D)),je size rows [] = some rows:=
 fun size rows=>nd (je.eq_1 size rows)
theorem Gv : ∀ (size:Nat) (rows:List (List D)) (i:Nat) (d:D) (rest:List (Nat×D)),
 je size rows ((i,d)::rest) =
  match d.row with
  | none=>none
  | some r=>if r.length=size∧i<rows.length then je size (rows.set i r) rest else none:=
 fun size rows i d rest=>nd (je.eq_2 size rows i d rest)
theorem Gw : ∀ (zero:List D),ic zero 0 = []:=
 fun zero=>nd (ic.eq_1 zero)
theorem Gx : ∀ (zero:List D) (i:Nat),ic zero i.succ=zero::ic zero i:=
 fun zero i=>nd (ic.eq_2 zero i)
theorem QH : ∀ (op:BinOp) (k:IntKind) (a:Int) (k':IntKind) (b:Int),
 vi op (D.int k a) (D.int k' b)=if k=k' then fJ op k a b else none:=
 fun op k a k' b=>nd (vi.eq_1 op k a k' b)
theorem QI : ∀ (op:BinOp) (a b:List UInt8),vi op (D.str a) (D.str b)=mL op a b:=
 fun op a b=>nd (vi.eq_2 op a b)
theorem Lj : ∀ (k:IntKind) (a b:Int),fJ BinOp.add k a b=some (D.int k (k.wrap (a+b))):=
 fun k a b=>nd (fJ.eq_1 k a b)
theorem Lk : ∀ (k:IntKind) (a b:Int),fJ BinOp.sub k a b=some (D.int k (k.wrap (a - b))):=
 fun k a b=>nd (fJ.eq_2 k a b)
theorem Ll : ∀ (k:IntKind) (a b:Int),fJ BinOp.mul k a b=some (D.int k (k.wrap (a*b))):=
 fun k a b=>nd (fJ.eq_3 k a b)
theorem Lm : ∀ (k:IntKind) (a b:Int),
 fJ BinOp.quo k a b=if b=0 then none else some (D.int k (k.wrap (a.tdiv b))):=
 fun k a b=>nd (fJ.eq_4 k a b)
theorem Ln : ∀ (k:IntKind) (a b:Int),fJ BinOp.rem k a b=if b=0 then none else some (D.int k (a.tmod b)):=
 fun k a b=>nd (fJ.eq_5 k a b)
theorem Lo : ∀ (k:IntKind) (a b:Int),fJ BinOp.eql k a b=some (D.bool (a==b)):=
 fun k a b=>nd (fJ.eq_6 k a b)
theorem Lp : ∀ (k:IntKind) (a b:Int),fJ BinOp.neq k a b=some (D.bool (a != b)):=
 fun k a b=>nd (fJ.eq_7 k a b)
theorem Lq : ∀ (k:IntKind) (a b:Int),fJ BinOp.lss k a b=some (D.bool (decide (a<b))):=
 fun k a b=>nd (fJ.eq_8 k a b)
theorem Lr : ∀ (k:IntKind) (a b:Int),fJ BinOp.leq k a b=some (D.bool (decide (a≤b))):=
 fun k a b=>nd (fJ.eq_9 k a b)
theorem Iq : ∀ (k:IntKind) (a b:Int),fJ BinOp.gtr k a b=some (D.bool (decide (a > b))):=
 fun k a b=>nd (fJ.eq_10 k a b)
theorem Ir : ∀ (k:IntKind) (a b:Int),fJ BinOp.geq k a b=some (D.bool (decide (a≥b))):=
 fun k a b=>nd (fJ.eq_11 k a b)
theorem Ls : ∀ (a b:List UInt8),
 mL BinOp.add a b=if a.length+b.length≤bx then some (D.str (a++b))else none:=
 fun a b=>nd (mL.eq_1 a b)
theorem Lt : ∀ (a b:List UInt8),mL BinOp.eql a b=some (D.bool (a==b)):=
 fun a b=>nd (mL.eq_2 a b)
theorem Lu : ∀ (a b:List UInt8),mL BinOp.neq a b=some (D.bool !a==b):=
 fun a b=>nd (mL.eq_3 a b)
theorem Lv : ∀ (a b:List UInt8),mL BinOp.lss a b=some (D.bool (bytesLess a b)):=
 fun a b=>nd (mL.eq_4 a b)
theorem VG : ∀ (k:IntKind) (n:Int),FM UnOp.neg (D.int k n)=some (D.int k (k.wrap (0 - n))):=
 fun k n=>nd (FM.eq_1 k n)
theorem VH : ∀ (b:Bool),FM UnOp.not (D.bool b)=some (D.bool !b):=
 fun b=>nd (FM.eq_2 b)
theorem Lw : ∀ (k:IntKind) (a:Int) (k':IntKind) (b:Int),
 lR 0 (D.int k a) (D.int k' b)=if k=k' then some (a==b)else none:=
 fun k a k' b=>nd (lR.eq_1 k a k' b)
theorem Ly : ∀ (a b:Bool),lR 1 (D.bool a) (D.bool b)=some (a==b):=
 fun a b=>nd (lR.eq_2 a b)
theorem Lz : ∀ (a b:List UInt8),lR 2 (D.str a) (D.str b)=some (a==b):=
 fun a b=>nd (lR.eq_3 a b)
theorem Is:kr [] [] [] = some true:=
 nd (kr.eq_1)
theorem Iu : ∀ (k:Nat) (ks:List Nat) (Tz:D) (xs:List D) (y:D) (ys:List D),
 kr (k::ks) (Tz::xs) (y::ys) =
  match lR k Tz y with
  | none=>none
  | some true=>kr ks xs ys
  | some false=>some false:=
 fun k ks Tz xs y ys=>nd (kr.eq_2 k ks Tz xs y ys)
theorem VI:yl none=some 0:=
 nd (yl.eq_1)
theorem VJ : ∀ (k:IntKind) (n:Int),yl (some (D.int k n))=some n:=
 fun k n=>nd (yl.eq_2 k n)
theorem VK : ∀ (len:Nat),ym none len=some ↑len:=
 fun len=>nd (ym.eq_1 len)
theorem VL : ∀ (len:Nat) (k:IntKind) (n:Int),ym (some (D.int k n)) len=some n:=
 fun len k n=>nd (ym.eq_2 len k n)
theorem Iv : ∀ (zero:List D),(AO.alloc zero).core=true:=
 fun zero=>nd (AO.core.eq_1 zero)
theorem Iw : ∀ (fb:X),(AO.box fb).core=true:=
 fun fb=>nd (AO.core.eq_2 fb)
theorem Ix : ∀ (zero:List D) (size n:Nat) (parts:List (Nat×X)),(AO.s6 zero size n parts).core=true:=
 fun zero size n parts=>nd (AO.core.eq_3 zero size n parts)
theorem Iy : ∀ (fb:X),(AO.yh fb).core=true:=
 fun fb=>nd (AO.core.eq_4 fb)
theorem Iz : ∀ (p fb:X) (size:Nat),(AO.store p fb size).core=true:=
 fun p fb size=>nd (AO.core.eq_5 p fb size)
theorem IA : ∀ (size bytes:Nat) (fb y:X),(AO.app size bytes fb y).core=true:=
 fun size bytes fb y=>nd (AO.core.eq_6 size bytes fb y)
theorem IB : ∀ (val:Nat) (zero:List D),(AI.op (some val) none (AO.alloc zero)).kind=AK.alloc:=
 fun val zero=>nd (AI.kind.eq_1 val zero)
theorem IC : ∀ (zero:List D),(AO.alloc zero).kind=AK.core:=
 fun zero=>nd (AO.kind.eq_1 zero)
theorem ID : ∀ (fb:X),(AO.box fb).kind=AK.core:=
 fun fb=>nd (AO.kind.eq_2 fb)
theorem IE : ∀ (zero:List D) (size n:Nat) (parts:List (Nat×X)),(AO.s6 zero size n parts).kind=AK.core:=
 fun zero size n parts=>nd (AO.kind.eq_3 zero size n parts)
theorem IF : ∀ (fb:X),(AO.yh fb).kind=AK.core:=
 fun fb=>nd (AO.kind.eq_4 fb)
theorem IG : ∀ (p fb:X) (size:Nat),(AO.store p fb size).kind=AK.core:=
 fun p fb size=>nd (AO.kind.eq_5 p fb size)
theorem II : ∀ (size bytes:Nat) (fb y:X),(AO.app size bytes fb y).kind=AK.core:=
 fun size bytes fb y=>nd (AO.kind.eq_6 size bytes fb y)
theorem IJ : ∀ (fb:X) (agg:Bool) (size:Nat),(AO.load fb agg size).kind=AK.load:=
 fun _ _ _=>nd rfl
theorem LA:gd AK.core=true:=
 nd (gd.eq_1)
theorem LB:gd AK.alloc=true:=
 nd (gd.eq_2)
theorem LC : ∀ (i:AI) (tm:Tm) (d:D),mS i tm d [] = True:=
 fun i tm d=>nd (mS.eq_1 i tm d)
theorem LD : ∀ (i:AI) (tm:Tm) (d:D) (s:St) (r:List St),
 mS i tm d (s::r)=(ja i tm s=some d∧mS i tm d r):=
 fun i tm d s r=>nd (mS.eq_2 i tm d s r)
theorem VM : ∀ (tm:Tm) (s:St) (dst:Option Nat) (o:AO),
 ja (AI.op dst none o) tm s=Option.map (fun(x:D×St)=>x.fst) (aS o tm s):=
 fun tm s dst o=>nd (ja.eq_1 tm s dst o)
theorem VN : ∀ (tm:Tm) (s:St) (dst:Option Nat) (t:Nat) (want:Bool) (o:AO),
 ja (AI.op dst (some (t,want)) o) tm s =
  match tm.get t with
  | D.bool b=>if b=want then Option.map (fun(x:D×St)=>x.fst) (aS o tm s)else some (D.tuple [])
  | D.tuple vs=>some (D.tuple [])
  | x=>none:=
 fun tm s dst t want o=>nd (ja.eq_2 tm s dst t want o)
theorem IK : ∀ (is:List AI),lT is [] = some []:=
 fun is=>nd (lT.eq_1 is)
theorem IL : ∀ (is:List AI) (q b:Nat) (r:List (Nat×Nat)),
 lT is ((q,b)::r) =
  match is[q]?,lT is r with
  | some ai,some l=>some ((ai,b)::l)
  | x,fb=>none:=
 fun is q b r=>nd (lT.eq_2 is q b r)
theorem VO : ∀ (tm:Tm) (n m:Nat),su tm n m [] = True:=
 fun tm n m=>nd (su.eq_1 tm n m)
theorem VP : ∀ (tm:Tm) (n m k:Nat) (d:D) (r:List (Nat×D)),
 su tm n m ((k,d)::r)=(Wk (D.fg n m (tm.get k)) d∧su tm n m r):=
 fun tm n m k d r=>nd (su.eq_2 tm n m k d r)
theorem QJ : ∀ (n m o off:Nat),D.fg n m (D.ptr o off)=if o<n then D.ptr o off else D.junk:=
 fun n m o off=>nd (D.fg.eq_1 n m o off)
theorem QK : ∀ (n m:Nat) (row:List D) (off:Nat),D.fg n m (D.dI row off)=D.dI (D.gG n m row) off:=
 fun n m row off=>nd (D.fg.eq_2 n m row off)
theorem QL : ∀ (n m:Nat) (g:Tag) (z:Nat) (rows:List (List D)),
 D.fg n m (D.slice g z rows)=D.slice (Tag.fg m g) z (D.jD n m rows):=
 fun n m g z rows=>nd (D.fg.eq_3 n m g z rows)
theorem QM : ∀ (n m:Nat) (cs:List D),D.fg n m (D.agg cs)=D.agg (D.gG n m cs):=
 fun n m cs=>nd (D.fg.eq_4 n m cs)
theorem QN : ∀ (n m:Nat) (ds:List D),D.fg n m (D.tuple ds)=D.tuple (D.gG n m ds):=
 fun n m ds=>nd (D.fg.eq_5 n m ds)
theorem QO : ∀ (n m:Nat),D.fg n m D.junk=D.junk:=
 fun n m=>nd (D.fg.eq_6 n m)
theorem QP : ∀ (n m:Nat) (k:IntKind) (fb:Int),D.fg n m (D.int k fb)=D.int k fb:=
 fun n m k fb=>nd (D.fg.eq_7 n m k fb)
theorem QQ : ∀ (n m:Nat) (b:Bool),D.fg n m (D.bool b)=D.bool b:=
 fun n m b=>nd (D.fg.eq_8 n m b)
theorem QR : ∀ (n m:Nat) (l:List UInt8),D.fg n m (D.str l)=D.str l:=
 fun n m l=>nd (D.fg.eq_9 n m l)
theorem NP : ∀ (n m:Nat),D.fg n m D.e9=D.e9:=
 fun n m=>nd (D.fg.eq_10 n m)
theorem NQ : ∀ (n m:Nat),D.gG n m [] = []:=
 fun n m=>nd (D.gG.eq_1 n m)
theorem NR : ∀ (n m:Nat) (d:D) (r:List D),D.gG n m (d::r)=D.fg n m d::D.gG n m r:=
 fun n m d r=>nd (D.gG.eq_2 n m d r)
theorem NS : ∀ (n m:Nat),D.jD n m [] = []:=
 fun n m=>nd (D.jD.eq_1 n m)
theorem NT : ∀ (n m:Nat) (d:List D) (r:List (List D)),D.jD n m (d::r)=D.gG n m d::D.jD n m r:=
 fun n m d r=>nd (D.jD.eq_2 n m d r)
theorem LF : ∀ (m t:Nat) (y:Bool),Tag.fg m (Tag.tok t y)=if t<m then Tag.tok t y else Tag.shared:=
 fun _ _ _=>nd rfl
theorem LG : ∀ (s:St) (n m:Nat),
 s.cut n m = {aA:=List.map (D.gG n m) (List.take n s.aA),aC:=List.take m s.aC}:=
 fun s n m=>nd (St.cut.eq_1 s n m)
theorem QS : ∀ (d:D),aB [d] = d:=
 fun d=>nd (aB.eq_1 d)
theorem QT (size bytes t:Nat) (rows:List (List D)) (g:Tag) (r:List D) (s:St):kA size bytes (.slice (.tok t) size rows) (.slice g size [r]) s =
 if(rows.length+1)*(bytes+1)≤bx∧s.aC[t]? = some (some rows.length)then some (.slice (.tok t) size (rows++ [r]),⟨s.aA,s.aC.set t (some (rows.length+1))⟩)else none:=by
 simp only [kA,List.length_singleton]
 by_cases h1:(rows.length+1)*(bytes+1)≤bx <;> by_cases h2:s.aC[t]? = some (some rows.length) <;> simp [h1,h2]
theorem QU {size bytes t:Nat} {rows new:List (List D)} {g:Tag} {s:St} (h1:(rows.length+new.length)*(bytes+1)≤bx) (h2:s.aC[t]? = some (some rows.length)) :
 kA size bytes (.slice (.tok t) size rows) (.slice g size new) s=some (.slice (.tok t) size (rows++new),⟨s.aA,s.aC.set t (some (rows.length+new.length))⟩):=by
 cases new with
 | nil=>
  have:s.aC.set t (some rows.length)=s.aC:=by
   apply List.ext_getElem?
   intro i
   rw [List.getElem?_set]
   split
   ·rename_i hi;subst hi;rw [h2,if_pos (List.getElem?_eq_some_iff.1 h2).1]
   ·rfl
  simp only [List.length_nil,Nat.add_zero]at h1
  simp [kA,h1,this]
 | cons x l=>
  simp only [kA,h1,h2]
  simp
theorem NU (size bytes z:Nat) (g:Tag) (r:List D) (s:St):kA size bytes (.slice .full z []) (.slice g size [r]) s =
 if bytes+1≤bx then some (.slice (.tok s.aC.length) size [r],⟨s.aA,s.aC++ [some 1]⟩)else none:=by
 simp [kA]
theorem VQ {P:Program} {B:fj} {nt:Nat} (ac:AC) (Q:Exit→Tm→St→Prop) (tm:Tm) (s:St):jm P B nt ac Q .normal tm s=Q .normal tm s:=nd rfl
theorem VR {P:Program} {B:fj} {nt:Nat} (ac:AC) (Q:Exit→Tm→St→Prop) (tm:Tm) (s:St):jm P B nt ac Q .ret tm s=Q .ret tm s:=nd rfl
theorem VS {P:Program} {B:fj} {nt:Nat} (ac:AC) (Q:Exit→Tm→St→Prop) (tm:Tm) (s:St) (i:Nat):jm P B nt ac Q (.exit i) tm s=Q (.exit i) tm s:=nd rfl
theorem VT (m:Nat):Tag.fg m .full = .full:=nd rfl
theorem NV (m:Nat):Tag.fg m .shared = .shared:=nd rfl
theorem abG {P:Program} (K:Tm→St→Prop) (tm:Tm) (s:St):jt P [] K tm s=K tm s:=nd rfl
theorem s_op {P:Program} (dst:Option Nat) (o:AO) (r:List AI) (K:Tm→St→Prop) (tm:Tm) (s:St) :
 jt P (.op dst none o::r) K tm s=(match aS o tm s with | some (d,s')=>jt P r K (tm.put dst d) s' | none=>False):=nd rfl
def KJ (P:Program) (r:List AI) (K:Tm→St→Prop) (tm:Tm) (dst:Option Nat) (d:D) (s:St):Prop:=jt P r K (tm.put dst d) s
theorem aeV {P:Program} (r:List AI) (K:Tm→St→Prop) (tm:Tm) (dst:Option Nat) (d:D) (s:St):KJ P r K tm dst d s=jt P r K (tm.put dst d) s:=nd rfl
theorem s_call {P:Program} (dst:Option Nat) (f:Nat) (xs:List X) (r:List AI) (K:Tm→St→Prop) (tm:Tm) (s:St) :
 jt P (.call dst none f xs::r) K tm s=CL P f (xs.map (·.ev tm)) s (KJ P r K tm dst):=nd rfl
def NJ (P:Program) (dst:Option Nat) (neg:Bool) (x:D) (r:List AI) (K:Tm→St→Prop) (tm:Tm) (s:St):Prop:=
 match x with
 | .slice _ _ rows=>∀ b:Bool,(rows≠ []→b=false)→jt P r K (tm.put dst (.bool (if neg then !b else b))) s
 | _=>False
theorem X0 {P:Program} (dst:Option Nat) (neg:Bool) (x:X) (r:List AI) (K:Tm→St→Prop) (tm:Tm) (s:St) :
 jt P (.nil dst none neg x::r) K tm s=NJ P dst neg (x.ev tm) r K tm s:=nd rfl
theorem VU {P:Program} (dst:Option Nat) (neg:Bool) (g:Tag) (z:Nat) (d:List D) (l:List (List D)) (r:List AI) (K:Tm→St→Prop) (tm:Tm) (s:St) :
 NJ P dst neg (.slice g z (d::l)) r K tm s=jt P r K (tm.put dst (.bool neg)) s:=by
 simp only [NJ,ne_eq,reduceCtorEq,not_false_eq_true,true_imp_iff,eq_iff_iff]
 refine⟨fun h=>by have:=h false rfl;cases neg <;> exact this,fun h b hb=> ?_⟩
 subst hb;cases neg <;> exact h
theorem Gy {P:Program} {dst:Option Nat} {neg:Bool} {g:Tag} {z:Nat} {l:List (List D)} {r:List AI} {K:Tm→St→Prop} {tm:Tm} {s:St}
 (h1:l = []→jt P r K (tm.put dst (.bool (!neg))) s) (h2:jt P r K (tm.put dst (.bool neg)) s):NJ P dst neg (.slice g z l) r K tm s:=by
 intro b hb
 cases b with
 | false=>cases neg <;> exact h2
 | true=>
  have:l = []:=Decidable.byContradiction fun h=>by cases hb h
  cases neg <;> exact h1 this
theorem abI {P:Program} (dst:Option Nat) (t:Nat) (w:Bool) (o:AO) (r:List AI) (K:Tm→St→Prop) (tm:Tm) (s:St) :
 jt P (.op dst (some (t,w)) o::r) K tm s = @GB (tm.get t) w ⟨(jt P (.op dst none o::r) K tm s),(jt P r K (tm.put dst (.tuple [])) s)⟩:=nd rfl
def CV (P:Program) (x:D) (abJ:List D) (s:St) (K:D→St→Prop):Prop:=
 match x with
 | .gn f mn=>enters P f=true∧CL P f (abJ++mn) s K
 | _=>False
theorem VV {P:Program} (dst:Option Nat) (t:Nat) (xs:List X) (r:List AI) (K:Tm→St→Prop) (tm:Tm) (s:St) :
 jt P (.iA dst none t xs::r) K tm s=CV P (tm.get t) (xs.map (·.ev tm)) s (KJ P r K tm dst):=nd rfl
theorem CV.use {P:Program} {f:Nat} {mn abJ:List D} {s s':St} {d:D} {K:D→St→Prop} (he:enters P f=true) (h:aD P f (abJ++mn) s d s') (k:K d s'):CV P (.gn f mn) abJ s K:=⟨he,d,s',h,k⟩
theorem QV {P:Program} (dst:Option Nat) (t:Nat) (w:Bool) (u:Nat) (xs:List X) (r:List AI) (K:Tm→St→Prop) (tm:Tm) (s:St) :
 jt P (.iA dst (some (t,w)) u xs::r) K tm s = @GB (tm.get t) w ⟨(jt P (.iA dst none u xs::r) K tm s),(jt P r K (tm.put dst (.tuple [])) s)⟩:=nd rfl
theorem VW {P:Program} (dst:Option Nat) (t:Nat) (w:Bool) (f:Nat) (xs:List X) (r:List AI) (K:Tm→St→Prop) (tm:Tm) (s:St) :
 jt P (.call dst (some (t,w)) f xs::r) K tm s = @GB (tm.get t) w ⟨(jt P (.call dst none f xs::r) K tm s),(jt P r K (tm.put dst (.tuple [])) s)⟩:=nd rfl
theorem X2 {P:Program} (dst:Option Nat) (t:Nat) (w:Bool) (neg:Bool) (x:X) (r:List AI) (K:Tm→St→Prop) (tm:Tm) (s:St) :
 jt P (.nil dst (some (t,w)) neg x::r) K tm s = @GB (tm.get t) w ⟨(jt P (.nil dst none neg x::r) K tm s),(jt P r K (tm.put dst (.tuple [])) s)⟩:=nd rfl
theorem aeW (b:Bool) (A C:Prop) : @GB (.bool b) true ⟨A,C⟩ = @CB (.bool b) ⟨A,C⟩:=nd rfl
theorem aeX (b:Bool) (A C:Prop) : @GB (.bool b) false ⟨A,C⟩ = @CB (.bool b) ⟨C,A⟩:=by
 cases b <;> simp [GB,CB,GJ,sI]
theorem aeY (l:List D) (w:Bool) (A C:Prop) : @GB (.tuple l) w ⟨A,C⟩=C:=nd rfl
theorem abK {P:Program} {K:Tm→St→Prop} (bq:List St) (tm:Tm) (s:St):fN P K [] bq tm s=K tm s:=nd rfl
def OJ (P:Program) (o:AO) (dst:Option Nat) (b:Nat) (r:List (AI×Nat)) (K:Tm→St→Prop) (bq:List St) (tm:Tm) (s:St):Bool→Prop
 | true=>match aS o tm s with | some (d,s')=>fN P K r (s::bq) (tm.put dst d) s' | none=>False
 | false=>match aS o tm s with | some (d,_)=>mS (.op dst none o) tm d (bq.take b)∧fN P K r bq (tm.put dst d) s | none=>False
theorem ae0 {P:Program} {K:Tm→St→Prop} (dst:Option Nat) (o:AO) (b:Nat) (r:List (AI×Nat)) (bq:List St) (tm:Tm) (s:St) :
 fN P K ((.op dst none o,b)::r) bq tm s=OJ P o dst b r K bq tm s o.core:=by
 simp only [fN,lU]
 cases o.core <;> rfl
theorem ae1 {P:Program} (o:AO) (dst:Option Nat) (b:Nat) (r:List (AI×Nat)) (K:Tm→St→Prop) (bq:List St) (tm:Tm) (s:St) :
 OJ P o dst b r K bq tm s true=match aS o tm s with | some (d,s')=>fN P K r (s::bq) (tm.put dst d) s' | none=>False:=nd rfl
theorem ae2 {P:Program} (o:AO) (dst:Option Nat) (b:Nat) (r:List (AI×Nat)) (K:Tm→St→Prop) (bq:List St) (tm:Tm) (s:St) :
 OJ P o dst b r K bq tm s false=match aS o tm s with | some (d,_)=>mS (.op dst none o) tm d (bq.take b)∧fN P K r bq (tm.put dst d) s | none=>False:=nd rfl
theorem abL {P:Program} {K:Tm→St→Prop} (dst:Option Nat) (t:Nat) (w:Bool) (o:AO) (b:Nat) (r:List (AI×Nat)) (bq:List St) (tm:Tm) (s:St) :
 fN P K ((.op dst (some (t,w)) o,b)::r) bq tm s = @GB (tm.get t) w ⟨(fN P K ((.op dst none o,b)::r) bq tm s),(fN P K r (if o.core then s::bq else bq) (tm.put dst (.tuple [])) s)⟩:=by
 simp only [GB,fN,lU]
 cases o.core <;> rfl
def KG (P:Program) (K:Tm→St→Prop) (r:List (AI×Nat)) (bq:List St) (tm:Tm) (dst:Option Nat) (d:D) (s:St):Prop:=fN P K r bq (tm.put dst d) s
theorem ae3 {P:Program} (K:Tm→St→Prop) (r:List (AI×Nat)) (bq:List St) (tm:Tm) (dst:Option Nat) (d:D) (s:St):KG P K r bq tm dst d s=fN P K r bq (tm.put dst d) s:=nd rfl
theorem g_call {P:Program} {K:Tm→St→Prop} (dst:Option Nat) (f:Nat) (xs:List X) (b:Nat) (r:List (AI×Nat)) (bq:List St) (tm:Tm) (s:St) :
 fN P K ((.call dst none f xs,b)::r) bq tm s=CL P f (xs.map (·.ev tm)) s (KG P K r (s::bq) tm dst):=nd rfl
theorem VX {P:Program} {K:Tm→St→Prop} (dst:Option Nat) (t:Nat) (w:Bool) (f:Nat) (xs:List X) (b:Nat) (r:List (AI×Nat)) (bq:List St) (tm:Tm) (s:St) :
 fN P K ((.call dst (some (t,w)) f xs,b)::r) bq tm s = @GB (tm.get t) w ⟨(fN P K ((.call dst none f xs,b)::r) bq tm s),(fN P K r (s::bq) (tm.put dst (.tuple [])) s)⟩:=nd rfl
class Ok (p:Prop):Prop where
 out:p
instance:Ok True:=⟨trivial⟩
instance {p q:Prop} [Ok p] [Ok q] : Ok (p∧q):=⟨⟨Ok.out,Ok.out⟩⟩
instance {α:Type} (a:α):Ok (a=a):=⟨rfl⟩
instance (d:D):Ok (Wk d .junk):=⟨Wk.junk d⟩
instance {l l':List D} [Ok (lS l l')] : Ok (Wk (.tuple l) (.tuple l')):=⟨Wk.tuple Ok.out⟩
instance {l l':List D} [Ok (lS l l')] : Ok (Wk (.agg l) (.agg l')):=⟨Wk.agg Ok.out⟩
instance {g:Tag} {z:Nat} {l l':List (List D)} [Ok (gT l l')] : Ok (Wk (.slice g z l) (.slice g z l')):=⟨Wk.rows Ok.out⟩
instance {g:Tag} {z:Nat} {l l':List (List D)} [Ok (gT l l')] : Ok (Wk (.slice g z l) (.slice .shared z l')):=⟨Wk.slice Ok.out⟩
instance (z z':Nat):Ok (Wk (.slice .full z []) (.slice .full z' [])):=⟨Wk.aeL z z'⟩
instance (g:Tag) (z z':Nat):Ok (Wk (.slice g z []) (.slice .shared z' [])):=⟨Wk.nil g z z'⟩
instance (d:D):Ok (Wk d d):=⟨Wk.refl d⟩
instance:Ok (lS [] []):=⟨.nil⟩
instance {d d':D} {l l':List D} [Ok (Wk d d')] [Ok (lS l l')] : Ok (lS (d::l) (d'::l')):=⟨.cons Ok.out Ok.out⟩
instance (l:List D):Ok (lS l l):=⟨lS.refl l⟩
instance:Ok (gT [] []):=⟨.nil⟩
instance {d d':List D} {l l':List (List D)} [Ok (lS d d')] [Ok (gT l l')] : Ok (gT (d::l) (d'::l')):=⟨.cons Ok.out Ok.out⟩
instance {a a' b b':List (List D)} [Ok (gT a a')] [Ok (gT b b')] : Ok (gT (a++b) (a'++b')):=⟨gT.append Ok.out Ok.out⟩
instance (l:List (List D)):Ok (gT l l):=⟨gT.refl l⟩
theorem bs:(∀ b,(true || b)=true)∧(∀ b,(false || b)=b)∧(∀ b,(b || true)=true)∧(∀ b,(b || false)=b)∧(∀ b,(true && b)=b)∧(∀ b,(false && b)=false)∧(∀ b,(b && true)=b)∧(∀ b,(b && false)=false)∧
 (!true)=false∧(!false)=true∧(∀ b,(!!b)=b)∧((false=true)=False)∧(∀ (α β:Type) (a:α) (f:α→Option β),(some a).bind f=f a)∧
 (∀ (α β γ:Type) (x:Option α) (f:α→Option β) (g:β→Option γ),(x.bind f).bind g=x.bind fun y=>(f y).bind g):=
 ⟨Bool.true_or,Bool.false_or,Bool.or_true,Bool.or_false,Bool.true_and,Bool.false_and,Bool.and_true,Bool.and_false,rfl,rfl,Bool.not_not,by simp,fun _ _ _ _=>rfl,fun _ _ _ x f g=>Option.bind_assoc x f g⟩
attribute [go_sem] XX aeS aeT abG s_op aeV s_call X0 VU abI VW X2 aeW aeX aeY abK ae0 ae1 ae2 abL ae3 g_call VX AO.core AI.kind AO.kind gd
attribute [go_sem] VV QV K3 K4 K5 K6 Gl Gm Gn Gp NF NG K7 Vw Qq
attribute [go_sem] K1 Gq KY KZ K0 Gr Gs Gt NH NK Vv Np Vr Qn Vs Qo Vt Qp No Vu Qr Kw Qs
attribute [go_sem] Nv Nw Nx Ny Nz NA NB NC ND Kz KA KB KD KE KF KH KI KK KM KN KO KP KQ KR KS KT KU KV KW KX QD QE K8 K9 La Lb Lc Ld NL NM Lf Lg Lh QF QG Li NN NO Gu Gv Gw Gx QH QI Lj Lk Ll Lm Ln Lo Lp Lq Lr Iq Ir Ls Lt Lu Lv VG VH Lw Ly Lz Is Iu VI VJ VK VL Iv Iw Ix Iy Iz IA IB IC ID IE IF IG II IJ LA LB LC LD VM VN IK IL VO VP QJ QK QL QM QN QO QP QQ QR NP NQ NR NS NT LF LG QS QT NU VT NV VQ VR VS
attribute [go_sem] List.map_cons List.map_nil List.getElem?_cons_zero List.getElem?_cons_succ List.length_cons List.length_nil List.set_cons_zero List.set_cons_succ List.take_succ_cons List.take_zero List.take_nil List.drop_succ_cons List.drop_zero List.drop_nil List.cons_append List.nil_append List.append_nil Nat.zero_add Nat.add_zero Option.map_some Option.map_none
attribute [go_sem] Bool.not_false Bool.not_true List.length_map List.getElem?_map Int.toNat_natCast Int.natCast_nonneg Int.toNat_zero and_self and_true true_and
attribute [go_sem_proc ↓] reduceIte
attribute [go_sem_proc] Int.reduceLE reduceCtorEq Nat.reduceEqDiff Nat.reduceLeDiff Nat.reduceAdd Nat.reduceMul Nat.reduceSub Nat.reduceLT
theorem br {b:Bool} {A C:Prop} (h1:b=true→A) (h:b=true:=by assumption) : @CB (.bool b) ⟨A,C⟩:=XY h h1
theorem bt {b:Bool} {A C:Prop} (h1:b=false→C) (h:b=false:=by assumption) : @CB (.bool b) ⟨A,C⟩:=XZ h h1
theorem bu {b:Bool} {A C:Prop} (h1:b=true→A) (h2:b=false→C) : @CB (.bool b) ⟨A,C⟩:=⟨h1,h2⟩
theorem aG {a b:Prop} (x:a) (y:b):a∧b:=⟨x,y⟩
theorem bB {α:Type _} (a b:α):(some a=some b)=(a=b):=Option.some.injEq a b
theorem bC {α:Sort _} {p:α→Prop} {a:α} : (∃ x,a=x∧p x)↔p a:=exists_eq_left'
theorem lF {n m:Nat} (h:Nat.ble n m=true):n≤m:=Nat.le_of_ble_eq_true h
theorem aF {n m:Nat} {res:List (Nat×Option (Bool×Nat))} {d:D} {s':St} {e:Exit} {tm:Tm} {s:St} {Q:Exit→Tm→St→Prop} (hQ:ig n m res d s'=Q) (h : ∃ l,az res tm s=some l∧Wk ((aB l).fg n m) d∧gT (s.cut n m).aA s'.aA∧(s.cut n m).aC=s'.aC) (he:e = .ret∨e = .normal:=by first | exact .inl rfl | exact .inr rfl):Q e tm s:=by cases he with | inl x=>cases x;exact abE hQ h | inr x=>cases x;exact abF hQ h
theorem pV {p:Prop} (h:p:=by repeat' (first | exact Ok.out | with_reducible refine aG ?_ ?_ | (simp;done))):p:=h
theorem bQ {p:Prop} (h:p:=by repeat' (first | exact Ok.out | with_reducible refine aG ?_ ?_)):p:=h
theorem lG {p:Prop} (h:p:=by(try cases h);simp only [az,aB,bB,bC,go_sem,hP,hY,hZ,gA];repeat' (first | exact Ok.out | with_reducible refine aG ?_ ?_ | (simp;done))):p:=h
theorem lX_ {p:Prop} (h:p:=by simp only [go_sem,hP,hY,hZ,gA];repeat' (first | exact Ok.out | with_reducible refine aG ?_ ?_)):p:=h
theorem cM {P:Program} {B:fj} {nt:Nat} {a:AC} {Q:Exit→Tm→St→Prop} {tm bH:Tm} {s:St} {j9:List (List D)} (n m:Nat) (h:bj P B nt a Q bH ⟨j9,(s.cut n m).aC⟩) (hn:B.s.aA.length≤n:=by rw [hB];exact lF rfl) (hm:B.s.aC.length≤m:=by rw [hB];exact lF rfl) (ht:su tm n m bH:=by exact lX_) (ho:gT (s.cut n m).aA j9:=by exact lX_):bj P B nt a Q tm s:=bj.re bH j9 n m hn hm ht ho h
theorem eo {P:Program} {B:fj} {nt:Nat} {a:AC} {Q:Exit→Tm→St→Prop} {tm bH:Tm} {s:St} {j9:List (List D)} (n m:Nat) (ht:su tm n m bH) (ho:gT (s.cut n m).aA j9) (h:bj P B nt a Q bH ⟨j9,(s.cut n m).aC⟩) (hn:B.s.aA.length≤n:=by rw [hB];exact lF rfl) (hm:B.s.aC.length≤m:=by rw [hB];exact lF rfl):bj P B nt a Q tm s:=bj.re bH j9 n m hn hm ht ho h
theorem bw:0<1∧0<1∧0<1∧0<1:=⟨Nat.zero_lt_one,Nat.zero_lt_one,Nat.zero_lt_one,Nat.zero_lt_one⟩
end Go.Abs

/-! Types -/

namespace Go.Abs
mutual
theorem LH (n m:Nat) : ∀ d,D.ok 0 0 d=true→D.fg n m d=d
 | .junk,_=>by simp [D.fg]
 | .int k n,_=>by simp [D.fg]
 | .bool b,_=>by simp [D.fg]
 | .str l,_=>by simp [D.fg]
 | .e9,_=>by simp [D.fg]
 | .val v,_=>by simp [D.fg]
 | .fB T o,h=>by simp [D.ok]at h
 | .gk o,h=>by simp [D.ok]at h
 | .gn f cs,h=>by
  simp only [D.ok]at h
  simp only [D.fg,gU n m cs h]
 | .ptr o f,h=>by simp [D.ok]at h
 | .dI r f,h=>by
  simp only [D.ok]at h
  simp only [D.fg,gU n m r h]
 | .slice g z rows,h=>by
  simp only [D.ok,Bool.and_eq_true]at h
  simp only [D.fg,BR n m rows h.2]
  cases g with
  | tok t y=>simp [Tag.ok]at h
  | full=>rfl
  | shared=>rfl
 | .agg cs,h=>by
  simp only [D.ok]at h
  simp only [D.fg,gU n m cs h]
 | .tuple cs,h=>by
  simp only [D.ok]at h
  simp only [D.fg,gU n m cs h]
theorem gU (n m:Nat) : ∀ l,D.bJ 0 0 l=true→D.gG n m l=l
 | [],_=>by simp [D.gG]
 | d::r,h=>by
  simp only [D.bJ,Bool.and_eq_true]at h
  simp only [D.gG,LH n m d h.1,gU n m r h.2]
theorem BR (n m:Nat) : ∀ l,D.iZ 0 0 l=true→D.jD n m l=l
 | [],_=>by simp [D.jD]
 | d::r,h=>by
  simp only [D.iZ,Bool.and_eq_true]at h
  simp only [D.jD,gU n m d h.1,BR n m r h.2]
end
theorem gD {α:Type} {f:α→List D} (h : ∀ x,D.bJ 0 0 (f x)=true) (l:List α):D.iZ 0 0 (l.map f)=true:=by
 simp [BM,h]
theorem lV {α:Type} {f:α→List D} (h : ∀ x,D.bJ 0 0 (f x)=true) (n m:Nat) (l:List α):D.jD n m (l.map f)=l.map f:=BR n m _ (gD h l)
theorem Jj (n m:Nat) : ∀ a b,D.jD n m (a++b)=D.jD n m a++D.jD n m b
 | [],b=>by simp [D.jD]
 | x::a,b=>by simp [D.jD,Jj n m a b]
abbrev ay:=List UInt8
structure bM where
 kind:Int
 text:ay
 n:Int
 pos:Int
deriving DecidableEq
structure Ex where
 op:Int
 n:Int
 name:ay
 kids:List Ex
structure Ar where
 ref:Bool
 name:ay
 x:Ex
structure Sm where
 id:Int
 kind:Int
 labels:List ay
 name:ay
 proc:ay
 x:Ex
 has:Bool
 args:List Ar
 aY:List Sm
 aT:List Sm
structure Pm where
 name:ay
 ref:Bool
structure Pc where
 name:ay
 params:List Pm
 vars:List ay
 body:List Sm
 fin:List ay
structure Pg where
 globals:List ay
 procs:List Pc
def ld:Ex:=⟨0,0,[],[]⟩
def ar0:Ar:=⟨false,[],ld⟩
def Gz:Sm:=⟨0,0,[],[],[],ld,false,[],[],[]⟩
def yL:Pg:=⟨[],[]⟩
def encStr (s:ay):List D:= [.str s]
def dX (t:bM):List D:= [.int .i64 t.kind, .str t.text, .int .i64 t.n, .int .i64 t.pos]
def sl (z:Nat) (rows:List (List D)):D:= .slice .shared z rows
mutual
def bo:Ex→List D
 | ⟨op,n,name,kids⟩=> [.int .i64 op, .int .i64 n, .str name, .slice .shared 4 (tr kids)]
def tr:List Ex→List (List D)
 | []=> []
 | x::l=>bo x::tr l
end
theorem D0 : ∀ l,tr l=l.map bo
 | []=>by simp [tr]
 | x::l=>by simp [tr,D0 l]
theorem fO (x:Ex):bo x = [.int .i64 x.op, .int .i64 x.n, .str x.name, .slice .shared 4 (x.kids.map bo)]:=by
 cases x;simp [bo,D0]
def dR (a:Ar):List D:= [.bool a.ref, .str a.name, .int .i64 a.x.op, .int .i64 a.x.n, .str a.x.name, .slice .shared 4 (a.x.kids.map bo)]
mutual
def bd:Sm→List D
 | ⟨id,kind,labels,name,proc,x,has,args,aY,aT⟩=> [.int .i64 id, .int .i64 kind, .slice .shared 1 (labels.map encStr), .str name, .str proc,
  .int .i64 x.op, .int .i64 x.n, .str x.name, .slice .shared 4 (x.kids.map bo), .bool has, .slice .shared 6 (args.map dR), .slice .shared 13 (rF aY), .slice .shared 13 (rF aT)]
def rF:List Sm→List (List D)
 | []=> []
 | x::l=>bd x::rF l
end
theorem D1 : ∀ l,rF l=l.map bd
 | []=>by simp [rF]
 | x::l=>by simp [rF,D1 l]
theorem dv (s:Sm):bd s = [.int .i64 s.id, .int .i64 s.kind, .slice .shared 1 (s.labels.map encStr), .str s.name, .str s.proc,
 .int .i64 s.x.op, .int .i64 s.x.n, .str s.x.name, .slice .shared 4 (s.x.kids.map bo), .bool s.has, .slice .shared 6 (s.args.map dR), .slice .shared 13 (s.aY.map bd), .slice .shared 13 (s.aT.map bd)]:=by
 cases s;simp [bd,D1]
def fE (p:Pm):List D:= [.str p.name, .bool p.ref]
def cA (p:Pc):List D:= [.str p.name, .slice .shared 2 (p.params.map fE), .slice .shared 1 (p.vars.map encStr), .slice .shared 13 (p.body.map bd), .slice .shared 1 (p.fin.map encStr)]
def cd (p:Pg):List D:= [.slice .shared 1 (p.globals.map encStr), .slice .shared 5 (p.procs.map cA)]
theorem X3 (x:bM):(dX x).length=4:=nd rfl
theorem VY (x:bM):List.take 4 (dX x)=dX x:=nd rfl
theorem VZ (x:bM):List.drop 4 (dX x) = []:=nd rfl
theorem NY (x:bM):(dX x)[0]? = some (.int .i64 x.kind):=nd rfl
theorem NZ (x:bM):(dX x)[1]? = some (.str x.text):=nd rfl
theorem N0 (x:bM):(dX x)[2]? = some (.int .i64 x.n):=nd rfl
theorem N1 (x:bM):(dX x)[3]? = some (.int .i64 x.pos):=nd rfl
theorem abM (BS:Int) (TA:ay) (n_:Int) (X5:Int):dX ⟨BS,TA,n_,X5⟩ = [.int .i64 BS, .str TA, .int .i64 n_, .int .i64 X5]:=by simp only [dX]
theorem TB (x:Ex):(bo x).length=4:=by simp only [fO];rfl
theorem X6 (x:Ex):List.take 4 (bo x)=bo x:=by simp only [fO];rfl
theorem X7 (x:Ex):List.drop 4 (bo x) = []:=by simp only [fO];rfl
theorem QW (x:Ex):(bo x)[0]? = some (.int .i64 x.op):=by simp only [fO];rfl
theorem QX (x:Ex):(bo x)[1]? = some (.int .i64 x.n):=by simp only [fO];rfl
theorem QY (x:Ex):(bo x)[2]? = some (.str x.name):=by simp only [fO];rfl
theorem QZ (x:Ex):(bo x)[3]? = some (.slice .shared 4 (x.kids.map bo)):=by simp only [fO];rfl
theorem ae4 (op_:Int) (n_:Int) (nw:ay) (TC:List Ex):bo ⟨op_,n_,nw,TC⟩ = [.int .i64 op_, .int .i64 n_, .str nw, .slice .shared 4 (TC.map bo)]:=by simp only [fO]
theorem abN (x:Ar):(dR x).length=6:=nd rfl
theorem X8 (x:Ar):List.take 6 (dR x)=dR x:=nd rfl
theorem X9 (x:Ar):List.drop 6 (dR x) = []:=nd rfl
theorem Q1 (x:Ar):(dR x)[0]? = some (.bool x.ref):=nd rfl
theorem Q2 (x:Ar):(dR x)[1]? = some (.str x.name):=nd rfl
theorem Q3 (x:Ar):(dR x)[2]? = some (.int .i64 x.x.op):=nd rfl
theorem Q4 (x:Ar):(dR x)[3]? = some (.int .i64 x.x.n):=nd rfl
theorem Q5 (x:Ar):(dR x)[4]? = some (.str x.x.name):=nd rfl
theorem Q6 (x:Ar):(dR x)[5]? = some (.slice .shared 4 (x.x.kids.map bo)):=nd rfl
theorem Q7 (x:Ar):List.take 4 (List.drop 2 (dR x))=bo x.x:=by simp only [dR,fO];rfl
theorem ae5 (GC:Bool) (nw:ay) (x_:Ex):dR ⟨GC,nw,x_⟩ = [.bool GC, .str nw, .int .i64 x_.op, .int .i64 x_.n, .str x_.name, .slice .shared 4 (x_.kids.map bo)]:=by simp only [dR]
theorem Fq (x:Sm):(bd x).length=13:=by simp only [dv];rfl
theorem Ya (x:Sm):List.take 13 (bd x)=bd x:=by simp only [dv];rfl
theorem Yb (x:Sm):List.drop 13 (bd x) = []:=by simp only [dv];rfl
theorem Q8 (x:Sm):(bd x)[0]? = some (.int .i64 x.id):=by simp only [dv];rfl
theorem Q9 (x:Sm):(bd x)[1]? = some (.int .i64 x.kind):=by simp only [dv];rfl
theorem Ra (x:Sm):(bd x)[2]? = some (.slice .shared 1 (x.labels.map encStr)):=by simp only [dv];rfl
theorem Rb (x:Sm):(bd x)[3]? = some (.str x.name):=by simp only [dv];rfl
theorem Rc (x:Sm):(bd x)[4]? = some (.str x.proc):=by simp only [dv];rfl
theorem Re (x:Sm):(bd x)[5]? = some (.int .i64 x.x.op):=by simp only [dv];rfl
theorem Rf (x:Sm):(bd x)[6]? = some (.int .i64 x.x.n):=by simp only [dv];rfl
theorem Rg (x:Sm):(bd x)[7]? = some (.str x.x.name):=by simp only [dv];rfl
theorem Rh (x:Sm):(bd x)[8]? = some (.slice .shared 4 (x.x.kids.map bo)):=by simp only [dv];rfl
theorem Ri (x:Sm):(bd x)[9]? = some (.bool x.has):=by simp only [dv];rfl
theorem N2 (x:Sm):(bd x)[10]? = some (.slice .shared 6 (x.args.map dR)):=by simp only [dv];rfl
theorem N3 (x:Sm):(bd x)[11]? = some (.slice .shared 13 (x.aY.map bd)):=by simp only [dv];rfl
theorem N4 (x:Sm):(bd x)[12]? = some (.slice .shared 13 (x.aT.map bd)):=by simp only [dv];rfl
theorem Rj (x:Sm):List.take 4 (List.drop 5 (bd x))=bo x.x:=by simp only [dv,fO];rfl
theorem ae6 (id_:Int) (BS:Int) (Jk:List ay) (nw:ay) (TD:ay) (x_:Ex) (Yc:Bool) (TE:List Ar) (Yd:List Sm) (Ye:List Sm):bd ⟨id_,BS,Jk,nw,TD,x_,Yc,TE,Yd,Ye⟩ = [.int .i64 id_, .int .i64 BS, .slice .shared 1 (Jk.map encStr), .str nw, .str TD, .int .i64 x_.op, .int .i64 x_.n, .str x_.name, .slice .shared 4 (x_.kids.map bo), .bool Yc, .slice .shared 6 (TE.map dR), .slice .shared 13 (Yd.map bd), .slice .shared 13 (Ye.map bd)]:=by simp only [dv]
theorem abO (x:Pm):(fE x).length=2:=nd rfl
theorem Yf (x:Pm):List.take 2 (fE x)=fE x:=nd rfl
theorem Yg (x:Pm):List.drop 2 (fE x) = []:=nd rfl
theorem Rk (x:Pm):(fE x)[0]? = some (.str x.name):=nd rfl
theorem Rl (x:Pm):(fE x)[1]? = some (.bool x.ref):=nd rfl
theorem ae7 (nw:ay) (GC:Bool):fE ⟨nw,GC⟩ = [.str nw, .bool GC]:=by simp only [fE]
theorem abP (x:Pc):(cA x).length=5:=nd rfl
theorem Yh (x:Pc):List.take 5 (cA x)=cA x:=nd rfl
theorem Yi (x:Pc):List.drop 5 (cA x) = []:=nd rfl
theorem Rm (x:Pc):(cA x)[0]? = some (.str x.name):=nd rfl
theorem Rn (x:Pc):(cA x)[1]? = some (.slice .shared 2 (x.params.map fE)):=nd rfl
theorem Ro (x:Pc):(cA x)[2]? = some (.slice .shared 1 (x.vars.map encStr)):=nd rfl
theorem Rp (x:Pc):(cA x)[3]? = some (.slice .shared 13 (x.body.map bd)):=nd rfl
theorem Rq (x:Pc):(cA x)[4]? = some (.slice .shared 1 (x.fin.map encStr)):=nd rfl
theorem ae8 (nw:ay) (Jl:List Pm) (TF:List ay) (TG:List Sm) (Yj:List ay):cA ⟨nw,Jl,TF,TG,Yj⟩ = [.str nw, .slice .shared 2 (Jl.map fE), .slice .shared 1 (TF.map encStr), .slice .shared 13 (TG.map bd), .slice .shared 1 (Yj.map encStr)]:=by simp only [cA]
theorem abQ (x:Pg):(cd x).length=2:=nd rfl
theorem Yk (x:Pg):List.take 2 (cd x)=cd x:=nd rfl
theorem Yl (x:Pg):List.drop 2 (cd x) = []:=nd rfl
theorem Rr (x:Pg):(cd x)[0]? = some (.slice .shared 1 (x.globals.map encStr)):=nd rfl
theorem Rs (x:Pg):(cd x)[1]? = some (.slice .shared 5 (x.procs.map cA)):=nd rfl
theorem ae9 (GD:List ay) (N5:List Pc):cd ⟨GD,N5⟩ = [.slice .shared 1 (GD.map encStr), .slice .shared 5 (N5.map cA)]:=by simp only [cd]
attribute [go_sem] X3 VY VZ NY NZ N0 N1 abM TB X6 X7 QW QX QY QZ ae4 abN X8 X9 Q1 Q2 Q3 Q4 Q5 Q6 Q7 ae5 Fq Ya Yb Q8 Q9 Ra Rb Rc Re Rf Rg Rh Ri N2 N3 N4 Rj ae6 abO Yf Yg Rk Rl ae7 abP Yh Yi Rm Rn Ro Rp Rq ae8 abQ Yk Yl Rr Rs ae9
theorem BT (s:ay):D.bJ 0 0 (encStr s)=true:=rfl
theorem Fs (t:bM):D.bJ 0 0 (dX t)=true:=rfl
mutual
theorem fW : ∀ x,D.bJ 0 0 (bo x)=true
 | ⟨op,n,name,kids⟩=>by simp [bo,D.bJ,D.ok,Tag.ok,TH kids]
theorem TH : ∀ l,D.iZ 0 0 (tr l)=true
 | []=>rfl
 | x::l=>by simp [tr,D.iZ,fW x,TH l]
end
theorem GF (a:Ar):D.bJ 0 0 (dR a)=true:=by simp [dR,D.bJ,D.ok,Tag.ok,gD fW]
mutual
theorem nh : ∀ x,D.bJ 0 0 (bd x)=true
 | ⟨id,kind,labels,name,proc,x,has,args,aY,aT⟩=>by simp [bd,D.bJ,D.ok,Tag.ok,LI aY,LI aT,gD BT,gD fW,gD GF]
theorem LI : ∀ l,D.iZ 0 0 (rF l)=true
 | []=>rfl
 | x::l=>by simp [rF,D.iZ,nh x,LI l]
end
theorem LJ (p:Pm):D.bJ 0 0 (fE p)=true:=rfl
theorem yM (p:Pc):D.bJ 0 0 (cA p)=true:=by simp [cA,D.bJ,D.ok,Tag.ok,gD LJ,gD BT,gD nh]
theorem iR (p:Pg):D.bJ 0 0 (cd p)=true:=by simp [cd,D.bJ,D.ok,Tag.ok,gD BT,gD yM]
theorem Ym (n m:Nat) (x:bM):D.gG n m (dX x)=dX x:=gU n m _ (Fs x)
theorem abR (n m:Nat) (x:Ex):D.gG n m (bo x)=bo x:=gU n m _ (fW x)
theorem abS (n m:Nat) (x:Ar):D.gG n m (dR x)=dR x:=gU n m _ (GF x)
theorem abT (n m:Nat) (x:Sm):D.gG n m (bd x)=bd x:=gU n m _ (nh x)
theorem abU (n m:Nat) (x:Pm):D.gG n m (fE x)=fE x:=gU n m _ (LJ x)
theorem abV (n m:Nat) (x:Pc):D.gG n m (cA x)=cA x:=gU n m _ (yM x)
theorem abW (n m:Nat) (x:Pg):D.gG n m (cd x)=cd x:=gU n m _ (iR x)
attribute [go_sem] Ym abR abS abT abU abV abW
theorem eD (l:List ay):D.iZ 0 0 (l.map encStr)=true:=gD BT l
theorem GG (l:List bM):D.iZ 0 0 (l.map dX)=true:=gD Fs l
theorem TI (l:List Ex):D.iZ 0 0 (l.map bo)=true:=gD fW l
theorem Ft (l:List Ar):D.iZ 0 0 (l.map dR)=true:=gD GF l
theorem lM (l:List Sm):D.iZ 0 0 (l.map bd)=true:=gD nh l
theorem LK (l:List Pm):D.iZ 0 0 (l.map fE)=true:=gD LJ l
theorem Fu (l:List Pc):D.iZ 0 0 (l.map cA)=true:=gD yM l
theorem N6 (n m:Nat) (l:List ay):D.jD n m (l.map encStr)=l.map encStr:=lV BT n m l
theorem lW (n m:Nat) (l:List bM):D.jD n m (l.map dX)=l.map dX:=lV Fs n m l
theorem abX (n m:Nat) (l:List Ex):D.jD n m (l.map bo)=l.map bo:=lV fW n m l
theorem abY (n m:Nat) (l:List Ar):D.jD n m (l.map dR)=l.map dR:=lV GF n m l
theorem abZ (n m:Nat) (l:List Sm):D.jD n m (l.map bd)=l.map bd:=lV nh n m l
theorem ab0 (n m:Nat) (l:List Pm):D.jD n m (l.map fE)=l.map fE:=lV LJ n m l
theorem TJ (n m:Nat) (l:List Pc):D.jD n m (l.map cA)=l.map cA:=lV yM n m l
theorem Yn (x:Ex) (r:List D):bo x++r = .int .i64 x.op:: .int .i64 x.n:: .str x.name:: .slice .shared 4 (x.kids.map bo)::r:=by rw [fO];rfl
theorem V0 (d:D) (x:Ex):d::bo x = [d, .int .i64 x.op, .int .i64 x.n, .str x.name, .slice .shared 4 (x.kids.map bo)]:=by rw [fO]
attribute [go_sem] Yn V0
theorem ab1:((0:Nat):Int)=0:=nd rfl
theorem ab2:((1:Nat):Int)=1:=nd rfl
theorem ab3:((2:Nat):Int)=2:=nd rfl
attribute [go_sem] ab1 ab2 ab3 Jj List.length_append List.map_append encStr ld ar0 Gz yL N6 lW abX abY abZ ab0 TJ
theorem mx (a b:Nat):(if(b:Int) > (a:Int)then(b:Int)else(a:Int))=((max a b:Nat):Int):=by split <;> omega
theorem cY {x:Int} (h1 : -9223372036854775808≤x) (h2:x<9223372036854775808):IntKind.wrap .i64 x=x:=by
 rw [IntKind.wrap_i64];omega
@[go_sem] theorem aN {n:Nat} (h:n<4611686018427387904):IntKind.wrap .i64 ((n:Int)+1)=((n+1:Nat):Int):=by
 rw [cY] <;> omega
def inc (n:Nat):Option Nat:=if n<4611686018427387904 then some (n+1)else none
theorem Rt {n k:Nat} (h:inc n=some k):IntKind.wrap .i64 ((n:Int)+1)=((n+1:Nat):Int)∧k=n+1:=by
 unfold inc at h
 split at h
 ·rename_i hn;cases h;exact⟨aN hn,rfl⟩
 ·cases h
def Ru (n:Int):Option Int:=if -4611686018427387904<n∧n<4611686018427387904 then some (n+1)else none
theorem N7 {n k:Int} (h:Ru n=some k):IntKind.wrap .i64 (n+1)=n+1∧k=n+1:=by
 unfold Ru at h
 split at h
 ·rename_i hn;cases h;exact⟨cY (by omega) (by omega),rfl⟩
 ·cases h
@[go_sem] theorem ad3 {n:Nat} (h:n+1<4611686018427387904):IntKind.wrap .i64 ((n:Int)+1)=((n+1:Nat):Int):=by
 rw [cY] <;> omega
@[go_sem] theorem ad4 {n:Nat} (h:n<4611686018427387904):IntKind.wrap .i64 ((n:Int)+2)=((n+2:Nat):Int):=by
 rw [cY] <;> omega
def C5 {α:Type} (l:List α) (i:Nat):Option α:=if i<4611686018427387904 then l[i]? else none
theorem yN {α:Type} {l:List α} {i:Nat} {x:α} (h:C5 l i=some x):i<4611686018427387904∧l[i]? = some x:=by
 unfold C5 at h
 split at h
 ·exact⟨‹_›,h⟩
 ·cases h
def push {α:Type} (k:Nat) (l:List α) (x:α):Option (List α):=if(l.length+1)*k≤bx then some (l++ [x])else none
theorem nU {α:Type} {k:Nat} {l l':List α} {x:α} (h:push k l x=some l'):(l.length+1)*k≤bx∧l'=l++ [x]:=by
 unfold push at h
 split at h
 ·cases h;exact⟨‹_›,rfl⟩
 ·cases h
end Go.Abs

/-! Mir -/

namespace Go.Abs
mutual
def Ex.size:Ex→Nat
 | ⟨_,_,_,kids⟩=>1+Ex.aW kids
def Ex.aW:List Ex→Nat
 | []=>0
 | x::l=>1+x.size+Ex.aW l
end
mutual
def Ex.depth:Ex→Nat
 | ⟨_,_,_,kids⟩=>Ex.fF kids+1
def Ex.fF:List Ex→Nat
 | []=>0
 | x::l=>max x.depth (Ex.fF l)
end
def GH (x:Ex):Option Int:=if x.size<4611686018427387904 then some (x.depth:Int)else none
theorem Ex.bW {x:Ex} : ∀ {l:List Ex},x∈l→x.size<Ex.aW l
 | y::l,h=>by
  simp only [Ex.aW]
  rcases List.mem_cons.1 h with rfl | h
  ·omega
  ·have:=Ex.bW h;omega
theorem Ex.da : ∀ (l:List Ex),l.length≤Ex.aW l
 | []=>Nat.le_refl _
 | x::l=>by simp only [Ex.aW,List.length_cons];have:=Ex.da l;omega
theorem Ex.LL : ∀ (n:Nat) (x:Ex),x.size≤n→x.depth≤x.size:=by
 intro n
 induction n with
 | zero=>intro x h;cases x;simp only [Ex.size]at h;omega
 | succ n ih=>
  rintro⟨op,m,name,kids⟩ h
  simp only [Ex.size,Ex.depth]at h ⊢
  have : ∀ l:List Ex,Ex.aW l≤n→Ex.fF l≤Ex.aW l:=by
   intro l
   induction l with
   | nil=>intro _;simp [Ex.fF]
   | cons x l GM=>
    intro h
    simp only [Ex.aW,Ex.fF]at h ⊢
    have:=ih x (by omega)
    have:=GM (by omega)
    omega
  have:=this kids (by omega)
  omega
def mB (t:bM):Int×Int:=
 if t.kind != 4 then(0,0)
 else if t.text == [124,124]then(17,1)
 else if t.text == [38,38]then(16,2)
 else if t.text == [61,61]then(14,3)
 else if t.text == [33,61]then(15,3)
 else if t.text == [60]then(10,4)
 else if t.text == [60,61]then(11,4)
 else if t.text == [62]then(12,4)
 else if t.text == [62,61]then(13,4)
 else if t.text == [43]then(8,5)
 else if t.text == [45]then(9,5)
 else if t.text == [42]then(5,6)
 else if t.text == [47]then(6,6)
 else if t.text == [37]then(7,6)
 else(0,0)
structure Rd where
 l:List bM
 i:Nat
 code:Int
 pW:Int
 n:Nat
abbrev Rd.good (r:Rd):Bool:=r.code==0
def Rd.mC (r:Rd):Option bM:=(C5 r.l r.i).bind fun t=>if decide (0≤t.kind) && decide (t.kind≤4)then some t else none
theorem GN {r:Rd} {t:bM} (h:r.mC=some t):r.i<4611686018427387904∧r.l[r.i]? = some t∧0≤t.kind∧t.kind≤4:=by
 unfold Rd.mC at h
 rw [Option.bind_eq_some_iff]at h
 obtain⟨u,h1,h⟩:=h
 obtain⟨g1,g2⟩:=yN h1
 by_cases hk:(decide (0≤u.kind) && decide (u.kind≤4))=true
 ·rw [if_pos hk]at h
  cases h
  simp only [Bool.and_eq_true,decide_eq_true_eq]at hk
  exact⟨g1,g2,hk.1,hk.2⟩
 ·rw [if_neg hk]at h;cases h
def Rd.bad (c:Int) (r:Rd):Option Rd:=if r.good then r.mC.bind fun t=>some {r with code:=c,pW:=t.pos}else some r
def Rd.is (text:ay) (r:Rd):Option Bool:=r.mC.bind fun t=>some ((t.kind==3 || t.kind==4) && t.text==text)
def Rd.take (text:ay) (r:Rd):Option (Bool×Rd):=
 if !r.good then some (false,r)else(r.is text).bind fun b=>if !b then some (false,r)else some (true,{r with i:=r.i+1})
def Rd.want (text:ay) (r:Rd):Option Rd:=(r.take text).bind fun p=>if !p.1 then p.2.bad 3 else some p.2
def Rd.name (room:Bool) (r:Rd):Option (ay×Rd):=
 r.mC.bind fun t=>if !r.good || t.kind != 1 then(r.bad 3).bind fun r=>some ([],r)else if !room then(r.bad 4).bind fun r=>some ([],r)else some (t.text,{r with i:=r.i+1})
def Rd.on (r:Rd):Rd:= {r with i:=r.i+1}
mutual
def Rd.one:Nat→Rd→Option (Ex×Rd)
 | 0,_=>none
 | n+1,r=>r.mC.bind fun t=>
  if !r.good then some (ld,r)
  else if t.kind==2 then some (⟨1,t.n,[],[]⟩,{r with i:=r.i+1})
  else if t.kind==1 then some (⟨2,0,t.text,[]⟩,{r with i:=r.i+1})
  else(r.take [40]).bind fun p=>
   if p.1 then(Rd.two n 1 p.2).bind fun x=>(x.2.want [41]).bind fun r=>some (x.1,r)
   else(p.2.take [45]).bind fun p=>
    if p.1 then(Rd.one n p.2).bind fun x=>some (⟨3,0,[],[x.1]⟩,x.2)
    else(p.2.take [33]).bind fun p=>
     if p.1 then(Rd.one n p.2).bind fun x=>some (⟨4,0,[],[x.1]⟩,x.2)
     else(p.2.bad 3).bind fun r=>some (ld,r)
def Rd.two:Nat→Int→Rd→Option (Ex×Rd)
 | 0,_,_=>none
 | n+1,least,r=>(Rd.one n r).bind fun x=>Rd.yO n least x.1 x.2
def Rd.yO:Nat→Int→Ex→Rd→Option (Ex×Rd)
 | 0,_,_,_=>none
 | n+1,least,x,r=>
  if r.good then r.mC.bind fun t=>
   if decide ((mB t).2<least) || (mB t).1==0 then some (x,r)
   else(Rd.two n ((mB t).2+1) {r with i:=r.i+1}).bind fun y=>Rd.yO n least ⟨(mB t).1,0,[],[x,y.1]⟩ y.2
  else some (x,r)
end
def Rd.whole (n:Nat) (r:Rd):Option (Ex×Rd):=
 r.mC.bind fun t=>(Rd.two n 1 r).bind fun x=>
  if x.2.good then(GH x.1).bind fun d=>if decide (d > 20)then some (x.1,{x.2 with code:=4,pW:=t.pos})else some (x.1,x.2)
  else some (x.1,x.2)
def Rd.names:Nat→List ay→Int→Rd→Option (List ay×Rd)
 | 0,_,_,_=>none
 | n+1,l,fk,r=>
  if r.good then(r.name (decide ((l.length:Int)<fk))).bind fun p=>(push 17 l p.1).bind fun l=>(p.2.take [44]).bind fun q=>
   if !q.1 then(q.2.want [59]).bind fun r=>some (l,r)else Rd.names n l fk q.2
  else some (l,r)
def Rd.ahead (sign:ay) (r:Rd):Option Bool:=
 if r.good then r.mC.bind fun t=>if t.kind==1 then(C5 r.l (r.i+1)).bind fun u=>some (u.kind==4 && u.text==sign)else some false
 else some false
def Rd.labels:Nat→List ay→Rd→Option (List ay×Rd)
 | 0,_,_=>none
 | n+1,l,r=>(r.ahead [58]).bind fun b=>if b then r.mC.bind fun t=>(push 17 l t.text).bind fun l=>Rd.labels n l {r with i:=r.i+2}else some (l,r)
def Rd.GO (r:Rd):Option Bool:=
 r.mC.bind fun t=>some (if t.kind==1 then true else if t.kind != 3 then false
  else t.text == [105,102] || t.text == [119,104,105,108,101] || t.text == [98,114,101,97,107] || t.text == [99,111,110,116,105,110,117,101] || t.text == [114,101,116,117,114,110] || t.text == [103,111,116,111] || t.text == [114,101,97,100] || t.text == [112,114,105,110,116])
def Rd.w9 (m:Nat):Nat→List Ar→Rd→Option (List Ar×Rd)
 | 0,_,_=>none
 | n+1,l,r=>
  if r.good then(r.take [114,101,102]).bind fun p=>
   if p.1 then(p.2.name true).bind fun x=>(push 81 l ⟨true,x.1,ld⟩).bind fun l=>(x.2.take [44]).bind fun c=>if !c.1 then some (l,c.2)else Rd.w9 m n l c.2
   else(Rd.whole m p.2).bind fun x=>(push 81 l ⟨false,[],x.1⟩).bind fun l=>(x.2.take [44]).bind fun c=>if !c.1 then some (l,c.2)else Rd.w9 m n l c.2
  else some (l,r)
def Rd.other (sign:ay) (r:Rd):Option Bool:=if r.good then(r.is sign).bind fun b=>some !b else some false
def Rd.call (m:Nat) (name proc:ay) (r:Rd):Option (Sm×Rd):=
 (r.want [40]).bind fun r=>(r.other [41]).bind fun b=>
  if b then(Rd.w9 m m [] r).bind fun q=>(q.2.want [41]).bind fun r=>(r.want [59]).bind fun r=>some (⟨0,4,[],name,proc,ld,false,q.1,[],[]⟩,r)
  else(r.want [41]).bind fun r=>(r.want [59]).bind fun r=>some (⟨0,4,[],name,proc,ld,false,[],[],[]⟩,r)
def Rd.named (m:Nat) (r:Rd):Option (Sm×Rd):=
 (r.name true).bind fun x=>(x.2.is [40]).bind fun b=>
  if b then Rd.call m [] x.1 x.2
  else(x.2.want [61]).bind fun r=>(r.ahead [40]).bind fun b=>
   if b then(r.name true).bind fun y=>Rd.call m x.1 y.1 y.2
   else(Rd.whole m r).bind fun y=>(y.2.want [59]).bind fun r=>some (⟨0,1,[],x.1,[],y.1,false,[],[],[]⟩,r)
def Rd.plain (m:Nat) (word:ay) (r:Rd):Option (Sm×Rd):=
 if word == [98,114,101,97,107]then some (⟨0,7,[],[],[],ld,false,[],[],[]⟩,r)
 else if word == [99,111,110,116,105,110,117,101]then some (⟨0,8,[],[],[],ld,false,[],[],[]⟩,r)
 else if word == [114,101,116,117,114,110]then(r.is [59]).bind fun b=>
  if !b then(Rd.whole m r).bind fun x=>some (⟨0,9,[],[],[],x.1,true,[],[],[]⟩,x.2)else some (⟨0,9,[],[],[],ld,false,[],[],[]⟩,r)
 else if word == [103,111,116,111]then(r.name true).bind fun x=>some (⟨0,10,[],x.1,[],ld,false,[],[],[]⟩,x.2)
 else if word == [114,101,97,100]then(r.name true).bind fun x=>some (⟨0,2,[],x.1,[],ld,false,[],[],[]⟩,x.2)
 else if word == [112,114,105,110,116]then(Rd.whole m r).bind fun x=>some (⟨0,3,[],[],[],x.1,false,[],[],[]⟩,x.2)
 else some (Gz,r)
def Rd.head (m:Nat) (r:Rd):Option (Ex×Rd):=(r.want [40]).bind fun r=>(Rd.whole m r).bind fun x=>(x.2.want [41]).bind fun r=>some (x.1,r)
mutual
def Rd.rows (m:Nat):Nat→Int→Bool→Rd→Option ((List Sm×List ay)×Rd)
 | 0,_,_,_=>none
 | n+1,nest,body,r=>Rd.sJ m n nest body [] r
def Rd.sJ (m:Nat):Nat→Int→Bool→List Sm→Rd→Option ((List Sm×List ay)×Rd)
 | 0,_,_,_,_=>none
 | n+1,nest,body,out,r=>
  if r.good then(Rd.labels m [] r).bind fun l=>(l.2.is [125]).bind fun b=>
   if b && (body || (l.1.length:Int)==0)then some ((out,l.1),{l.2 with i:=l.2.i+1})
   else(Rd.stmt m n nest l.2).bind fun s=>(push 209 out {s.1 with labels:=l.1}).bind fun out=>Rd.sJ m n nest body out s.2
  else some (([],[]),r)
def Rd.stmt (m:Nat):Nat→Int→Rd→Option (Sm×Rd)
 | 0,_,_=>none
 | n+1,nest,r=>r.GO.bind fun b=>
  if !b then(r.bad 3).bind fun r=>some (Gz,r)
  else(inc r.n).bind fun k=>
   if decide ((k:Int) > 200) || decide (nest > 12)then(({r with n:=k} : Rd).bad 4).bind fun r=>some (Gz,r)
   else({r with n:=k} : Rd).mC.bind fun t=>
    if t.kind==1 then Rd.named m {r with n:=k}
    else if t.text == [105,102]then Rd.choice m n nest {r with n:=k,i:=r.i+1}
    else if t.text == [119,104,105,108,101]then(Rd.head m {r with n:=k,i:=r.i+1}).bind fun x=>(Rd.block m n nest x.2).bind fun b=>some (⟨0,6,[],[],[],x.1,false,[],b.1,[]⟩,b.2)
    else(Rd.plain m t.text {r with n:=k,i:=r.i+1}).bind fun s=>(s.2.want [59]).bind fun r=>some (s.1,r)
def Rd.block (m:Nat):Nat→Int→Rd→Option (List Sm×Rd)
 | 0,_,_=>none
 | n+1,nest,r=>(r.want [123]).bind fun r=>(Ru nest).bind fun k=>(Rd.rows m n k false r).bind fun p=>some (p.1.1,p.2)
def Rd.choice (m:Nat):Nat→Int→Rd→Option (Sm×Rd)
 | 0,_,_=>none
 | n+1,nest,r=>(Rd.head m r).bind fun x=>(Rd.block m n nest x.2).bind fun t=>(t.2.take [101,108,115,101]).bind fun q=>
  if q.1 then(Rd.block m n nest q.2).bind fun e=>some (⟨0,5,[],[],[],x.1,false,[],t.1,e.1⟩,e.2)
  else some (⟨0,5,[],[],[],x.1,false,[],t.1,[]⟩,q.2)
end
def Rd.params:Nat→List Pm→Rd→Option (List Pm×Rd)
 | 0,_,_=>none
 | n+1,l,r=>
  if r.good then(r.take [114,101,102]).bind fun q=>(q.2.name (decide ((l.length:Int)<8))).bind fun x=>(push 25 l ⟨x.1,q.1⟩).bind fun l=>(x.2.take [44]).bind fun c=>
   if !c.1 then some (l,c.2)else Rd.params n l c.2
  else some (l,r)
def Rd.vars (m:Nat):Nat→List ay→Rd→Option (List ay×Rd)
 | 0,_,_=>none
 | n+1,l,r=>(r.take [118,97,114]).bind fun q=>if q.1 then(Rd.names m l 16 q.2).bind fun x=>Rd.vars m n x.1 x.2 else some (l,q.2)
def Rd.xa (m:Nat) (name:ay) (ps:List Pm) (r:Rd):Option (Pc×Rd):=
 (Rd.vars m m [] r).bind fun v=>(Rd.rows m m 1 true v.2).bind fun b=>some (⟨name,ps,v.1,b.1.1,b.1.2⟩,b.2)
def Rd.proc (m:Nat) (r:Rd):Option (Pc×Rd):=
 (r.name true).bind fun x=>(x.2.want [40]).bind fun r=>(r.other [41]).bind fun b=>
  if b then(Rd.params m [] r).bind fun q=>(q.2.want [41]).bind fun r=>(r.want [123]).bind fun r=>Rd.xa m x.1 q.1 r
  else(r.want [41]).bind fun r=>(r.want [123]).bind fun r=>Rd.xa m x.1 [] r
def Rd.globals (m:Nat):Nat→List ay→Rd→Option (List ay×Rd)
 | 0,_,_=>none
 | n+1,l,r=>(r.take [103,108,111,98,97,108]).bind fun q=>if q.1 then(Rd.names m l 16 q.2).bind fun x=>Rd.globals m n x.1 x.2 else some (l,q.2)
def Rd.N8 (r:Rd):Option Bool:=if r.good then r.is [112,114,111,99]else some false
def Rd.GQ (r:Rd):Option Bool:=if r.good then r.mC.bind fun t=>some (t.kind != 0)else some false
def Rd.procs (m:Nat):Nat→List Pc→Rd→Option (List Pc×Rd)
 | 0,_,_=>none
 | n+1,l,r=>r.N8.bind fun b=>
  if b then
   if(l.length:Int)==16 then(r.bad 4).bind fun r=>some (l,r)
   else(Rd.proc m {r with i:=r.i+1}).bind fun x=>(push 113 l x.1).bind fun l=>Rd.procs m n l x.2
  else r.GQ.bind fun b=>if b then(r.bad 3).bind fun r=>some (l,r)else some (l,r)
def Rd.program (m:Nat) (r:Rd):Option (Pg×Rd):=(Rd.globals m m [] r).bind fun g=>(Rd.procs m m [] g.2).bind fun q=>some (⟨g.1,q.1⟩,q.2)
mutual
def Ex.beq:Ex→Ex→Bool
 | ⟨op,n,name,kids⟩,⟨op',n',LM,TK⟩=>if op != op' || n != n' || !(name==LM) || (kids.length:Int) != (TK.length:Int)then false else Ex.oD kids TK
def Ex.oD:List Ex→List Ex→Bool
 | [],_=>true
 | _::_,[]=>true
 | x::l,y::l'=>if !Ex.beq x y then false else Ex.oD l l'
end
end Go.Abs

/-! MirTree -/

namespace Go.Abs
def Ar.aW:List Ar→Nat
 | []=>0
 | a::l=>1+a.x.size+Ar.aW l
mutual
def Sm.size:Sm→Nat
 | ⟨_,_,labels,_,_,x,_,args,aY,aT⟩=>1+labels.length+x.size+Ar.aW args+Sm.aW aY+Sm.aW aT
def Sm.aW:List Sm→Nat
 | []=>0
 | s::l=>1+s.size+Sm.aW l
end
def Pc.size (f:Pc):Nat:=1+f.params.length+f.vars.length+f.fin.length+Sm.aW f.body
def Pc.aW:List Pc→Nat
 | []=>0
 | f::l=>1+f.size+Pc.aW l
def Pg.size (p:Pg):Nat:=1+p.globals.length+Pc.aW p.procs
mutual
def Sm.num (b:Bool) (n:Nat):Sm→Sm×Nat
 | ⟨id,kind,labels,name,proc,x,has,args,aY,aT⟩=>
  (⟨if b then((n+1:Nat):Int)else id,kind,labels,name,proc,x,has,args,(Sm.fX b (n+1) aY).1,(Sm.fX b (Sm.fX b (n+1) aY).2 aT).1⟩,(Sm.fX b (Sm.fX b (n+1) aY).2 aT).2)
def Sm.fX (b:Bool) (n:Nat):List Sm→List Sm×Nat
 | []=>([],n)
 | s::l=>((Sm.num b n s).1::(Sm.fX b (Sm.num b n s).2 l).1,(Sm.fX b (Sm.num b n s).2 l).2)
end
def Pc.fX (n:Nat):List Pc→List Pc
 | []=> []
 | f::l=> {f with body:=(Sm.fX true n f.body).1}::Pc.fX (Sm.fX true n f.body).2 l
def Pg.number (p:Pg):Pg:= {p with procs:=Pc.fX 0 p.procs}
def Pg.C6 (p:Pg):Option Pg:=if p.size<1073741824 then some p.number else none
mutual
theorem Sm.Yo (b:Bool) (n:Nat) : ∀ s:Sm,(Sm.num b n s).2≤n+s.size
 | ⟨id,kind,labels,name,proc,x,has,args,aY,aT⟩=>by
  simp only [Sm.num,Sm.size]
  have h1:=Sm.s4 b (n+1) aY
  have h2:=Sm.s4 b (Sm.fX b (n+1) aY).2 aT
  omega
theorem Sm.s4 (b:Bool) (n:Nat) : ∀ l:List Sm,(Sm.fX b n l).2≤n+Sm.aW l
 | []=>by simp [Sm.fX,Sm.aW]
 | s::l=>by
  simp only [Sm.fX,Sm.aW]
  have h1:=Sm.Yo b n s
  have h2:=Sm.s4 b (Sm.num b n s).2 l
  omega
end
theorem Sm.da : ∀ (l:List Sm),l.length≤Sm.aW l
 | []=>Nat.le_refl _
 | x::l=>by simp only [Sm.aW,List.length_cons];have:=Sm.da l;omega
theorem Ar.da : ∀ (l:List Ar),l.length≤Ar.aW l
 | []=>Nat.le_refl _
 | x::l=>by simp only [Ar.aW,List.length_cons];have:=Ar.da l;omega
theorem Pc.da : ∀ (l:List Pc),l.length≤Pc.aW l
 | []=>Nat.le_refl _
 | x::l=>by simp only [Pc.aW,List.length_cons];have:=Pc.da l;omega
theorem Ar.bW {x:Ar} : ∀ {l:List Ar},x∈l→x.x.size<Ar.aW l
 | y::l,h=>by
  simp only [Ar.aW]
  rcases List.mem_cons.1 h with rfl | h
  ·omega
  ·have:=Ar.bW h;omega
theorem Sm.bW {x:Sm} : ∀ {l:List Sm},x∈l→x.size<Sm.aW l
 | y::l,h=>by
  simp only [Sm.aW]
  rcases List.mem_cons.1 h with rfl | h
  ·omega
  ·have:=Sm.bW h;omega
theorem Pc.bW {x:Pc} : ∀ {l:List Pc},x∈l→x.size<Pc.aW l
 | y::l,h=>by
  simp only [Pc.aW]
  rcases List.mem_cons.1 h with rfl | h
  ·omega
  ·have:=Pc.bW h;omega
end Go.Abs

/-! Cnt -/

namespace Go.Abs
mutual
def Sm.gV:Sm→Nat
 | ⟨_,_,_,_,_,_,_,_,aY,aT⟩=>1+Sm.dY aY+Sm.dY aT
def Sm.dY:List Sm→Nat
 | []=>0
 | s::l=>s.gV+Sm.dY l
end
end Go.Abs

/-! MirFlat -/

namespace Go.Abs
structure Im where
 s:Sm
 proc:Int
 up:Int
 next:Int
 loop:Int
mutual
def Im.one (proc up next loop:Int) (out:List Im):Sm→List Im
 | ⟨id,kind,labels,name,pc,x,has,args,aY,aT⟩=>
  Im.rows proc ((out.length:Int)+1) (if kind==6 then(out.length:Int)+1 else next) (if kind==6 then(out.length:Int)+1 else loop)
   (Im.rows proc ((out.length:Int)+1) (if kind==6 then(out.length:Int)+1 else next) (if kind==6 then(out.length:Int)+1 else loop) (out++ [⟨⟨id,kind,labels,name,pc,x,has,args,aY,aT⟩,proc,up,next,loop⟩]) aY) aT
def Im.rows (proc up next loop:Int) (out:List Im):List Sm→List Im
 | []=>out
 | s::l=>Im.rows proc up next loop (Im.one proc up (if l.length=0 then next else(out.length:Int)+1+(s.gV:Int)) loop out s) l
end
theorem Im.Yp (proc up next loop:Int) (out:List Im) (s:Sm):Im.one proc up next loop out s =
 Im.rows proc ((out.length:Int)+1) (if s.kind==6 then(out.length:Int)+1 else next) (if s.kind==6 then(out.length:Int)+1 else loop)
  (Im.rows proc ((out.length:Int)+1) (if s.kind==6 then(out.length:Int)+1 else next) (if s.kind==6 then(out.length:Int)+1 else loop) (out++ [⟨s,proc,up,next,loop⟩]) s.aY) s.aT:=by
 cases s;simp only [Im.one]
mutual
theorem V1 (proc up next loop:Int) (out:List Im) : ∀ s:Sm,(Im.one proc up next loop out s).length=out.length+s.gV
 | ⟨id,kind,labels,name,pc,x,has,args,aY,aT⟩=>by
  simp only [Im.one,Sm.gV]
  rw [fY,fY]
  simp only [List.length_append,List.length_cons,List.length_nil];omega
theorem fY (proc up next loop:Int) (out:List Im) : ∀ l:List Sm,(Im.rows proc up next loop out l).length=out.length+Sm.dY l
 | []=>rfl
 | s::l=>by
  simp only [Im.rows,Sm.dY]
  rw [fY,V1];omega
end
mutual
theorem Bd : ∀ s:Sm,s.gV≤s.size
 | ⟨_,_,labels,_,_,x,_,args,aY,aT⟩=>by
  have:=kl aY;have:=kl aT
  simp only [Sm.gV,Sm.size];omega
theorem kl : ∀ l:List Sm,Sm.dY l≤Sm.aW l
 | []=>Nat.le_refl _
 | s::l=>by
  have:=Bd s;have:=kl l
  simp only [Sm.dY,Sm.aW];omega
end
structure Sh where
 L:List Im
 lo:List Int
 hi:List Int
def Sh.go (i:Nat) (h:Sh):List Pc→Sh
 | []=>h
 | f::l=>Sh.go (i+1) ⟨Im.rows i 0 (-1) 0 h.L f.body,h.lo++ [(h.L.length:Int)+1],h.hi++ [((Im.rows i 0 (-1) 0 h.L f.body).length:Int)+1]⟩ l
def Pg.e7 (p:Pg):Sh:=Sh.go 0 ⟨[],[],[]⟩ p.procs
end Go.Abs

/-! Nums -/

namespace Go.Abs
def Rv:Nat:=3
def PT:Nat:=4
def N9:Nat:=5
def Oa:Nat:=6
def sv:Nat:=7
def PU:Nat:=8
def PV:Nat:=9
def PW:Nat:=10
def PX:Nat:=11
def pX:Nat:=12
def vw:Nat:=13
def ly:Nat:=14
def ab4:Nat:=15
def vx:Nat:=16
def Yq:Nat:=17
def ab5:Nat:=18
def tt:Nat:=19
def aaR:Nat:=20
def ad5:Nat:=21
def pY:Nat:=22
def kW:Nat:=23
def o3:Nat:=24
def tu:Nat:=25
def rU:Nat:=26
def rV:Nat:=27
def jn:Nat:=28
def vy:Nat:=29
def aaS:Nat:=30
def aaT:Nat:=31
def ab6:Nat:=32
def tv:Nat:=33
def WY:Nat:=34
def aaU:Nat:=35
def ab7:Nat:=36
def aaV:Nat:=37
def ab8:Nat:=38
def ad6:Nat:=39
def aaW:Nat:=40
def WZ:Nat:=41
def Yr:Nat:=42
def Ys:Nat:=43
def rW:Nat:=44
def vz:Nat:=45
def iL:Nat:=46
def fP:Nat:=47
def jU:Nat:=48
def Yt:Nat:=49
def Yu:Nat:=50
def Yv:Nat:=51
def TL:Nat:=52
def Yw:Nat:=53
def V2:Nat:=54
def C7:Nat:=55
def lX:Nat:=56
def ju:Nat:=57
def im:Nat:=58
def mT:Nat:=59
def lf:Nat:=60
def vA:Nat:=61
def fG:Nat:=62
def ny:Nat:=63
def bX:Nat:=64
def gi:Nat:=65
def o4:Nat:=66
def tw:Nat:=67
def pZ:Nat:=68
def oN:Nat:=69
def tx:Nat:=70
def p6:Nat:=71
def qL:Nat:=72
def yP:Nat:=73
def lz:Nat:=74
def o5:Nat:=75
def nV:Nat:=76
def uJ:Nat:=77
def sK:Nat:=78
def jg:Nat:=79
def iC:Nat:=80
def ij:Nat:=81
def W0:Nat:=82
def aaX:Nat:=83
def aaY:Nat:=84
def ab9:Nat:=85
def jv:Nat:=86
def TN:Nat:=87
def aaZ:Nat:=88
def V3:Nat:=89
def TO:Nat:=90
def aca:Nat:=91
def aa0:Nat:=92
def aa1:Nat:=93
def aa2:Nat:=94
def p7:Nat:=95
def km:Nat:=96
def sL:Nat:=97
def jh:Nat:=98
def Yx:Nat:=99
def Yy:Nat:=100
def Yz:Nat:=101
def aa3:Nat:=102
def TP:Nat:=103
def W1:Nat:=104
def W2:Nat:=105
def YA:Nat:=106
def acb:Nat:=107
def W3:Nat:=108
def W4:Nat:=109
def aa4:Nat:=110
def aa5:Nat:=111
def W5:Nat:=112
def W6:Nat:=113
def W7:Nat:=114
def GR:Nat:=115
def rX:Nat:=116
def ji:Nat:=117
def kc:Nat:=118
def p8:Nat:=119
def tz:Nat:=120
def tA:Nat:=121
def p9:Nat:=122
def rY:Nat:=123
def vB:Nat:=124
def lN:Nat:=125
def iD:Nat:=126
def iV:Nat:=127
def oO:Nat:=128
def xb:Nat:=129
def tB:Nat:=130
def dq:Nat:=131
def iE:Nat:=132
def cB:Nat:=133
def fl:Nat:=134
def ez:Nat:=135
def ni:Nat:=136
def dr:Nat:=137
def gp:Nat:=138
def kD:Nat:=139
def jL:Nat:=140
def iF:Nat:=141
def IM:Nat:=142
def YB:Nat:=143
def YC:Nat:=144
def acd:Nat:=145
def V4:Nat:=146
def aa6:Nat:=147
def tC:Nat:=148
def kn:Nat:=149
def BU:Nat:=150
def aa7:Nat:=151
def V5:Nat:=152
def YD:Nat:=153
def YE:Nat:=154
def W8:Nat:=155
def C8:Nat:=156
def W9:Nat:=157
def nW:Nat:=158
def qa:Nat:=159
def rZ:Nat:=160
def lA:Nat:=161
def qb:Nat:=162
def gj:Nat:=163
def nz:Nat:=164
def sa:Nat:=165
def fL:Nat:=166
def kL:Nat:=167
def BV:Nat:=168
def TQ:Nat:=169
def eh:Nat:=170
def cT:Nat:=171
def fZ:Nat:=172
def lB:Nat:=173
def od:Nat:=174
def IN:Nat:=175
def TR:Nat:=176
def qc:Nat:=177
def tD:Nat:=178
def vC:Nat:=179
def q6:Nat:=180
def xc:Nat:=181
def aa8:Nat:=182
def aa9:Nat:=183
def Xa:Nat:=184
def Xb:Nat:=185
def abb:Nat:=186
def YF:Nat:=187
def abd:Nat:=188
def EX:Nat:=189
def oe:Nat:=190
def vD:Nat:=191
def gY:Nat:=192
def yQ:Nat:=193
def Bp:Nat:=194
def yR:Nat:=195
def Aj:Nat:=196
def zX:Nat:=197
def vR:Nat:=198
def PY:Nat:=199
def ye:Nat:=200
def Be:Nat:=201
def PZ:Nat:=202
def P0:Nat:=203
def lY:Nat:=204
def nj:Nat:=205
def oP:Nat:=206
def oQ:Nat:=207
def Xc:Nat:=208
def tF:Nat:=209
def tG:Nat:=210
def ace:Nat:=211
def acf:Nat:=212
def abe:Nat:=213
def abf:Nat:=214
def YG:Nat:=215
def TS:Nat:=216
def Xd:Nat:=217
def V6:Nat:=218
def oR:Nat:=219
def Bq:Nat:=220
def Ie:Nat:=221
def IP:Nat:=222
def yf:Nat:=223
def CK:Nat:=224
def Oc:Nat:=225
def lZ:Nat:=226
def mD:Nat:=227
def l5:Nat:=228
def kM:Nat:=229
def iG:Nat:=230
def mE:Nat:=231
def Xe:Nat:=232
def YH:Nat:=233
def EY:Nat:=234
def C9:Nat:=235
def V7:Nat:=236
def vE:Nat:=237
def CM:Nat:=238
def kN:Nat:=239
def fQ:Nat:=240
def Xf:Nat:=241
def iu:Nat:=242
def kX:Nat:=243
def jw:Nat:=244
def sM:Nat:=245
end Go.Abs

/-! Codes0 -/

namespace Go.Abs
abbrev AI.o (t:Nat) (a:AO):AI:= .op (some t) none a
abbrev AI.g (t c:Nat) (b:Bool) (a:AO):AI:= .op (some t) (some (c,b)) a
abbrev AI.c (t f:Nat) (l:List X):AI:= .call (some t) none f l
abbrev AI.d (t c:Nat) (b:Bool) (f:Nat) (l:List X):AI:= .call (some t) (some (c,b)) f l
abbrev AI.m (t:Nat) (x:X):AI:= .op (some t) none (.mv x)
abbrev aR:X:= .s 0
abbrev bc:X:= .s 1
abbrev cQ:X:= .s 2
abbrev bI:X:= .s 3
abbrev c7:X:= .s 4
abbrev bh:X:= .s 5
abbrev bL:X:= .s 6
abbrev bE:X:= .s 7
abbrev b9:X:= .s 8
abbrev bY:X:= .s 9
abbrev bF:X:= .s 10
abbrev bU:X:= .s 11
abbrev bO:X:= .s 12
abbrev bP:X:= .s 13
abbrev bK:X:= .s 14
abbrev cq:X:= .s 15
abbrev b6:X:= .s 16
abbrev cO:X:= .s 17
abbrev cH:X:= .s 18
abbrev cZ:X:= .s 19
abbrev dc:X:= .s 20
abbrev dt:X:= .s 21
abbrev dk:X:= .s 22
abbrev dB:X:= .s 23
abbrev dd:X:= .s 24
abbrev de:X:= .s 25
abbrev ej:X:= .s 26
abbrev dS:X:= .s 27
abbrev eI:X:= .s 28
abbrev eJ:X:= .s 29
abbrev fc:X:= .s 30
abbrev eW:X:= .s 31
abbrev fe:X:= .s 32
abbrev eZ:X:= .s 33
abbrev fw:X:= .s 34
abbrev fq:X:= .s 35
abbrev fA:X:= .s 36
abbrev fR:X:= .s 37
abbrev gl:X:= .s 38
abbrev ga:X:= .s 39
abbrev gJ:X:= .s 40
abbrev gK:X:= .s 41
abbrev iH:X:= .s 42
abbrev iS:X:= .s 43
abbrev jx:X:= .s 44
abbrev jM:X:= .s 45
abbrev jN:X:= .s 46
abbrev jO:X:= .s 47
abbrev iT:X:= .s 48
abbrev iU:X:= .s 49
abbrev jP:X:= .s 50
abbrev jQ:X:= .s 51
abbrev kd:X:= .s 52
abbrev ke:X:= .s 53
abbrev kE:X:= .s 54
abbrev kU:X:= .s 55
abbrev l6:X:= .s 56
abbrev mF:X:= .s 57
abbrev l7:X:= .s 58
abbrev kF:X:= .s 59
abbrev nX:X:= .s 60
abbrev pd:X:= .s 61
abbrev pe:X:= .s 62
abbrev pf:X:= .s 63
abbrev qd:X:= .s 64
abbrev sb:X:= .s 65
abbrev tH:X:= .s 66
abbrev sc:X:= .s 67
abbrev sd:X:= .s 68
abbrev vF:X:= .s 69
abbrev tJ:X:= .s 70
abbrev yS:X:= .s 71
abbrev xd:X:= .s 72
abbrev yT:X:= .s 73
abbrev yU:X:= .s 74
abbrev yV:X:= .s 75
abbrev yW:X:= .s 76
abbrev Bf:X:= .s 77
abbrev yX:X:= .s 78
abbrev GU:X:= .s 79
abbrev GV:X:= .s 80
abbrev GX:X:= .s 81
abbrev GY:X:= .s 82
abbrev GZ:X:= .s 83
abbrev G0:X:= .s 84
abbrev G1:X:= .s 85
abbrev G2:X:= .s 86
abbrev G3:X:= .s 87
abbrev G4:X:= .s 88
abbrev G5:X:= .s 89
abbrev LN:X:= .s 90
abbrev LO:X:= .s 91
abbrev LP:X:= .s 92
abbrev Rw:X:= .s 93
abbrev Rx:X:= .s 94
abbrev Ry:X:= .s 95
abbrev YI:X:= .s 96
abbrev YJ:X:= .s 97
abbrev YK:X:= .s 98
abbrev YL:X:= .s 99
abbrev TT:X:= .s 100
abbrev TU:X:= .s 101
abbrev TV:X:= .s 102
abbrev TX:X:= .s 103
abbrev TY:X:= .s 104
abbrev T1:X:= .s 105
abbrev T2:X:= .s 106
abbrev T3:X:= .s 107
abbrev T4:X:= .s 108
abbrev T5:X:= .s 109
abbrev T6:X:= .s 110
abbrev T7:X:= .s 111
abbrev T8:X:= .s 112
abbrev T9:X:= .s 113
abbrev Ua:X:= .s 114
abbrev Ub:X:= .s 115
abbrev Uc:X:= .s 116
abbrev Ud:X:= .s 117
abbrev Ue:X:= .s 118
abbrev Uf:X:= .s 119
abbrev Ug:X:= .s 120
abbrev Uh:X:= .s 121
abbrev Ui:X:= .s 122
abbrev Uj:X:= .s 123
abbrev Uk:X:= .s 124
abbrev Ul:X:= .s 125
abbrev Um:X:= .s 126
abbrev Un:X:= .s 127
abbrev Uo:X:= .s 128
abbrev Uq:X:= .s 129
abbrev Ur:X:= .s 130
abbrev Us:X:= .s 131
abbrev LQ:X:= .s 132
abbrev Ut:X:= .s 133
abbrev Uu:X:= .s 134
abbrev Uv:X:= .s 135
abbrev Uw:X:= .s 136
abbrev Ux:X:= .s 137
abbrev Uy:X:= .s 138
abbrev Uz:X:= .s 139
abbrev UA:X:= .s 140
abbrev UB:X:= .s 141
abbrev UC:X:= .s 142
abbrev LR:X:= .s 143
abbrev UD:X:= .s 144
abbrev Fv:X:= .s 145
abbrev UE:X:= .s 146
abbrev UF:X:= .s 147
abbrev UG:X:= .s 148
abbrev UH:X:= .s 149
abbrev UI:X:= .s 150
abbrev UJ:X:= .s 151
abbrev acg:X:= .s 152
abbrev ach:X:= .s 153
abbrev aci:X:= .s 154
abbrev acj:X:= .s 155
abbrev ack:X:= .s 156
abbrev acm:X:= .s 157
abbrev acn:X:= .s 158
abbrev aco:X:= .s 159
abbrev acp:X:= .s 160
abbrev acq:X:= .s 161
abbrev acr:X:= .s 162
abbrev acs:X:= .s 163
abbrev acu:X:= .s 164
abbrev acv:X:= .s 165
abbrev acw:X:= .s 166
abbrev acx:X:= .s 167
abbrev acy:X:= .s 168
abbrev acz:X:= .s 169
abbrev acA:X:= .s 170
abbrev acB:X:= .s 171
abbrev acC:X:= .s 172
abbrev acD:X:= .s 173
abbrev acE:X:= .s 174
abbrev acF:X:= .s 175
abbrev acG:X:= .s 176
abbrev acH:X:= .s 177
abbrev Q04:AC:= .cond b9 (.seq (.run [.o 6 (.mv (.k (.bool false)))]) .ret) .skip
abbrev Q09:AC:= .cond bU (.seq (.run [.o 6 (.mv (.k (.bool true)))]) .ret) .skip
abbrev Q0E:AC:= .cond fe (.seq (.run [.o 6 (.mv (.k (.bool true)))]) .ret) .skip
abbrev Q0G:AC:= .par [.o 33 (.load bI true 2), .m 34 bc, .m 35 cQ, .c 36 vy [eZ,fw,fq], .c 37 ly [fA], .o 38 (.load bI true 2), .c 39 ly [gl], .o 40 (.eqs false [0,0] fR ga), .m 6 gJ] [(0,0),(1,0),(2,0),(3,0),(4,0),(5,2),(6,0),(7,0),(8,0)]
abbrev Q0I:AC:= .seq (.seq (.run [.m 12 bc, .c 13 jn [bO], .o 14 (.un .not bP), .m 15 bK, .g 16 15 false (.mv cQ), .d 17 15 false jn [b6], .g 18 15 false (.un .not cO), .o 19 (.pick cq (.k (.bool true)) cH), .m 20 cZ, .g 21 20 false (.mv bc), .g 22 20 false (.bin .eql dt (.k (.str [109,97,105,110]))), .o 23 (.pick dc (.k (.bool true)) dk), .m 24 dB, .g 25 24 false (.mv cQ), .g 26 24 false (.bin .eql de (.k (.str [109,97,105,110]))), .o 27 (.pick dd (.k (.bool true)) ej), .m 28 dS, .g 29 28 false (.load bI true 2), .d 30 28 false pY [eJ], .g 31 28 false (.un .not fc), .o 32 (.pick eI (.k (.bool true)) eW)]) Q0E) (.seq Q0G .ret)
abbrev Q0L:AC:= .seq (.run [.o 3 (.box aR), .o 6 (.mv (.k (.bool false)))]) (.seq (.seq (.run [.c 7 pX [], .o 8 (.un .not bE)]) Q04) (.seq (.seq (.run [.o 9 (.load bI true 2), .c 10 vw [bY], .o 11 (.un .not bF)]) Q09) Q0I))
abbrev Q0Q:AC:= .seq (.run [.c 4 rW [], .c 5 tt [c7], .m 3 bh, .o 6 (.ext bI 0), .o 7 (.ext bI 1), .o 1 (.alloc [(.slice .full 0 []),(.slice .full 0 [])]), .o 2 (.alloc [(.int .i64 0),(.int .i64 0)]), .op none none (.store bc bL 2), .op none none (.store cQ bE 2)]) (.seq (.run [.c 8 vz [], .c 9 vx [b9], .m 10 bY, .g 11 10 true (.au cQ 0), .g 12 10 true (.load bU false 1), .g 13 10 true (.bin .eql bO (.k (.int .i64 0))), .o 14 (.pick bF bP (.k (.bool false))), .m 15 bK, .g 16 15 true (.load bc true 2), .d 17 15 true tv [b6], .g 18 15 true (.bin .eql cO (.k (.int .i64 8))), .o 19 (.pick cq cH (.k (.bool false))), .m 20 cZ, .g 21 20 true (.build [(.slice .full 0 []),(.slice .full 0 [])] []), .d 22 20 true ly [dt], .g 23 20 true (.rj dk 0 false 1), .g 24 20 true (.bin .eql dB (.k (.int .i64 5))), .o 25 (.pick dc dd (.k (.bool false))), .m 0 de]) .ret)
abbrev Q0R:AC:= .seq (.run [.o 0 (.mv (.k (.bool false)))]) Q0Q
abbrev Q0Z:AC:= .par [.o 26 (.au bh 4), .o 27 (.load ej false 1), .o 28 (.au bh 2), .o 29 (.load eI false 1), .o 30 (.au bh 0), .o 31 (.load fc false 1), .m 32 bI, .c 33 fP [eW,fe], .c 34 iL [eJ,eZ], .c 35 iL [dS,fw], .m 3 fq] [(4,0),(5,0),(6,0),(7,0),(2,0),(3,1),(8,0),(0,0),(1,2),(9,0),(10,0)]
abbrev Q18:AC:= .seq (.seq (.run [.m 36 bL, .o 37 (.au bh 1), .o 38 (.load fR false 1), .o 39 (.len gl), .o 40 (.bin .lss fA ga), .m 41 gJ, .g 42 41 true (.mv bI), .g 43 41 true (.bin .leq iH (.k (.int .i64 20000))), .o 44 (.pick gK iS (.k (.bool false)))]) (.cond jx .skip (.exit 2))) (.seq (.block 3 (.run [.o 47 (.au bh 1), .o 48 (.load jO false 1), .m 49 bL, .o 50 (.cu iT iU 2), .o 51 (.au jP 0), .o 52 (.load jQ false 1), .m 53 bI, .c 54 fP [kd,ke], .m 3 kE])) (.run [.m 45 bL, .o 46 (.bin .add jM (.k (.int .i64 1))), .m 6 jN]))
abbrev Q1D:AC:= .seq (.seq (.run [.o 6 (.mv (.k (.int .i64 0)))]) (.block 2 (.loop Q18))) (.run [.o 55 (.au bh 3), .o 56 (.load kU false 1), .m 57 bI, .c 58 jU [l6,mF], .m 3 l7])
abbrev Q1I:AC:= .seq (.block 1 (.seq (.run [.o 21 (.au bc 1), .o 22 (.load dt false 1), .m 23 c7, .o 24 (.cu dk dB 5), .o 25 (.load dd true 5), .o 5 (.alloc [(.str []),(.slice .full 0 []),(.slice .full 0 []),(.slice .full 0 []),(.slice .full 0 [])]), .op none none (.store bh de 5)]) (.seq Q0Z Q1D))) (.run [.m 19 c7, .o 20 (.bin .add cZ (.k (.int .i64 1))), .m 4 dc])
abbrev Q1J:AC:= .seq (.seq (.run [.m 10 c7, .o 11 (.au bc 1), .o 12 (.load bU false 1), .o 13 (.len bO), .o 14 (.bin .lss bF bP), .m 15 bK, .g 16 15 true (.mv bI), .g 17 15 true (.bin .leq b6 (.k (.int .i64 20000))), .o 18 (.pick cq cO (.k (.bool false)))]) (.cond cH .skip (.exit 0))) Q1I
abbrev Q1P:AC:= .seq (.seq (.run [.o 4 (.mv (.k (.int .i64 0)))]) (.block 0 (.loop Q1J))) (.seq (.run [.m 59 bI, .o 60 (.bin .leq kF (.k (.int .i64 20000))), .m 2 nX]) .ret)
abbrev Q1R:AC:= .seq (.run [.o 1 (.box aR), .o 2 (.mv (.k (.bool false)))]) (.seq (.run [.o 7 (.au bc 0), .o 8 (.load bE false 1), .c 9 iL [b9,(.k (.int .i64 0))], .m 3 bY]) Q1P)
abbrev Q1V:AC:= .seq (.run [(.o 7 (.build [(.int .i64 0),(.int .i64 0)] [(0,(1,(.k (.int .i64 1))))])), .op none none (.store cQ bE 2)]) .ret
abbrev Q2D:AC:= .seq (.seq (.run [.o 20 (.au bI 0), .o 21 (.load dc false 1), .o 22 (.bin .eql dt (.k (.int .i64 0)))]) (.cond dk (.run [.o 23 (.load bc true 2), .c 24 rU [dB], .op none none (.store bI dd 2)]) .skip)) (.seq (.run [.o 25 (.load bI true 2), .op none none (.store cQ de 2)]) .ret)
abbrev Q2E:AC:= .seq (.seq (.run [.o 15 (.au bI 0), .o 16 (.load cq false 1), .o 17 (.bin .eql b6 (.k (.int .i64 0)))]) (.cond cO (.run [.o 18 (.load bc true 2), .c 19 tu [cH], .op none none (.store bI cZ 2)]) .skip)) Q2D
abbrev Q2F:AC:= .seq (.seq (.run [.o 10 (.au bI 0), .o 11 (.load bF false 1), .o 12 (.bin .eql bU (.k (.int .i64 0)))]) (.cond bO (.run [.o 13 (.load bc true 2), .c 14 o3 [bP], .op none none (.store bI bK 2)]) .skip)) Q2E
abbrev Q2I:AC:= .seq (.run [.o 1 (.box aR), .o 2 (.alloc [(.int .i64 0),(.int .i64 0)])]) (.seq (.seq (.run [.o 4 (.load bc true 2), .c 5 pY [c7], .o 6 (.un .not bh)]) (.cond bL Q1V .skip)) (.seq (.run [.o 8 (.load bc true 2), .c 9 kW [b9], .o 3 (.alloc [(.int .i64 0),(.int .i64 0)]), .op none none (.store bI bY 2)]) Q2F))
abbrev Q2M:AC:= .seq (.run [.o 1 (.box aR), .o 2 (.mv (.k (.bool false)))]) (.seq (.run [.o 3 (.load bc true 2), .c 4 ly [bI], .o 5 (.rj c7 0 false 1), .o 6 (.bin .eql bh (.k (.int .i64 0))), .m 2 bL]) .ret)
abbrev Q2U:AC:= .par [.o 19 (.build [(.slice .full 0 []),(.slice .full 0 [])] []), .o 20 (.load bh true 2), .op none none (.store cQ cZ 2), .op none none (.store bI dc 2)] [(0,0),(2,0),(1,1),(3,0)]
abbrev Q30:AC:= .seq (.seq (.run [.o 16 (.au bh 0), .o 17 (.load b6 false 1), .o 18 (.bin .neq cO (.k (.int .i64 0)))]) (.cond cH (.seq Q2U .ret) .skip)) (.seq (.run [.o 21 (.load c7 true 2), .o 22 (.build [(.int .i64 0),(.int .i64 0)] []), .op none none (.store cQ dt 2), .op none none (.store bI dk 2)]) .ret)
abbrev Q31:AC:= .seq (.seq (.run [.o 11 (.au bh 0), .o 12 (.load bU false 1), .o 13 (.bin .eql bO (.k (.int .i64 0)))]) (.cond bP (.run [.o 14 (.load c7 true 2), .c 15 ly [bK], .op none none (.store bh cq 2)]) .skip)) Q30
abbrev Q33:AC:= .seq (.run [.o 2 (.alloc [(.slice .full 0 []),(.slice .full 0 [])]), .o 3 (.alloc [(.int .i64 0),(.int .i64 0)])]) (.seq (.run [.m 7 aR, .c 8 rV [bE], .m 6 b9, .o 9 (.ext bL 0), .o 10 (.ext bL 1), .o 4 (.alloc [(.slice .full 0 []),(.slice .full 0 [])]), .o 5 (.alloc [(.int .i64 0),(.int .i64 0)]), .op none none (.store c7 bY 2), .op none none (.store bh bF 2)]) Q31)
abbrev Q38:AC:= .cond dB (.seq (.run [.o 2 (.mv (.k (.bool false)))]) .ret) .skip
abbrev Q3F:AC:= .run [.o 33 (.au bh 1), .o 34 (.load eZ false 1), .o 35 (.len fw), .o 36 (.bin .gtr fq (.k (.int .i64 8))), .m 37 fA, .g 38 37 false (.au bh 2), .g 39 37 false (.load gl false 1), .g 40 37 false (.len ga), .g 41 37 false (.bin .gtr gJ (.k (.int .i64 16))), .o 42 (.pick fR (.k (.bool true)) gK), .m 43 iH, .g 44 43 false (.au bh 0), .g 45 43 false (.load jx false 1), .d 46 43 false jn [jM], .g 47 43 false (.un .not jN), .o 48 (.pick iS (.k (.bool true)) jO), .m 49 iT, .g 50 49 false (.au bh 2), .g 51 49 false (.load jP false 1), .d 52 49 false lX [jQ], .g 53 49 false (.un .not kd), .o 54 (.pick iU (.k (.bool true)) ke), .m 55 kE, .g 56 55 false (.au bh 4), .g 57 55 false (.load l6 false 1), .d 58 55 false lX [mF], .g 59 55 false (.un .not l7), .o 60 (.pick kU (.k (.bool true)) kF)]
abbrev Q3I:AC:= .cond nX (.seq (.run [.o 2 (.mv (.k (.bool false)))]) .ret) .skip
abbrev Q3R:AC:= .cond yS (.seq (.run [.o 2 (.mv (.k (.bool false)))]) .ret) .skip
abbrev Q3W:AC:= .seq (.block 3 (.seq (.run [.o 66 (.cu pe qd 2), .o 67 (.load tH true 2), .o 7 (.alloc [(.str []),(.bool false)]), .op none none (.store bE sc 2)]) (.seq (.run [.o 68 (.au bE 0), .o 69 (.load sd false 1), .c 70 jn [vF], .o 71 (.un .not tJ)]) Q3R))) (.run [.o 72 (.bin .add qd (.k (.int .i64 1))), .m 64 xd])
abbrev Q40:AC:= .block 2 (.loop (.seq (.run [.o 65 (.bin .lss qd pf)]) (.seq (.cond sb .skip (.exit 2)) Q3W)))
abbrev Q45:AC:= .cond Bf (.seq (.run [.o 2 (.mv (.k (.bool false)))]) .ret) .skip
abbrev Q47:AC:= .seq (.seq (.run [.o 61 (.au bh 1), .o 62 (.load pd false 1), .o 63 (.len pe), .o 64 (.mv (.k (.int .i64 0)))]) Q40) (.seq (.run [.m 73 bI, .o 74 (.au bh 3), .o 75 (.load yU false 1), .c 76 ju [yT,yV,(.k (.int .i64 1))], .o 77 (.un .not yW)]) Q45)
abbrev Q4C:AC:= .seq (.block 1 (.seq (.run [.o 31 (.cu dS eJ 5), .o 32 (.load eW true 5), .o 5 (.alloc [(.str []),(.slice .full 0 []),(.slice .full 0 []),(.slice .full 0 []),(.slice .full 0 [])]), .op none none (.store bh fe 5)]) (.seq (.seq Q3F Q3I) Q47))) (.run [.o 78 (.bin .add eJ (.k (.int .i64 1))), .m 29 yX])
abbrev Q4G:AC:= .block 0 (.loop (.seq (.run [.o 30 (.bin .lss eJ eI)]) (.seq (.cond fc .skip (.exit 0)) Q4C)))
abbrev Q4K:AC:= .seq (.seq (.run [.o 26 (.au bc 1), .o 27 (.load ej false 1), .o 28 (.len dS), .o 29 (.mv (.k (.int .i64 0)))]) Q4G) (.seq (.run [.o 2 (.mv (.k (.bool true)))]) .ret)
abbrev Q4M:AC:= .seq (.seq (.run [.o 8 (.au bc 0), .o 9 (.load b9 false 1), .o 10 (.len bY), .o 11 (.bin .gtr bF (.k (.int .i64 16))), .m 12 bU, .g 13 12 false (.au bc 1), .g 14 12 false (.load bP false 1), .g 15 12 false (.len bK), .g 16 12 false (.bin .gtr cq (.k (.int .i64 16))), .o 17 (.pick bO (.k (.bool true)) b6), .m 18 cO, .g 19 18 false (.au bc 0), .g 20 18 false (.load cZ false 1), .d 21 18 false lX [dc], .g 22 18 false (.un .not dt), .o 23 (.pick cH (.k (.bool true)) dk)]) Q38) (.seq (.run [.o 24 (.build [(.int .i64 0)] []), .o 25 (.box dd), .m 3 de]) Q4K)
abbrev Q4N:AC:= .seq (.run [.o 1 (.box aR), .o 2 (.mv (.k (.bool false)))]) Q4M
abbrev Q4R:AC:= .seq (.run [(.o 16 (.build [(.int .i64 0),(.int .i64 0)] [(0,(1,(.k (.int .i64 1))))])), .op none none (.store cQ b6 2)]) .ret
abbrev Q53:AC:= .seq (.block 1 (.seq (.run [.o 22 (.cu cH dc 5), .o 23 (.load dk true 5), .o 5 (.alloc [(.str []),(.slice .full 0 []),(.slice .full 0 []),(.slice .full 0 []),(.slice .full 0 [])]), .op none none (.store bh dB 5)]) (.run [.m 24 bI, .o 25 (.au bh 0), .o 26 (.load de false 1), .o 27 (.cG [(.str [])] 1 1 [(0,ej)]), .o 28 (.app 1 16 dd dS), .m 3 eI]))) (.run [.o 29 (.bin .add dc (.k (.int .i64 1))), .m 20 eJ])
abbrev Q57:AC:= .block 0 (.loop (.seq (.run [.o 21 (.bin .lss dc cZ)]) (.seq (.cond dt .skip (.exit 0)) Q53)))
abbrev Q5C:AC:= .seq (.run [(.o 53 (.build [(.int .i64 0),(.int .i64 0)] [(0,(1,(.k (.int .i64 5))))])), .op none none (.store cQ ke 2)]) .ret
abbrev Q5N:AC:= .seq (.run [(.o 73 (.build [(.int .i64 0),(.int .i64 0)] [(0,(1,(.k (.int .i64 5))))])), .op none none (.store cQ yT 2)]) .ret
abbrev Q5W:AC:= .seq (.run [.o 89 (.au bO 0), .o 90 (.au G5 0), .o 91 (.load LN false 1),(.o 92 (.build [(.int .i64 0),(.int .i64 0)] [(0,(1,(.k (.int .i64 5)))),(1,(1,LO))])), .op none none (.store cQ LP 2)]) .ret
abbrev Q62:AC:= .seq (.block 5 (.seq (.run [.o 80 (.cu yW yX 17), .o 81 (.load GV true 17), .o 12 (.alloc [(.int .i64 0),(.int .i64 0),(.slice .full 0 []),(.str []),(.str []),(.int .i64 0),(.int .i64 0),(.str []),(.slice .full 0 []),(.bool false),(.slice .full 0 []),(.slice .full 0 []),(.slice .full 0 []),(.int .i64 0),(.int .i64 0),(.int .i64 0),(.int .i64 0)]), .op none none (.store bO GX 17)]) (.seq (.run [.o 82 (.load bc true 2), .o 83 (.load bY true 5), .m 84 bI, .o 85 (.au bO 0), .o 86 (.load G1 true 13), .c 87 o4 [GY,GZ,G0,G2], .o 88 (.un .not G3)]) (.cond G4 Q5W .skip)))) (.run [.o 93 (.bin .add yX (.k (.int .i64 1))), .m 78 Rw])
abbrev Q66:AC:= .block 4 (.loop (.seq (.run [.o 79 (.bin .lss yX Bf)]) (.seq (.cond GU .skip (.exit 4)) Q62)))
abbrev Q68:AC:= .seq (.seq (.run [.m 66 bF, .c 67 mT [tH], .m 68 sc, .g 69 68 false (.mv bF), .g 70 68 false (.sA 63 [bc]), .d 71 68 false fG [vF,tJ], .o 72 (.pick sd (.k (.bool true)) yS)]) (.cond xd Q5N .skip)) (.seq (.run [.m 74 bE, .m 75 b9, .c 76 gi [yU,yV], .o 77 (.len yW), .o 78 (.mv (.k (.int .i64 0)))]) Q66)
abbrev Q6D:AC:= .seq (.block 3 (.seq (.run [.m 61 kF, .o 62 (.cu mF kF 5), .o 63 (.load pe true 5), .o 9 (.alloc [(.str []),(.slice .full 0 []),(.slice .full 0 []),(.slice .full 0 []),(.slice .full 0 [])]), .m 8 pd, .op none none (.store bY pf 5)]) (.seq (.run [.o 64 (.load bY true 5), .c 65 vA [qd], .m 10 sb]) Q68))) (.run [.o 94 (.bin .add kF (.k (.int .i64 1))), .m 59 Rx])
abbrev Q6H:AC:= .block 2 (.loop (.seq (.run [.o 60 (.bin .lss kF l7)]) (.seq (.cond nX .skip (.exit 2)) Q6D)))
abbrev Q6L:AC:= .seq (.seq (.run [.o 56 (.au bc 1), .o 57 (.load l6 false 1), .o 58 (.len mF), .o 59 (.mv (.k (.int .i64 0)))]) Q6H) (.seq (.run [.o 95 (.build [(.int .i64 0),(.int .i64 0)] []), .op none none (.store cQ Ry 2)]) .ret)
abbrev Q6N:AC:= .seq (.seq (.run [.o 32 (.au bc 0), .o 33 (.load fe false 1), .c 34 mT [eZ], .m 35 fw, .g 36 35 false (.mv bI), .d 37 35 false mT [fA], .o 38 (.pick fq (.k (.bool true)) fR), .m 39 gl, .g 40 39 false (.mv bL), .g 41 39 false (.bin .lss gJ (.k (.int .i64 0))), .o 42 (.pick ga (.k (.bool true)) gK), .m 43 iH, .g 44 43 false (.au bc 1), .g 45 43 false (.load jx false 1), .g 46 43 false (.mv bL), .g 47 43 false (.cu jM jN 5), .g 48 43 false (.au jO 1), .g 49 43 false (.load iT false 1), .g 50 43 false (.len iU), .g 51 43 false (.bin .gtr jP (.k (.int .i64 0))), .o 52 (.pick iS (.k (.bool true)) jQ)]) (.cond kd Q5C .skip)) (.seq (.run [.o 54 (.load bc true 2), .c 55 lf [kE], .m 7 kU]) Q6L)
abbrev Q6P:AC:= .seq (.seq (.run [.o 17 (.au bc 1), .o 18 (.load cO false 1), .o 19 (.len cH), .o 20 (.mv (.k (.int .i64 0)))]) Q57) (.seq (.run [.m 30 bI,(.c 31 im [fc,(.k (.str [109,97,105,110]))]), .m 6 eW]) Q6N)
abbrev Q6R:AC:= .seq (.seq (.run [.o 13 (.load bc true 2), .c 14 pY [bP], .o 15 (.un .not bK)]) (.cond cq Q4R .skip)) (.seq (.run [.o 3 (.mv (.k (.slice .full 0 [])))]) Q6P)
abbrev Q6S:AC:= .seq (.run [.o 1 (.box aR), .o 2 (.alloc [(.int .i64 0),(.int .i64 0)])]) Q6R
abbrev Q6W:AC:= .seq (.run [(.o 9 (.build [(.int .i64 0),(.int .i64 0)] [(0,(1,(.k (.int .i64 1))))])), .op none none (.store cQ bY 2)]) .ret
abbrev Q75:AC:= .seq (.run [.o 31 (.au c7 0), .o 32 (.au eW 0), .o 33 (.load fe false 1),(.o 34 (.build [(.int .i64 0),(.int .i64 0)] [(0,(1,(.k (.int .i64 6)))),(1,(1,eZ))])), .op none none (.store cQ fw 2)]) .ret
abbrev Q78:AC:= .seq (.run [.o 18 (.cu bK b6 17), .o 19 (.load cH true 17), .o 4 (.alloc [(.int .i64 0),(.int .i64 0),(.slice .full 0 []),(.str []),(.str []),(.int .i64 0),(.int .i64 0),(.str []),(.slice .full 0 []),(.bool false),(.slice .full 0 []),(.slice .full 0 []),(.slice .full 0 []),(.int .i64 0),(.int .i64 0),(.int .i64 0),(.int .i64 0)]), .op none none (.store c7 cZ 17)]) (.seq (.run [.o 20 (.au c7 0), .o 21 (.au dc 1), .o 22 (.load dt false 1), .o 23 (.bin .eql dk (.k (.int .i64 4))), .m 24 dB, .g 25 24 true (.load bc true 2), .g 26 24 true (.au c7 0), .g 27 24 true (.load ej true 13), .d 28 24 true tw [de,dS], .g 29 24 true (.un .not eI), .o 30 (.pick dd eJ (.k (.bool false)))]) (.cond fc Q75 .skip))
abbrev Q7C:AC:= .seq (.cond cO .skip (.exit 0)) (.seq (.block 1 Q78) (.run [.o 35 (.bin .add b6 (.k (.int .i64 1))), .m 16 fq]))
abbrev Q7G:AC:= .seq (.run [.o 10 (.load bc true 2), .c 11 lf [bF], .o 12 (.di bU), .o 13 (.au bO 2), .o 14 (.load bP false 1), .o 15 (.len bK), .o 16 (.mv (.k (.int .i64 0)))]) (.block 0 (.loop (.seq (.run [.o 17 (.bin .lss b6 cq)]) Q7C)))
abbrev Q7K:AC:= .seq (.seq (.run [.o 5 (.load bc true 2), .c 6 kW [bh], .o 7 (.rj bL 0 false 1), .o 8 (.bin .neq bE (.k (.int .i64 0)))]) (.cond b9 Q6W .skip)) (.seq Q7G (.seq (.run [.o 36 (.build [(.int .i64 0),(.int .i64 0)] []), .op none none (.store cQ fA 2)]) .ret))
abbrev Q7L:AC:= .seq (.run [.o 1 (.box aR), .o 2 (.alloc [(.int .i64 0),(.int .i64 0)])]) Q7K
abbrev Q7Q:AC:= .seq (.run [(.o 14 (.build [(.int .i64 0),(.int .i64 0)] [(0,(1,(.k (.int .i64 1))))])), .op none none (.store cQ bK 2)]) .ret
abbrev Q86:AC:= .seq (.run [.o 47 (.au bY 0), .o 48 (.au jO 0), .o 49 (.load iT false 1),(.o 50 (.build [(.int .i64 0),(.int .i64 0)] [(0,(1,(.k (.int .i64 7)))),(1,(1,iU))])), .op none none (.store cQ jP 2)]) .ret
abbrev Q89:AC:= .seq (.run [.m 32 bL, .o 33 (.au bY 0), .o 34 (.au eZ 2), .o 35 (.load fw false 1), .c 36 oN [fe,fq], .m 31 fA, .o 37 (.ext eW 0), .o 38 (.ext eW 1), .m 6 fR, .m 7 gl]) (.seq (.run [.m 39 bE, .o 40 (.un .not ga), .m 41 gJ, .g 42 41 false (.mv bI), .g 43 41 false (.load bY true 17), .d 44 41 false tx [iH,iS], .g 45 41 false (.un .not jx), .o 46 (.pick gK (.k (.bool true)) jM)]) (.cond jN Q86 .skip))
abbrev Q8D:AC:= .seq (.block 3 (.seq (.run [.o 29 (.cu de dS 17), .o 30 (.load eJ true 17), .o 9 (.alloc [(.int .i64 0),(.int .i64 0),(.slice .full 0 []),(.str []),(.str []),(.int .i64 0),(.int .i64 0),(.str []),(.slice .full 0 []),(.bool false),(.slice .full 0 []),(.slice .full 0 []),(.slice .full 0 []),(.int .i64 0),(.int .i64 0),(.int .i64 0),(.int .i64 0)]), .op none none (.store bY fc 17)]) Q89)) (.run [.o 51 (.bin .add dS (.k (.int .i64 1))), .m 27 jQ])
abbrev Q8H:AC:= .block 2 (.loop (.seq (.run [.o 28 (.bin .lss dS ej)]) (.seq (.cond eI .skip (.exit 2)) Q8D)))
abbrev Q8M:AC:= .seq (.run [(.o 61 (.build [(.int .i64 0),(.int .i64 0)] [(0,(1,(.k (.int .i64 7))))])), .op none none (.store cQ pd 2)]) .ret
abbrev Q8Q:AC:= .seq (.seq (.run [.m 23 bI, .m 24 c7, .c 25 gi [dB,dd], .o 26 (.len de), .o 27 (.mv (.k (.int .i64 0)))]) Q8H) (.seq (.run [.m 53 bL, .o 54 (.au bh 4), .o 55 (.load kE false 1), .c 56 oN [ke,kU], .m 52 l6, .o 57 (.ext kd 0), .o 58 (.ext kd 1), .m 7 l7]) (.seq (.run [.m 59 bE, .o 60 (.un .not kF)]) (.cond nX Q8M .skip)))
abbrev Q8S:AC:= .seq (.run [.o 6 (.mv (.k (.slice .full 0 [])))]) (.seq (.run [.o 7 (.mv (.k (.bool true)))]) Q8Q)
abbrev Q8W:AC:= .seq (.block 1 (.seq (.run [.m 20 cH, .o 21 (.cu b6 cH 5), .o 22 (.load dt true 5), .o 5 (.alloc [(.str []),(.slice .full 0 []),(.slice .full 0 []),(.slice .full 0 []),(.slice .full 0 [])]), .m 4 dc, .op none none (.store bh dk 5)]) Q8S)) (.run [.o 62 (.bin .add cH (.k (.int .i64 1))), .m 18 pe])
abbrev Q90:AC:= .block 0 (.loop (.seq (.run [.o 19 (.bin .lss cH cO)]) (.seq (.cond cZ .skip (.exit 0)) Q8W)))
abbrev Q94:AC:= .seq (.seq (.run [.o 15 (.au bc 1), .o 16 (.load cq false 1), .o 17 (.len b6), .o 18 (.mv (.k (.int .i64 0)))]) Q90) (.seq (.run [.o 63 (.build [(.int .i64 0),(.int .i64 0)] []), .op none none (.store cQ pf 2)]) .ret)
abbrev Q96:AC:= .seq (.run [.o 10 (.load bc true 2), .c 11 pZ [bF], .m 3 bU]) (.seq (.seq (.run [.m 12 bI, .o 13 (.DJ false bO (.k .e9))]) (.cond bP Q7Q .skip)) Q94)
abbrev Q97:AC:= .seq (.run [.o 1 (.box aR), .o 2 (.alloc [(.int .i64 0),(.int .i64 0)])]) Q96
abbrev Q9B:AC:= .seq (.run [(.o 12 (.build [(.int .i64 0),(.int .i64 0)] [(0,(1,(.k (.int .i64 1))))])), .op none none (.store cQ bO 2)]) .ret
abbrev Q9J:AC:= .par [.m 21 bI, .o 22 (.au bh 0), .o 23 (.load dk false 1), .o 24 (.load bc true 2), .o 25 (.au bh 0), .o 26 (.load de false 1), .c 27 p6 [dd,ej], .op none none (.wS dt dB dS)] [(3,0),(4,0),(5,0),(6,0),(0,0),(1,0),(2,1),(7,0)]
abbrev Q9N:AC:= .seq (.block 1 (.seq (.run [.o 19 (.cu cq cO 5), .o 20 (.load cZ true 5), .o 5 (.alloc [(.str []),(.slice .full 0 []),(.slice .full 0 []),(.slice .full 0 []),(.slice .full 0 [])]), .op none none (.store bh dc 5)]) Q9J)) (.run [.o 28 (.bin .add cO (.k (.int .i64 1))), .m 17 eI])
abbrev Q9R:AC:= .block 0 (.loop (.seq (.run [.o 18 (.bin .lss cO b6)]) (.seq (.cond cH .skip (.exit 0)) Q9N)))
abbrev Q9Z:AC:= .seq (.run [.o 54 (.au bE 0), .o 55 (.au kE 0), .o 56 (.load kU false 1),(.o 57 (.build [(.int .i64 0),(.int .i64 0)] [(0,(1,(.k (.int .i64 8)))),(1,(1,l6))])), .op none none (.store cQ mF 2)]) .ret
abbrev QA2:AC:= .seq (.run [.o 37 (.cu eZ fq 17), .o 38 (.load fR true 17), .o 7 (.alloc [(.int .i64 0),(.int .i64 0),(.slice .full 0 []),(.str []),(.str []),(.int .i64 0),(.int .i64 0),(.str []),(.slice .full 0 []),(.bool false),(.slice .full 0 []),(.slice .full 0 []),(.slice .full 0 []),(.int .i64 0),(.int .i64 0),(.int .i64 0),(.int .i64 0)]), .op none none (.store bE gl 17)]) (.seq (.run [.o 39 (.au bE 0), .o 40 (.au ga 1), .o 41 (.load gJ false 1), .o 42 (.bin .eql gK (.k (.int .i64 4))), .m 43 iH, .g 44 43 true (.au bE 0), .g 45 43 true (.load jx true 13), .g 46 43 true (.mv bI), .g 47 43 true (.au bE 0), .g 48 43 true (.au jO 4), .g 49 43 true (.load iT false 1), .g 50 43 true (.um jN iU (.slice .full 0 [])), .d 51 43 true qL [jM,jP], .g 52 43 true (.un .not jQ), .o 53 (.pick iS kd (.k (.bool false)))]) (.cond ke Q9Z .skip))
abbrev QA6:AC:= .seq (.cond fA .skip (.exit 2)) (.seq (.block 3 QA2) (.run [.o 58 (.bin .add fq (.k (.int .i64 1))), .m 35 l7]))
abbrev QAA:AC:= .seq (.run [.o 29 (.load bc true 2), .c 30 lf [eJ], .o 31 (.di fc), .o 32 (.au eW 2), .o 33 (.load fe false 1), .o 34 (.len eZ), .o 35 (.mv (.k (.int .i64 0)))]) (.block 2 (.loop (.seq (.run [.o 36 (.bin .lss fq fw)]) QA6)))
abbrev QAE:AC:= .seq (.seq (.run [.o 14 (.au bc 1), .o 15 (.load bK false 1), .o 16 (.len cq), .o 17 (.mv (.k (.int .i64 0)))]) Q9R) (.seq QAA (.seq (.run [.o 59 (.build [(.int .i64 0),(.int .i64 0)] []), .op none none (.store cQ kF 2)]) .ret))
abbrev QAG:AC:= .seq (.seq (.run [.o 8 (.load bc true 2), .c 9 o3 [b9], .o 10 (.rj bY 0 false 1), .o 11 (.bin .neq bF (.k (.int .i64 0)))]) (.cond bU Q9B .skip)) (.seq (.run [.op (some 13) none .sB, .m 3 bP]) QAE)
abbrev QAH:AC:= .seq (.run [.o 1 (.box aR), .o 2 (.alloc [(.int .i64 0),(.int .i64 0)])]) QAG
abbrev QAL:AC:= .par [.o 16 (.build [(.slice .full 0 []),(.slice .full 0 [])] []), .o 17 (.load bh true 2), .op none none (.store cQ b6 2), .op none none (.store bI cO 2)] [(0,0),(2,0),(1,1),(3,0)]
abbrev QAS:AC:= .par [.o 29 (.build [(.slice .full 0 []),(.slice .full 0 [])] []), .m 30 bL, .o 31 (.di fc), .o 32 (.au eW 2), .o 33 (.load fe true 2), .op none none (.store cQ eJ 2), .op none none (.store bI eZ 2)] [(0,0),(5,0),(1,0),(2,0),(3,0),(4,1),(6,0)]
abbrev QAY:AC:= .seq (.seq (.run [.m 23 bL, .o 24 (.di dB), .o 25 (.au dd 2), .o 26 (.au de 0), .o 27 (.load ej false 1), .o 28 (.bin .neq dS (.k (.int .i64 0)))]) (.cond eI (.seq QAS .ret) .skip)) (.seq (.run [.o 34 (.load bE true 2), .c 35 o5 [fw], .o 36 (.build [(.int .i64 0),(.int .i64 0)] []), .op none none (.store cQ fq 2), .op none none (.store bI fA 2)]) .ret)
abbrev QB1:AC:= .seq (.seq (.run [.o 13 (.au bh 0), .o 14 (.load bP false 1), .o 15 (.bin .neq bK (.k (.int .i64 0)))]) (.cond cq (.seq QAL .ret) .skip)) (.seq (.run [.m 18 c7, .o 19 (.build [(.slice .full 0 []),(.int .i64 0),(.int .i64 0),(.int .i64 0),(.int .i64 0)] [(0,(1,cH))]), .o 20 (.box cZ), .m 6 dc]) (.seq (.run [.m 21 bL, .c 22 lz [dt], .o 7 (.alloc [(.slice .full 0 []),(.slice .full 0 [])]), .op none none (.store bE dk 2)]) QAY))
abbrev QB3:AC:= .seq (.run [.o 2 (.alloc [(.slice .full 0 []),(.slice .full 0 [])]), .o 3 (.alloc [(.int .i64 0),(.int .i64 0)])]) (.seq (.run [.m 9 aR, .c 10 yP [bY], .m 8 bF, .o 11 (.ext b9 0), .o 12 (.ext b9 1), .o 5 (.alloc [(.int .i64 0),(.int .i64 0)]), .m 4 bU, .op none none (.store bh bO 2)]) QB1)
abbrev QB8:AC:= .cond b6 (.seq (.run [.o 2 (.mv (.k (.bool false)))]) .ret) .skip
abbrev QBC:AC:= .seq (.seq (.run [.m 3 aR, .o 4 (.kR bI), .o 5 (.bin .lss c7 (.k (.int .i64 1))), .m 6 bh, .g 7 6 false (.mv aR), .g 8 6 false (.kR bE), .g 9 6 false (.bin .gtr b9 (.k (.int .i64 8))), .o 10 (.pick bL (.k (.bool true)) bY), .m 11 bF, .g 12 11 false (.mv aR), .g 13 11 false (.nJ bO (.k (.int .i64 0))), .d 14 11 false nV [bP], .g 15 11 false (.un .not bK), .o 16 (.pick bU (.k (.bool true)) cq)]) QB8) (.seq (.run [.m 17 aR, .c 18 uJ [cO,(.k (.int .i64 0))], .m 19 aR, .o 20 (.kR cZ), .o 21 (.bin .eql cH dc), .m 22 dt, .g 23 22 true (.mv aR), .d 24 22 true sK [dB], .g 25 22 true (.un .not dd), .o 26 (.pick dk de (.k (.bool false))), .m 2 ej]) .ret)
abbrev QBD:AC:= .seq (.run [.o 2 (.mv (.k (.bool false)))]) QBC
abbrev QBK:AC:= .par [.o 26 (.au bY 0), .o 27 (.load ej false 1), .m 28 bc, .m 29 cQ, .c 30 iC [dS,eI,eJ], .o 31 (.au bY 2), .o 32 (.load eW false 1), .m 33 bc, .m 34 cQ, .c 35 jg [fe,eZ,fw], .o 36 (.au bY 4), .o 37 (.load fA false 1), .m 38 bc, .m 39 cQ, .c 40 jg [fR,gl,ga], .o 41 (.au bY 3), .o 42 (.load gK false 1), .m 43 bc, .m 44 cQ, .c 45 ij [iH,iS,jx], .o 46 (.build [(.str []),(.slice .full 0 []),(.slice .full 0 []),(.slice .full 0 []),(.slice .full 0 [])] [(0,(1,fc)),(2,(1,fq)),(4,(1,gJ)),(3,(1,jM))]), .o 10 (.alloc [(.str []),(.slice .full 0 []),(.slice .full 0 []),(.slice .full 0 []),(.slice .full 0 [])]), .op none none (.store bF jN 5)] [(0,0),(1,0),(2,0),(3,0),(4,0),(5,0),(6,1),(7,0),(8,0),(9,0),(10,0),(11,2),(12,0),(13,0),(14,0),(15,0),(16,3),(17,0),(18,0),(19,0),(21,0),(20,0),(22,0)]
abbrev QBP:AC:= .par [.o 54 (.au bF 1), .o 55 (.load kE false 1), .o 56 (.au bO 1), .o 57 (.load l6 false 1), .o 58 (.au bO 0), .o 59 (.load l7 false 1), .m 60 bc, .m 61 cQ, .c 62 iC [kF,nX,pd], .o 63 (.build [(.str []),(.bool false)] [(1,(1,mF)),(0,(1,pe))]), .o 64 (.cG [(.str []),(.bool false)] 2 1 [(0,pf)]), .o 65 (.app 2 24 kU qd), .o 66 (.au bF 1), .op none none (.store tH sb 1)] [(4,0),(5,0),(6,0),(7,0),(8,0),(0,0),(1,1),(2,0),(3,1),(9,0),(10,0),(11,0),(12,0),(13,0)]
abbrev QBT:AC:= .seq (.block 3 (.seq (.run [.o 52 (.cu iT jP 2), .o 53 (.load kd true 2), .o 12 (.alloc [(.str []),(.bool false)]), .op none none (.store bO ke 2)]) QBP)) (.run [.o 67 (.bin .add jP (.k (.int .i64 1))), .m 50 sc])
abbrev QBX:AC:= .block 2 (.loop (.seq (.run [.o 51 (.bin .lss jP iU)]) (.seq (.cond jQ .skip (.exit 2)) QBT)))
abbrev QC0:AC:= .seq (.seq (.run [.o 47 (.au bY 1), .o 48 (.load jO false 1), .o 49 (.len iT), .o 50 (.mv (.k (.int .i64 0)))]) QBX) (.run [.o 68 (.au bE 1), .o 69 (.load sd false 1), .o 70 (.load bF true 5), .o 71 (.cG [(.str []),(.slice .full 0 []),(.slice .full 0 []),(.slice .full 0 []),(.slice .full 0 [])] 5 1 [(0,tJ)]), .o 72 (.app 5 112 vF yS), .o 73 (.au bE 1), .op none none (.store yT xd 1)])
abbrev QC5:AC:= .seq (.block 1 (.seq (.run [.o 24 (.cu dc dk 5), .o 25 (.load dd true 5), .o 9 (.alloc [(.str []),(.slice .full 0 []),(.slice .full 0 []),(.slice .full 0 []),(.slice .full 0 [])]), .op none none (.store bY de 5)]) (.seq QBK QC0))) (.run [.o 74 (.bin .add dk (.k (.int .i64 1))), .m 22 yU])
abbrev QC9:AC:= .block 0 (.loop (.seq (.run [.o 23 (.bin .lss dk dt)]) (.seq (.cond dB .skip (.exit 0)) QC5)))
abbrev QCD:AC:= .seq (.seq (.run [.o 19 (.au bI 1), .o 20 (.load cZ false 1), .o 21 (.len dc), .o 22 (.mv (.k (.int .i64 0)))]) QC9) (.seq (.run [.o 75 (.load bE true 2), .op none none (.store bL yV 2)]) .ret)
abbrev QCF:AC:= .seq (.run [.o 3 (.box aR), .o 6 (.alloc [(.slice .full 0 []),(.slice .full 0 [])])]) (.seq (.run [.o 13 (.au bI 0), .o 14 (.load bP false 1), .m 15 bc, .m 16 cQ, .c 17 jg [bK,cq,b6], .o 18 (.build [(.slice .full 0 []),(.slice .full 0 [])] [(0,(1,cO))]), .o 7 (.alloc [(.slice .full 0 []),(.slice .full 0 [])]), .op none none (.store bE cH 2)]) QCD)
abbrev QCQ:AC:= .seq (.block 1 (.seq (.run [.o 11 (.cu bE bY 5), .o 12 (.load bU true 5), .o 5 (.alloc [(.str []),(.slice .full 0 []),(.slice .full 0 []),(.slice .full 0 []),(.slice .full 0 [])]), .op none none (.store bh bO 5)]) (.run [.m 13 bI, .o 14 (.au bh 3), .o 15 (.load bK false 1), .c 16 jv [cq], .o 17 (.bin .add bP b6), .m 3 cO]))) (.run [.o 18 (.bin .add bY (.k (.int .i64 1))), .m 9 cH])
abbrev QCU:AC:= .block 0 (.loop (.seq (.run [.o 10 (.bin .lss bY b9)]) (.seq (.cond bF .skip (.exit 0)) QCQ)))
abbrev QCY:AC:= .seq (.seq (.run [.o 6 (.au bc 1), .o 7 (.load bL false 1), .o 8 (.len bE), .o 9 (.mv (.k (.int .i64 0)))]) QCU) (.seq (.run [.m 19 bI, .m 2 cZ]) .ret)
abbrev QD0:AC:= .seq (.run [.o 1 (.box aR), .o 2 (.mv (.k (.int .i64 0)))]) (.seq (.run [.o 3 (.mv (.k (.int .i64 0)))]) QCY)
end Go.Abs

/-! Have0 -/

namespace Go.Abs
open Go.Proofs
theorem gb:Has Tryz.prog sv 41 [(6,none)] Q0L:=⟨Tryz.f7,by kernel_rfl,by kernel_rfl⟩
theorem Ak:Has Tryz.prog pX 26 [(0,none)] Q0R:=⟨Tryz.f12,by kernel_rfl,by kernel_rfl⟩
theorem EZ:Has Tryz.prog vw 61 [(2,none)] Q1R:=⟨Tryz.f13,by kernel_rfl,by kernel_rfl⟩
theorem mU:Has Tryz.prog ly 26 [(2,(some (true,2)))] Q2I:=⟨Tryz.f14,by kernel_rfl,by kernel_rfl⟩
theorem E0:Has Tryz.prog vx 7 [(2,none)] Q2M:=⟨Tryz.f16,by kernel_rfl,by kernel_rfl⟩
theorem qM:Has Tryz.prog tt 23 [(2,(some (true,2))),(3,(some (true,2)))] Q33:=⟨Tryz.f19,by kernel_rfl,by kernel_rfl⟩
theorem G6:Has Tryz.prog pY 79 [(2,none)] Q4N:=⟨Tryz.f22,by kernel_rfl,by kernel_rfl⟩
theorem uK:Has Tryz.prog kW 96 [(2,(some (true,2)))] Q6S:=⟨Tryz.f23,by kernel_rfl,by kernel_rfl⟩
theorem uL:Has Tryz.prog o3 37 [(2,(some (true,2)))] Q7L:=⟨Tryz.f24,by kernel_rfl,by kernel_rfl⟩
theorem wb:Has Tryz.prog tu 64 [(2,(some (true,2)))] Q97:=⟨Tryz.f25,by kernel_rfl,by kernel_rfl⟩
theorem uM:Has Tryz.prog rU 60 [(2,(some (true,2)))] QAH:=⟨Tryz.f26,by kernel_rfl,by kernel_rfl⟩
theorem BW:Has Tryz.prog rV 37 [(2,(some (true,2))),(3,(some (true,2)))] QB3:=⟨Tryz.f27,by kernel_rfl,by kernel_rfl⟩
theorem kG:Has Tryz.prog jn 27 [(2,none)] QBD:=⟨Tryz.f28,by kernel_rfl,by kernel_rfl⟩
theorem E1:Has Tryz.prog vy 76 [(6,(some (true,2)))] QCF:=⟨Tryz.f29,by kernel_rfl,by kernel_rfl⟩
theorem Da:Has Tryz.prog tv 20 [(2,none)] QD0:=⟨Tryz.f33,by kernel_rfl,by kernel_rfl⟩
end Go.Abs

/-! Codes1 -/

namespace Go.Abs
abbrev QD2:AC:= .run [.o 0 (.mv (.k (.str [103,108,111,98,97,108,32,103,59,10,112,114,111,99,32,109,97,105,110,40,41,32,123,10,32,118,97,114,32,118,59,10,32,118,32,61,32,50,59,10,32,103,32,61,32,112,40,51,44,32,114,101,102,32,118,41,59,10,32,112,114,105,110,116,32,118,59,10,32,112,114,105,110,116,32,103,59,10,125,10,112,114,111,99,32,112,40,120,44,32,114,101,102,32,121,41,32,123,10,32,121,32,61,32,121,32,43,32,120,59,10,32,105,102,32,40,121,32,62,32,57,41,32,123,10,32,32,103,111,116,111,32,101,59,10,32,125,10,32,114,101,116,117,114,110,32,121,59,10,101,58,32,125,10])))]
abbrev QD4:AC:= .seq (.run [.o 0 (.mv (.k (.str [])))]) (.seq QD2 .ret)
abbrev QD6:AC:= .run [(.o 3 (.cG [(.str [])] 1 1 [(0,(.k (.str [118])))])), .c 4 p7 [(.k (.int .i64 2))],(.o 5 (.build [(.int .i64 0),(.int .i64 0),(.slice .full 0 []),(.str []),(.str []),(.int .i64 0),(.int .i64 0),(.str []),(.slice .full 0 []),(.bool false),(.slice .full 0 []),(.slice .full 0 []),(.slice .full 0 [])] [(0,(1,(.k (.int .i64 1)))),(1,(1,(.k (.int .i64 1)))),(3,(1,(.k (.str [118])))),(5,(4,c7))])), .c 6 p7 [(.k (.int .i64 3))], .o 7 (.build [(.bool false),(.str []),(.int .i64 0),(.int .i64 0),(.str []),(.slice .full 0 [])] [(2,(4,bL))]),(.o 8 (.build [(.bool false),(.str []),(.int .i64 0),(.int .i64 0),(.str []),(.slice .full 0 [])] [(0,(1,(.k (.bool true)))),(1,(1,(.k (.str [118]))))])), .o 9 (.cG [(.bool false),(.str []),(.int .i64 0),(.int .i64 0),(.str []),(.slice .full 0 [])] 6 2 [(0,bE),(1,b9)]),(.o 10 (.build [(.int .i64 0),(.int .i64 0),(.slice .full 0 []),(.str []),(.str []),(.int .i64 0),(.int .i64 0),(.str []),(.slice .full 0 []),(.bool false),(.slice .full 0 []),(.slice .full 0 []),(.slice .full 0 [])] [(0,(1,(.k (.int .i64 2)))),(1,(1,(.k (.int .i64 4)))),(3,(1,(.k (.str [103])))),(4,(1,(.k (.str [112])))),(10,(1,bY))])),(.c 11 km [(.k (.str [118]))]),(.o 12 (.build [(.int .i64 0),(.int .i64 0),(.slice .full 0 []),(.str []),(.str []),(.int .i64 0),(.int .i64 0),(.str []),(.slice .full 0 []),(.bool false),(.slice .full 0 []),(.slice .full 0 []),(.slice .full 0 [])] [(0,(1,(.k (.int .i64 3)))),(1,(1,(.k (.int .i64 3)))),(5,(4,bU))])),(.c 13 km [(.k (.str [103]))]),(.o 14 (.build [(.int .i64 0),(.int .i64 0),(.slice .full 0 []),(.str []),(.str []),(.int .i64 0),(.int .i64 0),(.str []),(.slice .full 0 []),(.bool false),(.slice .full 0 []),(.slice .full 0 []),(.slice .full 0 [])] [(0,(1,(.k (.int .i64 4)))),(1,(1,(.k (.int .i64 3)))),(5,(4,bP))])), .o 15 (.cG [(.int .i64 0),(.int .i64 0),(.slice .full 0 []),(.str []),(.str []),(.int .i64 0),(.int .i64 0),(.str []),(.slice .full 0 []),(.bool false),(.slice .full 0 []),(.slice .full 0 []),(.slice .full 0 [])] 13 4 [(0,bh),(1,bF),(2,bO),(3,bK)]),(.o 16 (.build [(.str []),(.slice .full 0 []),(.slice .full 0 []),(.slice .full 0 []),(.slice .full 0 [])] [(0,(1,(.k (.str [109,97,105,110])))),(2,(1,bI)),(3,(1,cq))])), .o 1 (.alloc [(.str []),(.slice .full 0 []),(.slice .full 0 []),(.slice .full 0 []),(.slice .full 0 [])]), .op none none (.store bc b6 5)]
abbrev QD7:AC:= .run [(.o 17 (.build [(.str []),(.bool false)] [(0,(1,(.k (.str [120]))))])),(.o 18 (.build [(.str []),(.bool false)] [(0,(1,(.k (.str [121])))),(1,(1,(.k (.bool true))))])), .o 19 (.cG [(.str []),(.bool false)] 2 2 [(0,cO),(1,cH)]),(.o 20 (.cG [(.str [])] 1 1 [(0,(.k (.str [101])))])),(.c 21 km [(.k (.str [121]))]),(.c 22 km [(.k (.str [120]))]), .c 23 sL [(.k (.int .i64 8)),dt,dk],(.o 24 (.build [(.int .i64 0),(.int .i64 0),(.slice .full 0 []),(.str []),(.str []),(.int .i64 0),(.int .i64 0),(.str []),(.slice .full 0 []),(.bool false),(.slice .full 0 []),(.slice .full 0 []),(.slice .full 0 [])] [(0,(1,(.k (.int .i64 5)))),(1,(1,(.k (.int .i64 1)))),(3,(1,(.k (.str [121])))),(5,(4,dB))])),(.c 25 km [(.k (.str [121]))]), .c 26 p7 [(.k (.int .i64 9))], .c 27 sL [(.k (.int .i64 12)),de,ej],(.o 28 (.build [(.int .i64 0),(.int .i64 0),(.slice .full 0 []),(.str []),(.str []),(.int .i64 0),(.int .i64 0),(.str []),(.slice .full 0 []),(.bool false),(.slice .full 0 []),(.slice .full 0 []),(.slice .full 0 [])] [(0,(1,(.k (.int .i64 7)))),(1,(1,(.k (.int .i64 10)))),(3,(1,(.k (.str [101]))))])), .o 29 (.cG [(.int .i64 0),(.int .i64 0),(.slice .full 0 []),(.str []),(.str []),(.int .i64 0),(.int .i64 0),(.str []),(.slice .full 0 []),(.bool false),(.slice .full 0 []),(.slice .full 0 []),(.slice .full 0 [])] 13 1 [(0,eI)]),(.o 30 (.build [(.int .i64 0),(.int .i64 0),(.slice .full 0 []),(.str []),(.str []),(.int .i64 0),(.int .i64 0),(.str []),(.slice .full 0 []),(.bool false),(.slice .full 0 []),(.slice .full 0 []),(.slice .full 0 [])] [(0,(1,(.k (.int .i64 6)))),(1,(1,(.k (.int .i64 5)))),(5,(4,dS)),(11,(1,eJ))])),(.c 31 km [(.k (.str [121]))]),(.o 32 (.build [(.int .i64 0),(.int .i64 0),(.slice .full 0 []),(.str []),(.str []),(.int .i64 0),(.int .i64 0),(.str []),(.slice .full 0 []),(.bool false),(.slice .full 0 []),(.slice .full 0 []),(.slice .full 0 [])] [(0,(1,(.k (.int .i64 8)))),(1,(1,(.k (.int .i64 9)))),(9,(1,(.k (.bool true)))),(5,(4,eW))])), .o 33 (.cG [(.int .i64 0),(.int .i64 0),(.slice .full 0 []),(.str []),(.str []),(.int .i64 0),(.int .i64 0),(.str []),(.slice .full 0 []),(.bool false),(.slice .full 0 []),(.slice .full 0 []),(.slice .full 0 [])] 13 3 [(0,dd),(1,fc),(2,fe)]),(.o 34 (.build [(.str []),(.slice .full 0 []),(.slice .full 0 []),(.slice .full 0 []),(.slice .full 0 [])] [(0,(1,(.k (.str [112])))),(1,(1,cZ)),(4,(1,dc)),(3,(1,eZ))])), .o 2 (.alloc [(.str []),(.slice .full 0 []),(.slice .full 0 []),(.slice .full 0 []),(.slice .full 0 [])]), .op none none (.store cQ fw 5)]
abbrev QD9:AC:= .seq (.run [(.o 35 (.cG [(.str [])] 1 1 [(0,(.k (.str [103])))])), .o 36 (.load bc true 5), .o 37 (.load cQ true 5), .o 38 (.cG [(.str []),(.slice .full 0 []),(.slice .full 0 []),(.slice .full 0 []),(.slice .full 0 [])] 5 2 [(0,fA),(1,fR)]), .o 39 (.build [(.slice .full 0 []),(.slice .full 0 [])] [(0,(1,fq)),(1,(1,gl))]), .op none none (.store aR ga 2)]) .ret
abbrev QDC:AC:= .seq (.run [.o 0 (.alloc [(.slice .full 0 []),(.slice .full 0 [])])]) (.seq QD6 (.seq QD7 QD9))
abbrev QDM:AC:= .seq (.seq (.run [.m 6 bh, .m 7 aR, .o 8 (.len bE), .o 9 (.bin .lss bL b9), .m 10 bY, .g 11 10 true (.mv bc), .g 12 10 true (.bin .leq bU (.k (.int .i64 20000))), .o 13 (.pick bF bO (.k (.bool false)))]) (.cond bP .skip (.exit 0))) (.seq (.block 1 (.run [.m 16 aR, .m 17 bh, .o 18 (.cu b6 cO 1), .o 19 (.load cH false 1), .m 20 bc, .c 21 fP [cZ,dc], .m 1 dt])) (.run [.m 14 bh, .o 15 (.bin .add bK (.k (.int .i64 1))), .m 5 cq]))
abbrev QDS:AC:= .seq (.seq (.run [.o 5 (.mv (.k (.int .i64 0)))]) (.block 0 (.loop QDM))) (.seq (.run [.m 22 bc, .m 4 dk]) .ret)
abbrev QDT:AC:= .seq (.run [.o 4 (.mv (.k (.int .i64 0)))]) QDS
abbrev QDY:AC:= .cond bP (.seq (.run [.o 4 (.mv (.k (.int .i64 20001)))]) .ret) .skip
abbrev QE2:AC:= .seq (.seq (.run [.m 5 bc, .o 6 (.bin .gtr bh (.k (.int .i64 20000))), .m 7 bL, .g 8 7 false (.mv aR), .g 9 7 false (.kR b9), .g 10 7 false (.mv bc), .g 11 7 false (.bin .sub (.k (.int .i64 20000)) bF), .g 12 7 false (.bin .geq bY bU), .o 13 (.pick bE (.k (.bool true)) bO)]) QDY) (.seq (.run [.m 14 bc, .o 15 (.bin .add bK (.k (.int .i64 1))), .m 16 aR, .o 17 (.kR b6), .o 18 (.bin .add cq cO), .m 4 cH]) .ret)
abbrev QE3:AC:= .seq (.run [.o 4 (.mv (.k (.int .i64 0)))]) QE2
abbrev QEA:AC:= .par [.o 22 (.au bL 4), .o 23 (.load dk false 1), .o 24 (.au bL 3), .o 25 (.load dd false 1), .o 26 (.au bL 2), .o 27 (.load ej false 1), .o 28 (.au bL 5), .o 29 (.load eI true 4), .m 30 bc, .c 31 jh [eJ,fc], .c 32 iL [dS,eW], .c 33 fP [de,fe], .c 34 fP [dB,eZ], .m 1 fw] [(6,0),(7,0),(8,0),(9,0),(4,0),(5,1),(10,0),(2,0),(3,2),(11,0),(0,0),(1,3),(12,0),(13,0)]
abbrev QEF:AC:= .par [.o 46 (.au bL 10), .o 47 (.load jN false 1), .m 48 bE, .o 49 (.cu jO iT 6), .o 50 (.au iU 1), .o 51 (.load jP false 1), .o 52 (.au bL 10), .o 53 (.load kd false 1), .m 54 bE, .o 55 (.cu ke kE 6), .o 56 (.au kU 2), .o 57 (.load l6 true 4), .m 58 bc, .c 59 jh [mF,l7], .c 60 fP [jQ,kF], .m 1 nX] [(6,0),(7,0),(8,0),(9,0),(10,0),(11,0),(12,0),(13,0),(0,0),(1,1),(2,0),(3,0),(4,0),(5,1),(14,0),(15,0)]
abbrev QEJ:AC:= .seq (.seq (.run [.m 35 bE, .o 36 (.au bL 10), .o 37 (.load fA false 1), .o 38 (.len fR), .o 39 (.bin .lss fq gl), .m 40 ga, .g 41 40 true (.mv bc), .g 42 40 true (.bin .leq gK (.k (.int .i64 20000))), .o 43 (.pick gJ iH (.k (.bool false)))]) (.cond iS .skip (.exit 2))) (.seq (.block 3 QEF) (.run [.m 44 bE, .o 45 (.bin .add jx (.k (.int .i64 1))), .m 7 jM]))
abbrev QEN:AC:= .par [.o 61 (.au bL 12), .o 62 (.load pd false 1), .o 63 (.au bL 11), .o 64 (.load pf false 1), .m 65 bc, .c 66 jU [qd,sb], .c 67 jU [pe,tH], .m 1 sc] [(2,0),(3,0),(4,0),(5,0),(0,0),(1,1),(6,0),(7,0)]
abbrev QEO:AC:= .seq (.seq (.run [.o 7 (.mv (.k (.int .i64 0)))]) (.block 2 (.loop QEJ))) QEN
abbrev QET:AC:= .seq (.block 1 (.seq (.run [.m 18 aR, .m 19 bh, .o 20 (.cu cH cZ 13), .o 21 (.load dc true 13), .o 6 (.alloc [(.int .i64 0),(.int .i64 0),(.slice .full 0 []),(.str []),(.str []),(.int .i64 0),(.int .i64 0),(.str []),(.slice .full 0 []),(.bool false),(.slice .full 0 []),(.slice .full 0 []),(.slice .full 0 [])]), .op none none (.store bL dt 13)]) (.seq QEA QEO))) (.run [.m 16 bh, .o 17 (.bin .add b6 (.k (.int .i64 1))), .m 5 cO])
abbrev QEU:AC:= .seq (.seq (.run [.m 8 bh, .m 9 aR, .o 10 (.len bY), .o 11 (.bin .lss b9 bF), .m 12 bU, .g 13 12 true (.mv bc), .g 14 12 true (.bin .leq bP (.k (.int .i64 20000))), .o 15 (.pick bO bK (.k (.bool false)))]) (.cond cq .skip (.exit 0))) QET
abbrev QF0:AC:= .seq (.seq (.run [.o 5 (.mv (.k (.int .i64 0)))]) (.block 0 (.loop QEU))) (.seq (.run [.m 68 bc, .m 4 sd]) .ret)
abbrev QF1:AC:= .seq (.run [.o 4 (.mv (.k (.int .i64 0)))]) QF0
abbrev QFA:AC:= .cond bP (.seq (.run [.o 2 (.mv (.k (.bool false)))]) .ret) .skip
abbrev QFF:AC:= .seq (.block 1 (.seq (.run [.o 9 (.cu bh bE 1), .o 10 (.load bY false 1), .m 4 bF]) (.seq (.run [.m 11 c7, .c 12 jn [bU], .o 13 (.un .not bO)]) QFA))) (.run [.o 14 (.bin .add bE (.k (.int .i64 1))), .m 7 bK])
abbrev QFJ:AC:= .block 0 (.loop (.seq (.run [.o 8 (.bin .lss bE bL)]) (.seq (.cond b9 .skip (.exit 0)) QFF)))
abbrev QFN:AC:= .seq (.seq (.run [.m 5 aR, .o 6 (.len bh), .o 7 (.mv (.k (.int .i64 0)))]) QFJ) (.seq (.run [.o 2 (.mv (.k (.bool true)))]) .ret)
abbrev QFO:AC:= .seq (.run [.o 2 (.mv (.k (.bool false)))]) QFN
abbrev QFT:AC:= .cond cq (.seq (.run [.o 6 (.mv (.k (.bool false)))]) .ret) .skip
abbrev QG0:AC:= .par [.m 29 aR, .o 30 (.di eJ), .o 31 (.au fc 0), .o 32 (.load eW false 1), .o 33 (.bin .gtr fe (.k (.int .i64 200))), .m 34 eZ, .g 35 34 false (.au b9 0), .g 36 34 false (.load fq false 1), .g 37 34 false (.mv aR), .g 38 34 false (.di fR), .g 39 34 false (.au gl 0), .g 40 34 false (.load ga false 1), .g 41 34 false (.bin .neq fA gJ), .o 42 (.pick fw (.k (.bool true)) gK), .m 43 iH, .g 44 43 false (.au b9 2), .g 45 43 false (.load jx false 1), .d 46 43 false lX [jM], .g 47 43 false (.un .not jN), .o 48 (.pick iS (.k (.bool true)) jO), .m 49 iT, .g 50 49 false (.load b9 true 13), .d 51 49 false rX [jP], .g 52 49 false (.un .not jQ), .o 53 (.pick iU (.k (.bool true)) kd)] [(0,0),(1,0),(2,0),(3,0),(4,0),(5,0),(6,0),(7,0),(8,0),(9,0),(10,0),(11,0),(12,0),(13,0),(14,0),(15,0),(16,0),(17,0),(18,0),(19,0),(20,0),(21,0),(22,0),(23,0),(24,0)]
abbrev QG3:AC:= .cond ke (.seq (.run [.o 6 (.mv (.k (.bool false)))]) .ret) .skip
abbrev QG8:AC:= .cond vF (.seq (.run [.o 6 (.mv (.k (.bool false)))]) .ret) .skip
abbrev QGA:AC:= .seq (.seq QG0 QG3) (.seq (.run [.m 54 aR, .o 55 (.au b9 11), .o 56 (.load kU false 1), .m 57 cQ, .o 58 (.bin .add mF (.k (.int .i64 1))), .c 59 ju [kE,l6,l7], .o 60 (.un .not kF), .m 61 nX, .g 62 61 false (.mv aR), .g 63 61 false (.au b9 12), .g 64 61 false (.load pf false 1), .g 65 61 false (.mv cQ), .g 66 61 false (.bin .add sb (.k (.int .i64 1))), .d 67 61 false ju [pe,qd,tH], .g 68 61 false (.un .not sc), .o 69 (.pick pd (.k (.bool true)) sd)]) QG8)
abbrev QGC:AC:= .seq (.run [.o 20 (.cu b6 cH 13), .o 21 (.load dc true 13), .o 8 (.alloc [(.int .i64 0),(.int .i64 0),(.slice .full 0 []),(.str []),(.str []),(.int .i64 0),(.int .i64 0),(.str []),(.slice .full 0 []),(.bool false),(.slice .full 0 []),(.slice .full 0 []),(.slice .full 0 [])]), .op none none (.store b9 dt 13)]) (.seq (.run [.m 22 aR, .o 23 (.di dk), .o 24 (.au dB 0), .o 25 (.load dd false 1), .o 26 (.bin .add de (.k (.int .i64 1))), .o 27 (.di dk), .o 28 (.au dS 0), .op none none (.store eI ej 1)]) QGA)
abbrev QGG:AC:= .seq (.cond cZ .skip (.exit 0)) (.seq (.block 1 QGC) (.run [.o 70 (.bin .add cH (.k (.int .i64 1))), .m 18 tJ]))
abbrev QGK:AC:= .seq (.run [.m 16 bc, .o 17 (.len b6), .o 18 (.mv (.k (.int .i64 0)))]) (.block 0 (.loop (.seq (.run [.o 19 (.bin .lss cH cO)]) QGG)))
abbrev QGN:AC:= .seq QGK (.seq (.run [.o 6 (.mv (.k (.bool true)))]) .ret)
abbrev QGO:AC:= .seq (.seq (.run [.m 9 cQ, .o 10 (.bin .gtr bY (.k (.int .i64 12))), .m 11 bF, .g 12 11 true (.mv bc), .g 13 11 true (.len bO), .g 14 11 true (.bin .gtr bP (.k (.int .i64 0))), .o 15 (.pick bU bK (.k (.bool false)))]) QFT) QGN
abbrev QGP:AC:= .seq (.run [.o 6 (.mv (.k (.bool false)))]) QGO
abbrev QH1:AC:= .block 1 (.seq (.run [.m 10 b9, .m 5 bF]) (.seq (.run [.m 11 bc, .m 12 aR, .m 13 bh, .o 14 (.cu bO bP 1), .o 15 (.load bK false 1), .o 16 (.bin .eql bU cq)]) (.cond b6 (.seq (.run [.m 17 bh, .m 4 cO]) .ret) .skip)))
abbrev QH4:AC:= .seq (.cond bY .skip (.exit 0)) (.seq QH1 (.run [.o 18 (.bin .add b9 (.k (.int .i64 1))), .m 8 cH]))
abbrev QH8:AC:= .seq (.run [.m 6 aR, .o 7 (.len bL), .o 8 (.mv (.k (.int .i64 0)))]) (.block 0 (.loop (.seq (.run [.o 9 (.bin .lss b9 bE)]) QH4)))
abbrev QHA:AC:= .seq (.run [(.o 4 (.mv (.k (.int .i64 (-1)))))]) .ret
abbrev QHC:AC:= .seq (.run [.o 4 (.mv (.k (.int .i64 0)))]) (.seq QH8 QHA)
abbrev QHL:AC:= .cond b6 (.seq (.run [.o 2 (.mv (.k (.bool true)))]) .ret) .skip
abbrev QHO:AC:= .block 1 (.seq (.run [.m 9 bE, .o 10 (.cu bh bE 1), .o 11 (.load bF false 1), .m 3 bY, .m 4 bU]) (.seq (.run [.m 12 aR, .m 13 bI, .o 14 (.FJ 1 bO none (some bP)), .m 15 c7, .c 16 bX [bK,cq]]) QHL))
abbrev QHR:AC:= .seq (.cond b9 .skip (.exit 0)) (.seq QHO (.run [.o 17 (.bin .add bE (.k (.int .i64 1))), .m 7 cO]))
abbrev QHV:AC:= .seq (.run [.m 5 aR, .o 6 (.len bh), .o 7 (.mv (.k (.int .i64 0)))]) (.block 0 (.loop (.seq (.run [.o 8 (.bin .lss bE bL)]) QHR)))
abbrev QHY:AC:= .seq QHV (.seq (.run [.o 2 (.mv (.k (.bool false)))]) .ret)
abbrev QHZ:AC:= .seq (.run [.o 2 (.mv (.k (.bool false)))]) QHY
abbrev QI6:AC:= .par [.m 17 bI, .m 18 bI, .o 19 (.di cH), .o 20 (.au cZ 3), .o 21 (.load dc false 1), .m 22 bI, .o 23 (.di dk), .o 24 (.au dB 2), .o 25 (.load dd false 1), .o 26 (.len de), .o 27 (.bin .add ej (.k (.int .i64 1))), .o 28 (.cG [(.int .i64 0)] 1 1 [(0,dS)]), .o 29 (.app 1 8 dt eI), .o 30 (.di cO), .o 31 (.au fc 3), .op none none (.store eW eJ 1)] [(1,0),(2,0),(3,0),(4,0),(5,0),(6,0),(7,0),(8,0),(9,0),(10,0),(11,0),(12,0),(0,0),(13,0),(14,0),(15,0)]
abbrev QI8:AC:= .par [.m 38 bI, .m 39 bI, .o 40 (.di ga), .o 41 (.au gJ 4), .o 42 (.load gK false 1), .m 43 bI, .o 44 (.di iS), .o 45 (.au jx 2), .o 46 (.load jM false 1), .o 47 (.len jN), .o 48 (.bin .add jO (.k (.int .i64 1))), .o 49 (.cG [(.int .i64 0)] 1 1 [(0,iT)]), .o 50 (.app 1 8 iH iU), .o 51 (.di gl), .o 52 (.au jQ 4), .op none none (.store kd jP 1)] [(1,0),(2,0),(3,0),(4,0),(5,0),(6,0),(7,0),(8,0),(9,0),(10,0),(11,0),(12,0),(0,0),(13,0),(14,0),(15,0)]
abbrev QI9:AC:= .seq (.run [.m 32 bI, .o 33 (.au bh 3), .o 34 (.load eZ false 1), .m 35 c7,(.o 36 (.build [(.int .i64 0),(.int .i64 0),(.slice .full 0 []),(.str []),(.str []),(.int .i64 0),(.int .i64 0),(.str []),(.slice .full 0 []),(.bool false),(.slice .full 0 []),(.slice .full 0 []),(.slice .full 0 []),(.int .i64 0),(.int .i64 0),(.int .i64 0),(.int .i64 0)] [(13,(1,fq)),(15,(1,(.k (.int .i64 (-1)))))])), .c 37 ji [fe,fw,fA]]) QI8
abbrev QIE:AC:= .seq (.block 1 (.seq (.run [.m 14 bO, .o 15 (.cu bF bO 5), .o 16 (.load cq true 5), .o 5 (.alloc [(.str []),(.slice .full 0 []),(.slice .full 0 []),(.slice .full 0 []),(.slice .full 0 [])]), .m 4 bK, .op none none (.store bh b6 5)]) (.seq QI6 QI9))) (.run [.o 53 (.bin .add bO (.k (.int .i64 1))), .m 12 ke])
abbrev QII:AC:= .block 0 (.loop (.seq (.run [.o 13 (.bin .lss bO bU)]) (.seq (.cond bP .skip (.exit 0)) QIE)))
abbrev QIM:AC:= .seq (.seq (.run [.o 9 (.au bc 1), .o 10 (.load bY false 1), .o 11 (.len bF), .o 12 (.mv (.k (.int .i64 0)))]) QII) (.seq (.run [.m 54 bI, .m 2 kE]) .ret)
abbrev QIO:AC:= .seq (.run [.o 1 (.box aR), .o 2 (.mv (.k .e9))]) (.seq (.run [.o 6 (.load bc true 2), .o 7 (.build [(.slice .full 0 []),(.slice .full 0 []),(.slice .full 0 []),(.slice .full 0 []),(.slice .full 0 [])] [(0,(2,bL))]), .o 8 (.box bE), .m 3 b9]) QIM)
abbrev QIZ:AC:= .seq (.block 1 (.seq (.run [.o 11 (.cu bE bY 2), .o 12 (.load bU true 2), .o 5 (.alloc [(.str []),(.bool false)]), .op none none (.store bh bO 2)]) (.run [.m 13 bI, .o 14 (.au bh 0), .o 15 (.load bK false 1), .o 16 (.cG [(.str [])] 1 1 [(0,cq)]), .o 17 (.app 1 16 bP b6), .m 3 cO]))) (.run [.o 18 (.bin .add bY (.k (.int .i64 1))), .m 9 cH])
abbrev QJ3:AC:= .block 0 (.loop (.seq (.run [.o 10 (.bin .lss bY b9)]) (.seq (.cond bF .skip (.exit 0)) QIZ)))
abbrev QJ7:AC:= .seq (.seq (.run [.o 6 (.au bc 1), .o 7 (.load bL false 1), .o 8 (.len bE), .o 9 (.mv (.k (.int .i64 0)))]) QJ3) (.seq (.run [.m 19 bI, .o 20 (.au bc 2), .o 21 (.load dc false 1), .o 22 (.app 1 16 cZ dt), .m 2 dk]) .ret)
abbrev QJ9:AC:= .seq (.run [.o 1 (.box aR), .o 2 (.mv (.k (.slice .full 0 [])))]) (.seq (.run [.o 3 (.mv (.k (.slice .full 0 [])))]) QJ7)
abbrev QJD:AC:= .seq (.run [.o 4 (.mv (.k (.bool false)))]) (.seq (.run [.m 5 aR, .m 6 bc, .c 7 kc [bh,bL], .o 8 (.bin .geq bE (.k (.int .i64 0))), .m 4 b9]) .ret)
abbrev QJH:AC:= .seq (.run [.o 3 (.mv (.k (.bool false)))]) (.seq (.run [.o 4 (.au bc 0), .o 5 (.load c7 false 1), .m 6 aR, .c 7 bX [bh,bL], .m 3 bE]) .ret)
abbrev QJL:AC:= .seq (.run [.o 4 (.mv (.k (.bool false)))]) (.seq (.run [.m 5 aR, .m 6 bc, .c 7 im [bh,bL], .o 8 (.bin .geq bE (.k (.int .i64 0))), .m 4 b9]) .ret)
abbrev QJN:AC:= .par [.m 5 aR, .o 6 (.di bh), .o 7 (.au bL 2), .o 8 (.load bE false 1), .m 9 aR, .o 10 (.di bY), .o 11 (.au bF 3), .o 12 (.load bU false 1), .m 13 bc, .o 14 (.cu bO bP 1), .o 15 (.load bK false 1), .o 16 (.bin .sub cq (.k (.int .i64 1))), .m 17 aR, .o 18 (.di cO), .o 19 (.au cH 4), .o 20 (.load cZ false 1), .m 21 bc, .o 22 (.cu dc dt 1), .o 23 (.load dk false 1), .o 24 (.bin .sub dB (.k (.int .i64 1))), .o 25 (.FJ 17 b9 (some b6) (some dd)), .m 4 de] [(0,0),(1,0),(2,0),(3,0),(4,0),(5,0),(6,0),(7,0),(8,0),(9,0),(10,0),(11,0),(12,0),(13,0),(14,0),(15,0),(16,0),(17,0),(18,0),(19,0),(20,0),(21,0)]
abbrev QJP:AC:= .seq (.run [.o 4 (.mv (.k (.slice .full 0 [])))]) (.seq QJN .ret)
abbrev QJY:AC:= .cond dk (.seq (.run [.o 8 (.mv (.k (.bool false)))]) .ret) .skip
abbrev QK0:AC:= .seq (.run [.o 16 (.cu bO bK 1), .o 17 (.load b6 false 1), .m 10 cO]) (.seq (.run [.o 18 (.load c7 true 2), .o 19 (.load bh true 5), .m 20 bF, .c 21 tz [cH,cZ,dc], .o 22 (.bin .eql dt (.k (.int .i64 0)))]) QJY)
abbrev QK4:AC:= .seq (.cond cq .skip (.exit 0)) (.seq (.block 1 QK0) (.run [.o 23 (.bin .add bK (.k (.int .i64 1))), .m 14 dB]))
abbrev QK8:AC:= .seq (.run [.o 11 (.load bE true 13), .c 12 p8 [bU], .o 13 (.len bO), .o 14 (.mv (.k (.int .i64 0)))]) (.block 0 (.loop (.seq (.run [.o 15 (.bin .lss bK bP)]) QK4)))
abbrev QKB:AC:= .seq QK8 (.seq (.run [.o 24 (.au bE 1), .o 25 (.load dd false 1), .o 26 (.bin .neq de (.k (.int .i64 4))), .m 27 ej, .g 28 27 false (.au bE 4), .g 29 27 false (.load eI false 1), .g 30 27 false (.bin .neq eJ (.k (.str [109,97,105,110]))), .g 31 27 false (.mv fc), .g 32 31 true (.mv cQ), .g 33 31 true (.au bE 4), .g 34 31 true (.load eZ false 1), .d 35 31 true bX [fe,fw], .g 36 27 false (.pick eW fq (.k (.bool false))), .o 37 (.pick dS (.k (.bool true)) fA), .m 8 fR]) .ret)
abbrev QKC:AC:= .seq (.run [.o 4 (.box aR), .o 5 (.box bc), .o 7 (.box bI), .o 8 (.mv (.k (.bool false)))]) QKB
abbrev QKH:AC:= .cond bY (.seq (.run [.o 4 (.mv (.k (.bool false)))]) .ret) .skip
abbrev QKS:AC:= .seq (.run [.o 15 (.cu bU bP 5), .o 16 (.load cq true 5), .o 6 (.alloc [(.str []),(.slice .full 0 []),(.slice .full 0 []),(.slice .full 0 []),(.slice .full 0 [])]), .op none none (.store bL b6 5)]) (.seq (.run [.o 17 (.au bL 0), .o 18 (.load cO false 1), .o 19 (.au bI 4), .o 20 (.load cZ false 1), .o 21 (.bin .eql cH dc)]) (.cond dt (.seq (.run [.o 22 (.au bL 1), .o 23 (.load dk false 1), .o 24 (.au bI 10), .o 25 (.load dd false 1), .c 26 tA [dB,de], .m 4 ej]) .ret) .skip))
abbrev QKW:AC:= .seq (.cond bK .skip (.exit 0)) (.seq (.block 1 QKS) (.run [.o 27 (.bin .add bP (.k (.int .i64 1))), .m 13 dS]))
abbrev QL0:AC:= .seq (.run [.o 10 (.au cQ 1), .o 11 (.load bF false 1), .o 12 (.len bU), .o 13 (.mv (.k (.int .i64 0)))]) (.block 0 (.loop (.seq (.run [.o 14 (.bin .lss bP bO)]) QKW)))
abbrev QL3:AC:= .seq QL0 (.seq (.run [.o 4 (.mv (.k (.bool false)))]) .ret)
abbrev QL4:AC:= .seq (.seq (.run [.o 7 (.au bI 1), .o 8 (.load bE false 1), .o 9 (.bin .neq b9 (.k (.int .i64 4)))]) QKH) QL3
abbrev QL5:AC:= .seq (.run [.o 2 (.box aR), .o 3 (.box bc), .o 4 (.mv (.k (.bool false)))]) QL4
abbrev QLB:AC:= .seq (.run [.o 3 (.load bc true 2), .c 4 kW [bI], .o 5 (.rj c7 0 false 1), .o 6 (.bin .neq bh (.k (.int .i64 0)))]) (.cond bL (.seq (.run [.o 2 (.mv (.k .e9))]) .ret) .skip)
abbrev QLF:AC:= .seq (.run [.o 1 (.box aR), .o 2 (.mv (.k .e9))]) (.seq QLB (.seq (.run [.o 7 (.load bc true 2), .c 8 lf [bE], .m 2 b9]) .ret))
abbrev QLO:AC:= .cond b6 (.seq (.run [.m 17 aR, .m 4 cO, .o 5 (.mv (.k (.bool false)))]) .ret) .skip
abbrev QLT:AC:= .block 1 (.seq (.run [.o 12 (.cu b9 bF 1), .o 13 (.load bO false 1), .m 7 bP]) (.seq (.seq (.run [.m 14 aR, .m 15 bE, .c 16 bX [bK,cq]]) QLO) (.run [.m 18 aR, .m 19 bE, .o 20 (.cG [(.str [])] 1 1 [(0,cZ)]), .o 21 (.app 1 16 cH dc), .m 0 dt])))
abbrev QLW:AC:= .seq (.cond bU .skip (.exit 0)) (.seq QLT (.run [.o 22 (.bin .add bF (.k (.int .i64 1))), .m 10 dk]))
abbrev QM0:AC:= .seq (.run [.m 8 bc, .o 9 (.len b9), .o 10 (.mv (.k (.int .i64 0)))]) (.block 0 (.loop (.seq (.run [.o 11 (.bin .lss bF bY)]) QLW)))
abbrev QM3:AC:= .seq QM0 (.seq (.run [.m 23 aR, .m 4 dB, .o 5 (.mv (.k (.bool true)))]) .ret)
abbrev QM4:AC:= .seq (.run [.o 4 (.mv (.k (.slice .full 0 []))), .o 5 (.mv (.k (.bool false)))]) QM3
abbrev QMA:AC:= .seq (.run [.o 11 (.bin .eql bY (.k (.int .i64 7))), .m 10 bU]) (.cond bF .skip (.run [.o 12 (.bin .eql bY (.k (.int .i64 8))), .m 10 bO]))
abbrev QMK:AC:= .cond bF (.seq (.run [.o 13 (.au bI 16), .o 14 (.load bP false 1), .o 15 (.bin .neq bK (.k (.int .i64 0))), .m 4 cq]) .ret) (.seq (.run [.o 17 (.bin .eql bY (.k (.int .i64 10))), .m 16 cO]) (.cond b6 (.seq (.run [.m 19 aR, .o 20 (.au bI 13), .o 21 (.load dc false 1), .o 22 (.au bI 0), .o 23 (.au dk 3), .o 24 (.load dB false 1), .c 25 p9 [cZ,dt,dd], .m 18 de, .o 26 (.ext cH 0), .o 27 (.ext cH 1), .m 5 ej, .m 6 dS]) (.seq (.run [.m 28 bL, .m 4 eI]) .ret)) .skip))
abbrev QMQ:AC:= .seq (.seq (.run [.o 7 (.au bI 0), .o 8 (.au bE 1), .o 9 (.load b9 false 1)]) (.block 0 (.seq QMA QMK))) (.seq (.run [.o 4 (.mv (.k (.bool true)))]) .ret)
abbrev QMR:AC:= .seq (.run [.o 3 (.box bc), .o 4 (.mv (.k (.bool false)))]) QMQ
abbrev QMW:AC:= .cond b6 (.seq (.run [.o 4 (.mv (.k (.slice .full 0 [])))]) .ret) .skip
abbrev QNG:AC:= .seq (.run [.o 43 (.cu ga gK 1), .o 44 (.load iS false 1), .m 12 jx]) (.seq (.run [.o 45 (.au cQ 0), .o 46 (.load jM false 1), .m 47 bO, .c 48 bX [jN,jO]]) (.cond iT (.run [.m 49 bL, .m 50 bO, .o 51 (.cG [(.str [])] 1 1 [(0,jP)]), .o 52 (.app 1 16 iU jQ), .m 6 kd]) .skip))
abbrev QNK:AC:= .seq (.cond iH .skip (.exit 4)) (.seq (.block 5 QNG) (.run [.o 53 (.bin .add gK (.k (.int .i64 1))), .m 41 ke]))
abbrev QNO:AC:= .seq (.run [.o 37 (.au bF 0), .o 38 (.load fR true 13), .c 39 p8 [gl], .o 40 (.len ga), .o 41 (.mv (.k (.int .i64 0)))]) (.block 4 (.loop (.seq (.run [.o 42 (.bin .lss gK gJ)]) QNK)))
abbrev QNS:AC:= .seq (.block 3 (.seq (.run [.o 35 (.cu eW eZ 17), .o 36 (.load fq true 17), .o 10 (.alloc [(.int .i64 0),(.int .i64 0),(.slice .full 0 []),(.str []),(.str []),(.int .i64 0),(.int .i64 0),(.str []),(.slice .full 0 []),(.bool false),(.slice .full 0 []),(.slice .full 0 []),(.slice .full 0 []),(.int .i64 0),(.int .i64 0),(.int .i64 0),(.int .i64 0)]), .op none none (.store bF fA 17)]) QNO)) (.run [.o 54 (.bin .add eZ (.k (.int .i64 1))), .m 33 kE])
abbrev QNW:AC:= .block 2 (.loop (.seq (.run [.o 34 (.bin .lss eZ fe)]) (.seq (.cond fw .skip (.exit 2)) QNS)))
abbrev QNY:AC:= .seq (.run [.o 25 (.cu dt dB 1), .o 26 (.load de false 1), .m 8 ej]) (.seq (.run [.m 27 bh, .m 28 bh, .m 29 b9, .c 30 lN [eI,eJ], .c 31 gi [dS,fc], .o 32 (.len eW), .o 33 (.mv (.k (.int .i64 0)))]) QNW)
abbrev QO2:AC:= .seq (.cond dd .skip (.exit 0)) (.seq (.block 1 QNY) (.run [.o 55 (.bin .add dB (.k (.int .i64 1))), .m 23 kU]))
abbrev QO6:AC:= .seq (.run [.m 19 bh, .m 20 bc, .c 21 vB [cZ,dc], .o 22 (.len dt), .o 23 (.mv (.k (.int .i64 0)))]) (.block 0 (.loop (.seq (.run [.o 24 (.bin .lss dB dk)]) QO2)))
abbrev QOD:AC:= .seq (.run [.o 17 (.load cQ true 2), .c 18 lf [cO], .m 5 cH]) (.seq (.run [.o 6 (.mv (.k (.slice .full 0 [])))]) (.seq QO6 (.seq (.run [.m 56 bL, .c 57 iD [l6]]) (.seq (.run [.m 58 bL, .c 59 iV [l7], .m 4 kF]) .ret))))
abbrev QOF:AC:= .seq (.run [.o 2 (.box aR), .o 4 (.mv (.k (.slice .full 0 [])))]) (.seq (.seq (.run [.o 13 (.load cQ true 2), .m 14 bc, .c 15 rY [bP,bK], .o 16 (.un .not cq)]) QMW) QOD)
abbrev QOS:AC:= .cond fw (.seq (.run [.o 4 (.mv (.k (.bool false)))]) .ret) .skip
abbrev QOV:AC:= .seq (.seq (.run [.m 18 bh, .o 19 (.au bE 1), .o 20 (.load cZ false 1), .c 21 bX [cH,dc], .m 22 dt, .g 23 22 false (.au bE 1), .g 24 22 false (.load dB false 1), .g 25 22 false (.au cQ 3), .g 26 22 false (.load de false 1), .g 27 22 false (.bin .eql dd ej), .o 28 (.pick dk (.k (.bool true)) dS), .m 29 eI, .g 30 29 false (.mv bc), .g 31 29 false (.au bE 1), .g 32 29 false (.load eW false 1), .d 33 29 false bX [fc,fe], .o 34 (.pick eJ (.k (.bool true)) eZ)]) QOS) (.run [.m 35 bh, .o 36 (.au bE 1), .o 37 (.load fA false 1), .o 38 (.cG [(.str [])] 1 1 [(0,fR)]), .o 39 (.app 1 16 fq gl), .m 5 ga])
abbrev QOY:AC:= .block 1 (.seq (.run [.o 13 (.cu bY bU 6), .o 14 (.load bP true 6), .o 7 (.alloc [(.bool false),(.str []),(.int .i64 0),(.int .i64 0),(.str []),(.slice .full 0 [])]), .op none none (.store bE bK 6)]) (.seq (.seq (.run [.o 15 (.au bE 0), .o 16 (.load cq false 1), .o 17 (.un .not b6)]) (.cond cO (.exit 1) .skip)) QOV))
abbrev QP1:AC:= .seq (.cond bO .skip (.exit 0)) (.seq QOY (.run [.o 40 (.bin .add bU (.k (.int .i64 1))), .m 11 gJ]))
abbrev QP5:AC:= .seq (.run [.o 8 (.au cQ 10), .o 9 (.load b9 false 1), .o 10 (.len bY), .o 11 (.mv (.k (.int .i64 0)))]) (.block 0 (.loop (.seq (.run [.o 12 (.bin .lss bU bF)]) QP1)))
abbrev QP8:AC:= .seq QP5 (.seq (.run [.o 4 (.mv (.k (.bool true)))]) .ret)
abbrev QPA:AC:= .seq (.run [.o 2 (.box aR), .o 4 (.mv (.k (.bool false)))]) (.seq (.run [.o 5 (.mv (.k (.slice .full 0 [])))]) QP8)
abbrev QPH:AC:= .seq (.run [(.o 13 (.build [(.int .i64 0),(.int .i64 0)] [(0,(1,(.k (.int .i64 4))))])), .o 2 (.mv (.k (.slice .full 0 []))), .op none none (.store bI bP 2)]) .ret
abbrev QPN:AC:= .cond cO (.seq (.run [.m 18 c7, .m 19 aR, .o 20 (.kR cZ), .o 21 (.build [(.int .i64 0),(.str []),(.int .i64 0),(.int .i64 0)] [(3,(1,dc))]), .o 22 (.cG [(.int .i64 0),(.str []),(.int .i64 0),(.int .i64 0)] 4 1 [(0,dt)]), .o 23 (.app 4 40 cH dk), .o 24 (.build [(.int .i64 0),(.int .i64 0)] []), .m 2 dB, .op none none (.store bI dd 2)]) .ret) .skip
abbrev QQ1:AC:= .cond jO (.goto 1) (.seq (.run [.m 51 bY, .c 52 nV [jQ], .m 50 kd]) (.cond jP (.goto 2) (.seq (.run [.m 54 bY, .c 55 oO [kE], .m 53 kU]) (.cond ke (.goto 3) .skip))))
abbrev QQ3:AC:= .cond fc (.seq (.run [.m 45 bL, .o 46 (.bin .add jM (.k (.int .i64 1))), .m 6 jN]) (.goto 0)) (.seq (.run [.m 48 bY, .o 49 (.bin .eql iT (.k (.int .u8 35))), .m 47 iU]) QQ1)
abbrev QQ5:AC:= .block 0 (.seq (.run [.m 31 bY, .o 32 (.bin .eql eW (.k (.int .u8 32))), .m 33 fe, .g 34 33 false (.mv bY), .g 35 33 false (.bin .eql fw (.k (.int .u8 9))), .o 36 (.pick eZ (.k (.bool true)) fq), .m 37 fA, .g 38 37 false (.mv bY), .g 39 37 false (.bin .eql gl (.k (.int .u8 10))), .o 40 (.pick fR (.k (.bool true)) ga), .m 41 gJ, .g 42 41 false (.mv bY), .g 43 41 false (.bin .eql iH (.k (.int .u8 13))), .o 44 (.pick gK (.k (.bool true)) iS), .m 30 jx]) QQ3)
abbrev QQJ:AC:= .seq (.seq (.run [.m 72 bL, .m 73 aR, .o 74 (.kR yT), .o 75 (.bin .lss xd yU), .m 76 yV, .g 77 76 true (.mv aR), .g 78 76 true (.mv bL), .g 79 76 true (.nJ Bf yX), .g 80 76 true (.bin .neq GU (.k (.int .u8 10))), .o 81 (.pick yW GV (.k (.bool false)))]) (.cond GX .skip (.exit 1))) (.block 2 (.run [.m 82 bL, .o 83 (.bin .add GY (.k (.int .i64 1))), .m 6 GZ]))
abbrev QQN:AC:= .par [.m 87 aR, .o 88 (.au bh 3), .o 89 (.load G4 false 1), .m 90 bL, .o 91 (.wR G3 (some G5) (some LN)), .o 92 (.au bh 0), .op none none (.store LP (.k (.int .i64 1)) 1), .o 93 (.au bh 1), .op none none (.store Rw LO 1)] [(1,0),(2,0),(5,0),(6,0),(0,0),(3,0),(4,0),(7,0),(8,0)]
abbrev QQR:AC:= .seq (.run [.o 94 (.au bh 1), .o 95 (.load Rx false 1), .c 96 sK [Ry]]) (.cond YI (.run [.o 97 (.au bh 0), .op none none (.store YJ (.k (.int .i64 3)) 1)]) .skip)
abbrev YM:AC:= .seq (.seq (.run [.m 103 bL, .m 104 aR, .o 105 (.kR TY), .o 106 (.bin .lss TX T1), .m 107 T2, .g 108 107 true (.mv aR), .g 109 107 true (.mv bL), .g 110 107 true (.nJ T4 T5), .d 111 107 true oO [T6], .o 112 (.pick T3 T7 (.k (.bool false)))]) (.cond T8 .skip (.exit 3))) (.block 4 (.run [.m 113 bL, .o 114 (.bin .add T9 (.k (.int .i64 1))), .m 6 Ua]))
abbrev QR4:AC:= .par [.m 115 aR, .o 116 (.au bh 3), .o 117 (.load Uc false 1), .m 118 bL, .o 119 (.wR Ub (some Ud) (some Ue)), .o 120 (.au bh 0), .op none none (.store Ug (.k (.int .i64 2)) 1), .o 121 (.au bh 1), .op none none (.store Uh Uf 1), .o 7 (.mv (.k (.int .i64 2)))] [(1,0),(2,0),(5,0),(6,0),(0,0),(3,0),(4,0),(7,0),(8,0),(9,0)]
abbrev QRI:AC:= .par [.m 148 bE, .o 149 (.au bh 3), .o 150 (.load UH false 1), .o 151 (.build [(.int .i64 0),(.int .i64 0)] [(0,(1,UG)),(1,(1,UI))]), .o 2 (.mv (.k (.slice .full 0 []))), .op none none (.store bI UJ 2)] [(0,0),(1,0),(2,0),(3,0),(4,0),(5,0)]
abbrev QRN:AC:= .seq (.seq (.run [.m 141 c7, .o 142 (.len UB), .o 143 (.bin .eql UC (.k (.int .i64 2000)))]) (.cond LR (.goto 5) .skip)) (.seq (.run [.m 144 c7, .o 145 (.load bh true 4), .o 146 (.cG [(.int .i64 0),(.str []),(.int .i64 0),(.int .i64 0)] 4 1 [(0,Fv)]), .o 147 (.app 4 40 UD UE), .m 4 UF]) (.seq (.goto 0) (.seq (.label 5) (.seq QRI .ret))))
abbrev QRP:AC:= .seq (.label 4) (.seq (.run [.o 7 (.mv (.k (.int .i64 4)))]) QRN)
abbrev QRS:AC:= .seq (.run [.o 133 (.au bh 1), .o 134 (.load Ut false 1), .c 135 tB [Uu], .m 132 Uv, .o 136 (.ext LQ 0), .o 137 (.ext LQ 1), .o 138 (.au bh 2), .op none none (.store Uy Uw 1), .m 8 Ux]) (.seq (.run [.o 7 (.mv (.k (.int .i64 4)))]) (.seq (.seq (.run [.m 139 b9, .o 140 (.un .not Uz)]) (.cond UA (.goto 5) .skip)) QRP))
abbrev QRT:AC:= .seq (.seq (.run [.o 122 (.au bh 1), .o 123 (.load Ui false 1), .o 124 (.kR Uj), .o 125 (.bin .gtr Uk (.k (.int .i64 1))), .m 126 Ul, .g 127 126 true (.au bh 1), .g 128 126 true (.load Un false 1), .g 129 126 true (.nJ Uo (.k (.int .i64 0))), .g 130 126 true (.bin .eql Uq (.k (.int .u8 48))), .o 131 (.pick Um Ur (.k (.bool false)))]) (.cond Us (.goto 5) .skip)) QRS
abbrev YN:AC:= .seq QR4 QRT
abbrev QRY:AC:= .seq (.seq (.run [.m 98 bL, .o 99 (.au bh 3), .o 100 (.load YL false 1), .o 101 (.bin .sub YK TT), .o 102 (.bin .gtr TU (.k (.int .i64 8)))]) (.cond TV (.goto 5) .skip)) (.seq (.goto 4) (.seq (.label 3) (.seq (.block 3 (.loop YM)) YN)))
abbrev QS0:AC:= .seq QQR (.seq (.run [.o 7 (.mv (.k (.int .i64 4)))]) QRY)
abbrev QS6:AC:= .seq (.label 1) (.seq (.block 1 (.loop QQJ)) (.seq (.goto 0) (.seq (.label 2) (.seq (.run [.m 84 aR, .m 85 bL, .c 86 uJ [G0,G1], .m 6 G2]) (.seq QQN QS0)))))
abbrev QSA:AC:= .seq (.run [.m 62 aR, .o 63 (.au bh 3), .o 64 (.load pf false 1), .m 65 bL, .o 66 (.wR pe (some qd) (some sb)), .o 67 (.au bh 1), .op none none (.store sc tH 1)]) (.seq (.run [.o 7 (.mv (.k (.int .i64 2)))]) (.seq (.seq (.run [.m 68 bL, .o 69 (.au bh 3), .o 70 (.load vF false 1), .o 71 (.bin .gtr sd tJ)]) (.cond yS (.goto 4) .skip)) (.seq (.goto 5) QS6)))
abbrev QSD:AC:= .seq (.seq (.run [.m 27 aR, .m 28 bL, .o 29 (.nJ dS eI), .m 9 eJ]) QQ5) (.seq (.run [.o 56 (.au bh 0), .op none none (.store l6 (.k (.int .i64 4)) 1)]) (.seq (.run [.m 57 bL, .m 58 aR, .m 59 bL, .c 60 xb [l7,kF], .o 61 (.bin .add mF nX), .m 6 pd]) QSA))
abbrev yY:AC:= .seq (.seq (.run [.m 14 bL, .m 15 aR, .o 16 (.kR cq), .o 17 (.bin .geq bK b6)]) QPN) (.seq (.run [.m 25 bL, .o 26 (.build [(.int .i64 0),(.str []),(.int .i64 0),(.int .i64 0)] [(3,(1,de))]), .op none none (.store bh ej 4)]) QSD)
abbrev QSH:AC:= .seq (.seq (.run [.m 10 aR, .o 11 (.kR bF), .o 12 (.bin .gtr bU (.k (.int .i64 100000)))]) (.cond bO QPH .skip)) (.seq (.label 0) yY)
abbrev QSJ:AC:= .seq (.run [.o 5 (.alloc [(.int .i64 0),(.str []),(.int .i64 0),(.int .i64 0)])]) (.seq (.run [.o 6 (.mv (.k (.int .i64 0))), .o 7 (.mv (.k (.int .i64 0))), .o 8 (.mv (.k (.bool true)))]) QSH)
abbrev tL:AC:= .seq (.run [.o 4 (.mv (.k (.slice .full 0 [])))]) QSJ
abbrev QSL:AC:= .scope tL
abbrev QSM:AC:= .seq (.run [.o 2 (.mv (.k (.slice .full 0 []))), .o 3 (.alloc [(.int .i64 0),(.int .i64 0)])]) QSL
abbrev QSU:AC:= .seq (.seq (.run [.m 4 aR,(.c 5 dq [c7,(.k (.str [103,108,111,98,97,108]))])]) (.cond bh .skip (.exit 0))) (.block 1 (.run [.m 6 aR, .o 7 (.au bI 0), .o 8 (.load bE false 1), .c 9 iE [bL,b9,(.k (.int .i64 16))], .o 10 (.au bI 0), .op none none (.store bF bY 1)]))
abbrev QT6:AC:= .seq (.run [.o 17 (.au bI 1), .o 18 (.load cO false 1), .o 19 (.len cH), .o 20 (.bin .eql cZ (.k (.int .i64 16)))]) (.cond dc (.seq (.run [.m 21 aR, .c 22 ez [dt,(.k (.int .i64 4))]]) (.seq (.run [.o 23 (.load bI true 2), .op none none (.store cQ dB 2)]) .ret)) .skip)
abbrev QT8:AC:= .par [.o 31 (.au bI 1), .o 32 (.load eW false 1), .m 33 aR, .c 34 ni [eZ], .o 35 (.cG [(.str []),(.slice .full 0 []),(.slice .full 0 []),(.slice .full 0 []),(.slice .full 0 [])] 5 1 [(0,fw)]), .o 36 (.app 5 112 fe fq), .o 37 (.au bI 1), .op none none (.store fR fA 1)] [(2,0),(3,0),(0,0),(1,1),(4,0),(5,0),(6,0),(7,0)]
abbrev QTA:AC:= .seq QT6 (.seq (.run [.m 24 aR, .o 25 (.di dd), .o 26 (.au de 1), .o 27 (.load ej false 1), .o 28 (.bin .add dS (.k (.int .i64 1))), .o 29 (.di dd), .o 30 (.au eJ 1), .op none none (.store fc eI 1)]) QT8)
abbrev QTC:AC:= .seq (.seq (.run [.m 11 aR, .c 12 cB [bU], .m 13 bO, .g 14 13 true (.mv aR),(.d 15 13 true fl [bK,(.k (.str [112,114,111,99]))]), .o 16 (.pick bP cq (.k (.bool false)))]) (.cond b6 .skip (.exit 2))) (.block 3 QTA)
abbrev QTL:AC:= .seq (.seq (.run [.m 38 aR, .c 39 cB [gl], .m 40 ga, .g 41 40 true (.mv aR), .d 42 40 true dr [gK], .g 43 40 true (.rj iH 0 false 1), .g 44 40 true (.bin .neq iS (.k (.int .i64 0))), .o 45 (.pick gJ jx (.k (.bool false)))]) (.cond jM (.run [.m 46 aR, .c 47 ez [jN,(.k (.int .i64 3))]]) .skip)) (.seq (.run [.o 48 (.load bI true 2), .op none none (.store cQ iT 2)]) .ret)
abbrev QTP:AC:= .seq (.run [.o 2 (.alloc [(.slice .full 0 []),(.slice .full 0 [])])]) (.seq (.run [.o 3 (.alloc [(.slice .full 0 []),(.slice .full 0 [])])]) (.seq (.block 0 (.loop QSU)) (.seq (.block 2 (.loop QTC)) QTL)))
abbrev QTX:AC:= .par [.o 19 (.au bL 0), .o 20 (.load cZ false 1), .o 21 (.au bL 1), .o 22 (.load dt false 1), .c 23 kD [dk], .o 24 (.au bL 2), .o 25 (.load dd false 1), .c 26 gp [de], .o 27 (.au bL 4), .o 28 (.load dS false 1), .c 29 gp [eI], .o 30 (.build [(.str []),(.slice .full 0 []),(.slice .full 0 []),(.slice .full 0 []),(.slice .full 0 [])] [(0,(1,dc)),(1,(1,dB)),(2,(1,ej)),(4,(1,eJ))]), .o 7 (.alloc [(.str []),(.slice .full 0 []),(.slice .full 0 []),(.slice .full 0 []),(.slice .full 0 [])]), .op none none (.store bE fc 5)] [(2,0),(3,0),(4,0),(5,0),(6,1),(7,0),(8,0),(9,2),(10,0),(12,0),(0,0),(1,4),(11,0),(13,0)]
abbrev QU2:AC:= .seq (.run [.o 17 (.cu bP cq 5), .o 18 (.load cO true 5), .o 6 (.alloc [(.str []),(.slice .full 0 []),(.slice .full 0 []),(.slice .full 0 []),(.slice .full 0 [])]), .op none none (.store bL cH 5)]) (.seq QTX (.seq (.run [.o 32 (.au bL 3), .o 33 (.load fe false 1), .m 34 bI, .c 35 jL [eZ,fw,(.k (.bool true))], .m 31 fq, .o 36 (.ext eW 0), .o 37 (.ext eW 1), .o 38 (.au bE 3), .op none none (.store gl fA 1), .m 3 fR]) (.run [.o 39 (.au c7 1), .o 40 (.load ga false 1), .o 41 (.load bE true 5), .o 42 (.cG [(.str []),(.slice .full 0 []),(.slice .full 0 []),(.slice .full 0 []),(.slice .full 0 [])] 5 1 [(0,gK)]), .o 43 (.app 5 112 gJ iH), .o 44 (.au c7 1), .op none none (.store jx iS 1)])))
abbrev QU6:AC:= .seq (.cond b6 .skip (.exit 0)) (.seq (.block 1 QU2) (.run [.o 45 (.bin .add cq (.k (.int .i64 1))), .m 15 jM]))
abbrev QUA:AC:= .seq (.run [.o 12 (.au bc 1), .o 13 (.load bO false 1), .o 14 (.len bP), .o 15 (.mv (.k (.int .i64 0)))]) (.block 0 (.loop (.seq (.run [.o 16 (.bin .lss cq bK)]) QU6)))
abbrev QUF:AC:= .seq (.run [.o 3 (.mv (.k (.int .i64 0)))]) (.seq (.run [.o 8 (.au bc 0), .o 9 (.load b9 false 1), .c 10 gp [bY], .o 11 (.build [(.slice .full 0 []),(.slice .full 0 [])] [(0,(1,bF))]), .o 4 (.alloc [(.slice .full 0 []),(.slice .full 0 [])]), .op none none (.store c7 bU 2)]) (.seq QUA (.seq (.run [.o 46 (.load c7 true 2), .op none none (.store cQ jN 2)]) .ret)))
abbrev QUG:AC:= .seq (.run [.o 1 (.box aR), .o 2 (.alloc [(.slice .full 0 []),(.slice .full 0 [])])]) QUF
abbrev QUK:AC:= .seq (.run [.o 2 (.mv (.k (.bool false)))]) (.seq (.run [.m 3 aR, .o 4 (.bin .geq bI (.k (.int .u8 97))), .m 5 c7, .g 6 5 true (.mv aR), .g 7 5 true (.bin .leq bL (.k (.int .u8 122))), .o 8 (.pick bh bE (.k (.bool false))), .m 2 b9]) .ret)
abbrev QUR:AC:= .seq (.seq (.run [.m 5 bc, .m 6 aR, .o 7 (.kR bL), .o 8 (.bin .lss bh bE), .m 9 b9, .g 10 9 true (.mv aR), .g 11 9 true (.mv bc), .g 12 9 true (.nJ bF bU), .d 13 9 true nV [bO], .g 14 9 true (.mv bP), .g 15 14 false (.mv aR), .g 16 14 false (.mv bc), .g 17 14 false (.nJ cq b6), .d 18 14 false oO [cO], .g 19 9 true (.pick bK (.k (.bool true)) cH), .o 20 (.pick bY cZ (.k (.bool false)))]) (.cond dc .skip (.exit 0))) (.block 1 (.run [.m 21 bc, .o 22 (.bin .add dt (.k (.int .i64 1))), .m 1 dk]))
abbrev QUX:AC:= .seq (.run [.o 4 (.mv (.k (.int .i64 0)))]) (.seq (.block 0 (.loop QUR)) (.seq (.run [.m 23 bc, .m 4 dB]) .ret))
abbrev QVE:AC:= .seq (.run [.o 16 (.bin .eql bI (.k (.str [114,101,97,100]))), .m 4 b6]) (.cond c7 .skip (.run [.o 17 (.bin .eql bI (.k (.str [112,114,105,110,116]))), .m 4 cO]))
abbrev QVH:AC:= .cond c7 .skip (.seq (.run [.o 15 (.bin .eql bI (.k (.str [103,111,116,111]))), .m 4 cq]) (.cond c7 .skip QVE))
abbrev QVJ:AC:= .cond c7 .skip (.seq (.run [.o 14 (.bin .eql bI (.k (.str [114,101,116,117,114,110]))), .m 4 bK]) QVH)
abbrev QVL:AC:= .cond c7 .skip (.seq (.run [.o 13 (.bin .eql bI (.k (.str [99,111,110,116,105,110,117,101]))), .m 4 bP]) QVJ)
abbrev QVN:AC:= .cond c7 .skip (.seq (.run [.o 12 (.bin .eql bI (.k (.str [98,114,101,97,107]))), .m 4 bO]) QVL)
abbrev QVP:AC:= .cond c7 .skip (.seq (.run [.o 11 (.bin .eql bI (.k (.str [119,104,105,108,101]))), .m 4 bU]) QVN)
abbrev QVR:AC:= .cond c7 .skip (.seq (.run [.o 10 (.bin .eql bI (.k (.str [101,108,115,101]))), .m 4 bF]) QVP)
abbrev QVT:AC:= .cond c7 .skip (.seq (.run [.o 9 (.bin .eql bI (.k (.str [105,102]))), .m 4 bY]) QVR)
abbrev QVV:AC:= .cond c7 .skip (.seq (.run [.o 8 (.bin .eql bI (.k (.str [114,101,102]))), .m 4 b9]) QVT)
abbrev QVX:AC:= .cond c7 .skip (.seq (.run [.o 7 (.bin .eql bI (.k (.str [118,97,114]))), .m 4 bE]) QVV)
abbrev QVZ:AC:= .cond c7 .skip (.seq (.run [.o 6 (.bin .eql bI (.k (.str [112,114,111,99]))), .m 4 bL]) QVX)
abbrev QW3:AC:= .cond c7 (.seq (.run [.o 2 (.mv (.k (.bool true)))]) .ret) .skip
abbrev QW4:AC:= .seq (.seq (.run [.o 5 (.bin .eql bI (.k (.str [103,108,111,98,97,108]))), .m 4 bh]) QVZ) QW3
abbrev QW9:AC:= .seq (.seq (.run [.m 3 aR]) (.block 0 QW4)) (.seq (.run [.o 2 (.mv (.k (.bool false)))]) .ret)
abbrev QWA:AC:= .seq (.run [.o 2 (.mv (.k (.bool false)))]) QW9
abbrev QWL:AC:= .seq (.block 1 (.seq (.run [.o 14 (.cu bF bO 1), .o 15 (.load bK false 1), .m 9 cq]) (.run [.m 16 bE, .m 17 bY, .m 18 bc, .m 19 cQ, .c 20 iC [cO,cH,cZ], .o 21 (.cG [(.str [])] 1 1 [(0,dc)]), .o 22 (.app 1 16 b6 dt), .m 7 dk]))) (.run [.o 23 (.bin .add bO (.k (.int .i64 1))), .m 12 dB])
abbrev QWP:AC:= .block 0 (.loop (.seq (.run [.o 13 (.bin .lss bO bU)]) (.seq (.cond bP .skip (.exit 0)) QWL)))
abbrev QWT:AC:= .seq (.seq (.run [.m 10 aR, .o 11 (.len bF), .o 12 (.mv (.k (.int .i64 0)))]) QWP) (.seq (.run [.m 24 bE, .m 6 dd]) .ret)
abbrev QWV:AC:= .seq (.run [.o 6 (.mv (.k (.slice .full 0 [])))]) (.seq (.run [.o 7 (.mv (.k (.slice .full 0 [])))]) QWT)
abbrev QX7:AC:= .seq (.run [.m 9 bc, .o 10 (.bin .eql bE bY), .m 8 bF]) (.cond b9 (.seq (.run [.m 11 cQ, .m 6 bU]) .ret) (.seq (.run [.m 13 cQ, .o 14 (.bin .eql bE bP), .m 12 bK]) (.cond bO (.seq (.run [.m 15 bc, .m 6 cq]) .ret) .skip)))
abbrev QXD:AC:= .seq (.run [.o 6 (.mv (.k (.str [])))]) (.seq (.seq (.run [.m 7 aR]) (.block 0 QX7)) (.seq (.run [.m 16 aR, .m 6 b6]) .ret))
abbrev QXK:AC:= .par [.o 19 (.au bY 0), .o 20 (.load cZ false 1), .o 21 (.au bY 1), .o 22 (.load dt false 1), .o 23 (.au bY 2), .o 24 (.load dB false 1), .m 25 bc, .m 26 cQ, .c 27 jg [dd,de,ej], .o 28 (.au bY 3), .o 29 (.load eI false 1), .m 30 bc, .m 31 cQ, .c 32 iC [eJ,fc,eW], .o 33 (.au bY 4), .o 34 (.load eZ false 1), .m 35 bc, .m 36 cQ, .c 37 iC [fw,fq,fA], .o 38 (.au bY 5), .o 39 (.load gl true 4), .m 40 bc, .m 41 cQ, .c 42 iF [ga,gJ,gK], .o 43 (.au bY 9), .o 44 (.load iS false 1), .o 45 (.build [(.int .i64 0),(.int .i64 0),(.slice .full 0 []),(.str []),(.str []),(.int .i64 0),(.int .i64 0),(.str []),(.slice .full 0 []),(.bool false),(.slice .full 0 []),(.slice .full 0 []),(.slice .full 0 [])] [(0,(1,dc)),(1,(1,dk)),(2,(1,dS)),(3,(1,fe)),(4,(1,fR)),(5,(4,iH)),(9,(1,jx))]), .o 10 (.alloc [(.int .i64 0),(.int .i64 0),(.slice .full 0 []),(.str []),(.str []),(.int .i64 0),(.int .i64 0),(.str []),(.slice .full 0 []),(.bool false),(.slice .full 0 []),(.slice .full 0 []),(.slice .full 0 [])]), .op none none (.store bF jM 13)] [(4,0),(5,0),(6,0),(7,0),(8,0),(9,0),(10,1),(11,0),(12,0),(13,0),(14,0),(15,2),(16,0),(17,0),(18,0),(19,0),(20,3),(21,0),(22,0),(23,0),(27,0),(0,0),(1,5),(2,0),(3,5),(24,0),(25,5),(26,0),(28,0)]
abbrev QXP:AC:= .par [.o 53 (.au bF 10), .o 54 (.load ke false 1), .o 55 (.au bO 0), .o 56 (.load kU false 1), .o 57 (.au bO 1), .o 58 (.load mF false 1), .m 59 bc, .m 60 cQ, .c 61 iC [l7,kF,nX], .o 62 (.au bO 2), .o 63 (.load pe true 4), .m 64 bc, .m 65 cQ, .c 66 iF [pf,qd,sb], .o 67 (.build [(.bool false),(.str []),(.int .i64 0),(.int .i64 0),(.str []),(.slice .full 0 [])] [(0,(1,l6)),(1,(1,pd)),(2,(4,tH))]), .o 68 (.cG [(.bool false),(.str []),(.int .i64 0),(.int .i64 0),(.str []),(.slice .full 0 [])] 6 1 [(0,sc)]), .o 69 (.app 6 80 kE sd), .o 70 (.au bF 10), .op none none (.store tJ vF 1)] [(4,0),(5,0),(6,0),(7,0),(8,0),(9,0),(10,1),(11,0),(12,0),(13,0),(0,0),(1,2),(2,0),(3,2),(14,0),(15,0),(16,0),(17,0),(18,0)]
abbrev QXT:AC:= .seq (.block 3 (.seq (.run [.o 51 (.cu jO iU 6), .o 52 (.load jQ true 6), .o 12 (.alloc [(.bool false),(.str []),(.int .i64 0),(.int .i64 0),(.str []),(.slice .full 0 [])]), .op none none (.store bO kd 6)]) QXP)) (.run [.o 71 (.bin .add iU (.k (.int .i64 1))), .m 49 yS])
abbrev QXX:AC:= .block 2 (.loop (.seq (.run [.o 50 (.bin .lss iU iT)]) (.seq (.cond jP .skip (.exit 2)) QXT)))
abbrev QXZ:AC:= .par [.o 72 (.au bY 11), .o 73 (.load xd false 1), .m 74 bc, .m 75 cQ, .c 76 ij [yT,yU,yV], .o 77 (.au bY 12), .o 78 (.load Bf false 1), .m 79 bc, .m 80 cQ, .c 81 ij [yX,GU,GV], .o 82 (.au bF 11), .op none none (.store GY yW 1), .o 83 (.au bF 12), .op none none (.store GZ GX 1)] [(0,0),(1,0),(2,0),(3,0),(4,0),(5,0),(6,1),(7,0),(8,0),(9,0),(10,0),(11,0),(12,0),(13,0)]
abbrev QY2:AC:= .seq (.seq (.run [.o 46 (.au bY 10), .o 47 (.load jN false 1), .o 48 (.len jO), .o 49 (.mv (.k (.int .i64 0)))]) QXX) (.seq QXZ (.run [.m 84 bE, .o 85 (.load bF true 13), .o 86 (.cG [(.int .i64 0),(.int .i64 0),(.slice .full 0 []),(.str []),(.str []),(.int .i64 0),(.int .i64 0),(.str []),(.slice .full 0 []),(.bool false),(.slice .full 0 []),(.slice .full 0 []),(.slice .full 0 [])] 13 1 [(0,G1)]), .o 87 (.app 13 208 G0 G2), .m 7 G3]))
abbrev QY7:AC:= .seq (.block 1 (.seq (.run [.o 17 (.cu bP cq 13), .o 18 (.load cO true 13), .o 9 (.alloc [(.int .i64 0),(.int .i64 0),(.slice .full 0 []),(.str []),(.str []),(.int .i64 0),(.int .i64 0),(.str []),(.slice .full 0 []),(.bool false),(.slice .full 0 []),(.slice .full 0 []),(.slice .full 0 [])]), .op none none (.store bY cH 13)]) (.seq QXK QY2))) (.run [.o 88 (.bin .add cq (.k (.int .i64 1))), .m 15 G4])
abbrev QYB:AC:= .block 0 (.loop (.seq (.run [.o 16 (.bin .lss cq bK)]) (.seq (.cond b6 .skip (.exit 0)) QY7)))
abbrev QYF:AC:= .seq (.seq (.run [.m 13 aR, .o 14 (.len bP), .o 15 (.mv (.k (.int .i64 0)))]) QYB) (.seq (.run [.m 89 bE, .m 6 G5]) .ret)
abbrev QYH:AC:= .seq (.run [.o 6 (.mv (.k (.slice .full 0 [])))]) (.seq (.run [.o 7 (.mv (.k (.slice .full 0 [])))]) QYF)
end Go.Abs

/-! Have1 -/

namespace Go.Abs
open Go.Proofs
theorem BX:Has Tryz.prog rW 1 [(0,none)] QD4:=⟨Tryz.f44,by kernel_rfl,by kernel_rfl⟩
theorem E2:Has Tryz.prog vz 40 [(0,(some (true,2)))] QDC:=⟨Tryz.f45,by kernel_rfl,by kernel_rfl⟩
theorem x9:Has Tryz.prog iL 23 [(4,none)] QDT:=⟨Tryz.f46,by kernel_rfl,by kernel_rfl⟩
theorem nY:Has Tryz.prog fP 19 [(4,none)] QE3:=⟨Tryz.f47,by kernel_rfl,by kernel_rfl⟩
theorem qD:Has Tryz.prog jU 69 [(4,none)] QF1:=⟨Tryz.f48,by kernel_rfl,by kernel_rfl⟩
theorem Db:Has Tryz.prog lX 15 [(2,none)] QFO:=⟨Tryz.f56,by kernel_rfl,by kernel_rfl⟩
theorem qe:Has Tryz.prog ju 71 [(6,none)] QGP:=⟨Tryz.f57,by kernel_rfl,by kernel_rfl⟩
theorem ug:Has Tryz.prog im 19 [(4,none)] QHC:=⟨Tryz.f58,by kernel_rfl,by kernel_rfl⟩
theorem BY:Has Tryz.prog mT 18 [(2,none)] QHZ:=⟨Tryz.f59,by kernel_rfl,by kernel_rfl⟩
theorem G7:Has Tryz.prog lf 55 [(2,none)] QIO:=⟨Tryz.f60,by kernel_rfl,by kernel_rfl⟩
theorem E3:Has Tryz.prog vA 23 [(2,none)] QJ9:=⟨Tryz.f61,by kernel_rfl,by kernel_rfl⟩
theorem qf:Has Tryz.prog fG 9 [(4,none)] QJD:=⟨Tryz.f62,by kernel_rfl,by kernel_rfl⟩
theorem Al:Has Tryz.prog ny 8 [(3,none)] QJH:=⟨Tryz.f63,by kernel_rfl,by kernel_rfl⟩
theorem se:Has Tryz.prog bX 9 [(4,none)] QJL:=⟨Tryz.f64,by kernel_rfl,by kernel_rfl⟩
theorem Am:Has Tryz.prog gi 26 [(4,none)] QJP:=⟨Tryz.f65,by kernel_rfl,by kernel_rfl⟩
theorem B0:Has Tryz.prog o4 38 [(8,none)] QKC:=⟨Tryz.f66,by kernel_rfl,by kernel_rfl⟩
theorem wc:Has Tryz.prog tw 28 [(4,none)] QL5:=⟨Tryz.f67,by kernel_rfl,by kernel_rfl⟩
theorem we:Has Tryz.prog pZ 9 [(2,none)] QLF:=⟨Tryz.f68,by kernel_rfl,by kernel_rfl⟩
theorem E4:Has Tryz.prog oN 24 [(4,none),(5,none)] QM4:=⟨Tryz.f69,by kernel_rfl,by kernel_rfl⟩
theorem og:Has Tryz.prog tx 29 [(4,none)] QMR:=⟨Tryz.f70,by kernel_rfl,by kernel_rfl⟩
theorem sw:Has Tryz.prog p6 60 [(4,none)] QOF:=⟨Tryz.f71,by kernel_rfl,by kernel_rfl⟩
theorem Bg:Has Tryz.prog qL 41 [(4,none)] QPA:=⟨Tryz.f72,by kernel_rfl,by kernel_rfl⟩
theorem IQ:Has Tryz.prog yP 152 [(2,none),(3,(some (true,2)))] QSM:=⟨Tryz.f73,by kernel_rfl,by kernel_rfl⟩
theorem tM:Has Tryz.prog lz 49 [(2,(some (true,2)))] QTP:=⟨Tryz.f74,by kernel_rfl,by kernel_rfl⟩
theorem B1:Has Tryz.prog o5 47 [(2,(some (true,2)))] QUG:=⟨Tryz.f75,by kernel_rfl,by kernel_rfl⟩
theorem Dc:Has Tryz.prog nV 9 [(2,none)] QUK:=⟨Tryz.f76,by kernel_rfl,by kernel_rfl⟩
theorem IS:Has Tryz.prog uJ 24 [(4,none)] QUX:=⟨Tryz.f77,by kernel_rfl,by kernel_rfl⟩
theorem G8:Has Tryz.prog sK 18 [(2,none)] QWA:=⟨Tryz.f78,by kernel_rfl,by kernel_rfl⟩
theorem yZ:Has Tryz.prog jg 25 [(6,none)] QWV:=⟨Tryz.f79,by kernel_rfl,by kernel_rfl⟩
theorem qN:Has Tryz.prog iC 17 [(6,none)] QXD:=⟨Tryz.f80,by kernel_rfl,by kernel_rfl⟩
theorem za:Has Tryz.prog ij 90 [(6,none)] QYH:=⟨Tryz.f81,by kernel_rfl,by kernel_rfl⟩
end Go.Abs

/-! Codes2 -/

namespace Go.Abs
abbrev QYO:AC:= .par [.m 12 bI, .m 13 aR, .m 14 c7, .o 15 (.cu bP bK 13), .o 16 (.au cq 11), .o 17 (.load b6 false 1), .c 18 jv [cO], .m 19 aR, .m 20 c7, .o 21 (.cu cZ dc 13), .o 22 (.au dt 12), .o 23 (.load dk false 1), .c 24 jv [dB], .o 25 (.bin .add cH dd), .o 26 (.bin .add bO de), .m 3 ej] [(1,0),(2,0),(3,0),(4,0),(5,0),(6,0),(7,0),(8,0),(9,0),(10,0),(11,1),(12,0),(0,0),(13,0),(14,0),(15,0)]
abbrev QYT:AC:= .seq (.cond bF .skip (.exit 0)) (.seq (.block 1 (.seq (.run [.m 11 bY, .m 4 bU]) QYO)) (.run [.o 27 (.bin .add bY (.k (.int .i64 1))), .m 9 dS]))
abbrev QYX:AC:= .seq (.run [.m 7 aR, .o 8 (.len bE), .o 9 (.mv (.k (.int .i64 0)))]) (.block 0 (.loop (.seq (.run [.o 10 (.bin .lss bY b9)]) QYT)))
abbrev QZ2:AC:= .seq (.run [.o 2 (.mv (.k (.int .i64 0)))]) (.seq (.run [.m 5 aR, .o 6 (.len bh), .m 3 bL]) (.seq QYX (.seq (.run [.m 28 bI, .m 2 eI]) .ret)))
abbrev QZ5:AC:= .seq (.run [.m 3 aR,(.o 4 (.build [(.int .i64 0),(.int .i64 0),(.str []),(.slice .full 0 [])] [(0,(1,(.k (.int .i64 1)))),(1,(1,bI))])), .op none none (.store cQ c7 4)]) .ret
abbrev QZ6:AC:= .seq (.run [.o 2 (.alloc [(.int .i64 0),(.int .i64 0),(.str []),(.slice .full 0 [])])]) QZ5
abbrev QZ9:AC:= .seq (.run [.m 3 aR,(.o 4 (.build [(.int .i64 0),(.int .i64 0),(.str []),(.slice .full 0 [])] [(0,(1,(.k (.int .i64 2)))),(2,(1,bI))])), .op none none (.store cQ c7 4)]) .ret
abbrev QZA:AC:= .seq (.run [.o 2 (.alloc [(.int .i64 0),(.int .i64 0),(.str []),(.slice .full 0 [])])]) QZ9
abbrev QZE:AC:= .seq (.run [.o 4 (.box bc), .o 5 (.box cQ), .o 6 (.alloc [(.int .i64 0),(.int .i64 0),(.str []),(.slice .full 0 [])])]) (.seq (.run [.m 7 aR, .o 8 (.load c7 true 4), .o 9 (.load bh true 4), .o 10 (.cG [(.int .i64 0),(.int .i64 0),(.str []),(.slice .full 0 [])] 4 2 [(0,b9),(1,bY)]), .o 11 (.build [(.int .i64 0),(.int .i64 0),(.str []),(.slice .full 0 [])] [(0,(1,bE)),(3,(1,bF))]), .op none none (.store bL bU 4)]) .ret)
abbrev QZP:AC:= .seq (.seq (.run [.m 10 bh, .o 11 (.au cQ 3), .o 12 (.load bU false 1), .o 13 (.len bO), .o 14 (.bin .lss bF bP), .m 15 bK, .g 16 15 true (.mv bc), .g 17 15 true (.bin .leq b6 (.k (.int .i64 20000))), .o 18 (.pick cq cO (.k (.bool false)))]) (.cond cH .skip (.exit 0))) (.seq (.block 1 (.run [.o 21 (.au cQ 3), .o 22 (.load dt false 1), .m 23 bh, .o 24 (.cu dk dB 4), .o 25 (.load dd true 4), .m 26 bc, .c 27 jh [de,ej], .m 1 dS])) (.run [.m 19 bh, .o 20 (.bin .add cZ (.k (.int .i64 1))), .m 5 dc]))
abbrev QZV:AC:= .seq (.seq (.run [.o 5 (.mv (.k (.int .i64 0)))]) (.block 0 (.loop QZP))) (.seq (.run [.m 28 bc, .m 4 eI]) .ret)
abbrev QZX:AC:= .seq (.run [.o 2 (.box aR), .o 4 (.mv (.k (.int .i64 0)))]) (.seq (.run [.o 6 (.au cQ 2), .o 7 (.load bL false 1), .m 8 bc, .c 9 fP [bE,b9], .m 1 bY]) QZV)
abbrev QZZ:AC:= .par [.o 10 (.au bc 9), .o 11 (.load bF false 1), .o 3 (.mv (.k (.bool false))), .o 4 (.mv (.k (.bool false))), .o 5 (.mv (.k (.bool false))), .m 6 bU, .o 7 (.mv (.k (.bool false))), .o 8 (.mv (.k (.bool false)))] [(0,0),(1,0),(2,0),(3,0),(4,0),(5,0),(6,0),(7,0)]
abbrev afa:AC:= .seq (.run [.o 20 (.bin .eql b6 (.k (.int .i64 2))), .m 19 dc]) (.cond cZ .skip (.run [.o 21 (.bin .eql b6 (.k (.int .i64 10))), .m 19 dt]))
abbrev afb:AC:= .seq (.run [.o 38 (.bin .eql b6 (.k (.int .i64 7))), .m 37 gl]) (.cond fR .skip (.run [.o 39 (.bin .eql b6 (.k (.int .i64 8))), .m 37 ga]))
abbrev afc:AC:= .cond fR .skip (.seq (.run [.o 2 (.mv (.k (.bool false)))]) .ret)
abbrev afd:AC:= .seq (.run [.o 34 (.bin .eql b6 (.k (.int .i64 9))), .m 33 fw]) (.cond eZ (.run [.o 35 (.au bc 9), .o 36 (.load fq false 1), .m 5 fA, .o 6 (.mv (.k (.bool false)))]) (.seq afb afc))
abbrev afe:AC:= .seq (.run [.o 32 (.bin .eql b6 (.k (.int .i64 6))), .m 31 fe]) (.cond eW (.run [.o 5 (.mv (.k (.bool true))), .o 7 (.mv (.k (.bool true)))]) afd)
abbrev aff:AC:= .seq (.run [.o 30 (.bin .eql b6 (.k (.int .i64 5))), .m 29 fc]) (.cond eJ (.run [.o 5 (.mv (.k (.bool true))), .o 7 (.mv (.k (.bool true))), .o 8 (.mv (.k (.bool true)))]) afe)
abbrev afg:AC:= .seq (.run [.o 25 (.bin .eql b6 (.k (.int .i64 4))), .m 24 de]) (.cond dd (.run [.o 26 (.au bc 3), .o 27 (.load ej false 1), .o 28 (.bin .neq dS (.k (.str []))), .m 3 eI, .o 4 (.mv (.k (.bool true)))]) aff)
abbrev afh:AC:= .seq (.run [.o 23 (.bin .eql b6 (.k (.int .i64 3))), .m 22 dB]) (.cond dk (.run [.o 5 (.mv (.k (.bool true)))]) afg)
abbrev afi:AC:= .seq afa (.cond cZ (.run [.o 3 (.mv (.k (.bool true)))]) afh)
abbrev afj:AC:= .seq (.run [.o 18 (.bin .eql b6 (.k (.int .i64 1))), .m 17 cH]) (.cond cO (.run [.o 3 (.mv (.k (.bool true))), .o 5 (.mv (.k (.bool true)))]) afi)
abbrev afk:AC:= .run [.m 40 bL, .m 41 gJ, .g 42 41 false (.mv bE), .g 43 41 false (.un .not iH), .g 44 41 false (.mv iS), .g 45 44 true (.au bc 11), .g 46 44 true (.load jM false 1), .g 47 44 true (.len jN), .g 48 44 true (.bin .gtr jO (.k (.int .i64 0))), .g 49 41 false (.pick jx iT (.k (.bool false))), .o 50 (.pick gK (.k (.bool true)) iU), .m 51 jP, .g 52 51 false (.mv b9), .g 53 51 false (.un .not kd), .g 54 51 false (.mv ke), .g 55 54 true (.au bc 12), .g 56 54 true (.load kU false 1), .g 57 54 true (.len l6), .g 58 54 true (.bin .gtr mF (.k (.int .i64 0))), .g 59 51 false (.pick kE l7 (.k (.bool false))), .o 60 (.pick jQ (.k (.bool true)) kF), .m 61 nX, .g 62 61 false (.mv bY), .g 63 61 false (.un .not pe), .g 64 61 false (.mv pf), .g 65 64 true (.au bc 10), .g 66 64 true (.load sb false 1), .g 67 64 true (.len tH), .g 68 64 true (.bin .gtr sc (.k (.int .i64 0))), .g 69 61 false (.pick qd sd (.k (.bool false))), .o 70 (.pick pd (.k (.bool true)) vF)]
abbrev afl:AC:= .cond tJ (.seq (.run [.o 2 (.mv (.k (.bool false)))]) .ret) .skip
abbrev afm:AC:= .cond G5 (.seq (.run [.o 2 (.mv (.k (.bool false)))]) .ret) .skip
abbrev YO:AC:= .seq (.seq (.run [.o 71 (.au bc 3), .o 72 (.load yS false 1), .m 73 bI, .c 74 nW [xd,yT], .o 75 (.un .not yU), .m 76 yV, .g 77 76 false (.au bc 4), .g 78 76 false (.load Bf false 1), .g 79 76 false (.mv c7), .d 80 76 false nW [yX,GU], .g 81 76 false (.un .not GV), .o 82 (.pick yW (.k (.bool true)) GX), .m 83 GY, .g 84 83 false (.au bc 5), .g 85 83 false (.load G0 true 4), .g 86 83 false (.mv bh), .d 87 83 false qa [G1,G2], .g 88 83 false (.un .not G3), .o 89 (.pick GZ (.k (.bool true)) G4)]) afm) (.seq (.run [.o 90 (.au bc 10), .o 91 (.load LN false 1), .c 92 rZ [LO], .m 2 LP]) .ret)
abbrev YP:AC:= .seq (.seq afk afl) YO
abbrev Rz:AC:= .seq (.seq (.run [.o 15 (.au bc 1), .o 16 (.load cq false 1)]) (.block 0 afj)) YP
abbrev YQ:AC:= .seq (.run [.o 12 (.au bc 1), .o 13 (.load bO false 1), .o 14 (.bin .eql bP (.k (.int .i64 4))), .m 9 bK]) Rz
abbrev YR:AC:= .seq QZZ YQ
abbrev afn:AC:= .seq (.run [.o 1 (.box aR), .o 2 (.mv (.k (.bool false)))]) YR
abbrev afo:AC:= .par [.m 37 aR, .m 38 aR, .o 39 (.di gl), .o 40 (.au ga 2), .o 41 (.load gJ false 1), .o 42 (.load bY true 17), .o 43 (.cG [(.int .i64 0),(.int .i64 0),(.slice .full 0 []),(.str []),(.str []),(.int .i64 0),(.int .i64 0),(.str []),(.slice .full 0 []),(.bool false),(.slice .full 0 []),(.slice .full 0 []),(.slice .full 0 []),(.int .i64 0),(.int .i64 0),(.int .i64 0),(.int .i64 0)] 17 1 [(0,iH)]), .o 44 (.app 17 240 gK iS), .o 45 (.di fR), .o 46 (.au jM 2), .op none none (.store jN jx 1)] [(1,0),(2,0),(3,0),(4,0),(5,0),(6,0),(7,0),(0,0),(8,0),(9,0),(10,0)]
abbrev afp:AC:= .run [.o 47 (.au bh 13), .o 48 (.load jO false 1), .m 49 b9, .o 50 (.au bY 15), .o 51 (.load jP false 1), .o 52 (.au bh 16), .o 53 (.load kd false 1), .o 54 (.build [(.int .i64 0),(.int .i64 0),(.slice .full 0 []),(.str []),(.str []),(.int .i64 0),(.int .i64 0),(.str []),(.slice .full 0 []),(.bool false),(.slice .full 0 []),(.slice .full 0 []),(.slice .full 0 []),(.int .i64 0),(.int .i64 0),(.int .i64 0),(.int .i64 0)] [(13,(1,iT)),(14,(1,iU)),(15,(1,jQ)),(16,(1,ke))]), .o 10 (.alloc [(.int .i64 0),(.int .i64 0),(.slice .full 0 []),(.str []),(.str []),(.int .i64 0),(.int .i64 0),(.str []),(.slice .full 0 []),(.bool false),(.slice .full 0 []),(.slice .full 0 []),(.slice .full 0 []),(.int .i64 0),(.int .i64 0),(.int .i64 0),(.int .i64 0)]), .op none none (.store bF kE 17)]
abbrev afq:AC:= .seq (.seq (.run [.o 55 (.au bE 1), .o 56 (.load kU false 1), .o 57 (.bin .eql l6 (.k (.int .i64 6)))]) (.cond mF (.run [.m 58 b9, .m 59 b9, .o 60 (.au bF 15), .op none none (.store nX l7 1), .o 61 (.au bF 16), .op none none (.store pd kF 1)]) .skip)) (.seq (.run [.m 62 aR, .o 63 (.au bE 11), .o 64 (.load pf false 1), .o 65 (.load bF true 17), .c 66 ji [pe,qd,sb]]) (.run [.m 67 aR, .o 68 (.au bE 12), .o 69 (.load sd false 1), .o 70 (.load bF true 17), .c 71 ji [sc,vF,tJ]]))
abbrev afr:AC:= .seq (.seq (.run [.m 27 bL, .o 28 (.bin .add dS (.k (.int .i64 1))), .m 29 bc, .o 30 (.len eJ), .o 31 (.bin .lss eI fc)]) (.cond eW (.run [.m 32 b9, .o 33 (.load bE true 13), .c 34 lA [eZ], .o 35 (.bin .add fe fw), .o 36 (.au bY 15), .op none none (.store fA fq 1)]) .skip)) (.seq afo (.seq afp afq))
abbrev afs:AC:= .seq (.run [.m 15 bP, .o 16 (.cu bU bP 13), .o 17 (.load b6 true 13), .o 7 (.alloc [(.int .i64 0),(.int .i64 0),(.slice .full 0 []),(.str []),(.str []),(.int .i64 0),(.int .i64 0),(.str []),(.slice .full 0 []),(.bool false),(.slice .full 0 []),(.slice .full 0 []),(.slice .full 0 [])]), .m 6 cq, .op none none (.store bE cO 13)]) (.seq (.run [.m 18 aR, .o 19 (.di cH), .o 20 (.au cZ 2), .o 21 (.load dc false 1), .o 22 (.len dt), .o 23 (.bin .add dk (.k (.int .i64 1))), .m 8 dB]) (.seq (.run [.o 24 (.load bh true 17), .o 9 (.alloc [(.int .i64 0),(.int .i64 0),(.slice .full 0 []),(.str []),(.str []),(.int .i64 0),(.int .i64 0),(.str []),(.slice .full 0 []),(.bool false),(.slice .full 0 []),(.slice .full 0 []),(.slice .full 0 []),(.int .i64 0),(.int .i64 0),(.int .i64 0),(.int .i64 0)]), .op none none (.store bY dd 17)]) (.seq (.run [.o 25 (.load bE true 13), .o 26 (.au bY 0), .op none none (.store ej de 13)]) afr)))
abbrev aft:AC:= .seq (.cond bK .skip (.exit 0)) (.seq (.block 1 afs) (.run [.o 72 (.bin .add bP (.k (.int .i64 1))), .m 13 xd]))
abbrev afu:AC:= .seq (.run [.m 11 bc, .o 12 (.len bU), .o 13 (.mv (.k (.int .i64 0)))]) (.block 0 (.loop (.seq (.run [.o 14 (.bin .lss bP bO)]) aft)))
abbrev afv:AC:= .seq (.run [.o 5 (.box cQ)]) afu
abbrev afw:AC:= .block 1 (.seq (.run [.m 10 b9, .m 5 bF]) (.seq (.run [.m 11 bc, .m 12 aR, .m 13 bh, .o 14 (.cu bO bP 1), .o 15 (.load bK false 1),(.iA (some 16) none 11 [cq])]) (.cond b6 (.seq (.run [.m 17 bh, .m 4 cO]) .ret) .skip)))
abbrev afx:AC:= .seq (.cond bY .skip (.exit 0)) (.seq afw (.run [.o 18 (.bin .add b9 (.k (.int .i64 1))), .m 8 cH]))
abbrev afy:AC:= .seq (.run [.m 6 aR, .o 7 (.len bL), .o 8 (.mv (.k (.int .i64 0)))]) (.block 0 (.loop (.seq (.run [.o 9 (.bin .lss b9 bE)]) afx)))
abbrev afz:AC:= .seq (.run [(.o 4 (.mv (.k (.int .i64 (-1)))))]) .ret
abbrev afA:AC:= .seq (.run [.o 4 (.mv (.k (.int .i64 0)))]) (.seq afy afz)
abbrev afB:AC:= .seq (.seq (.run [.o 31 (.au bh 0), .o 32 (.load eW false 1)]) (.cond fe (.run [.m 33 bI, .o 34 (.au bh 1), .o 35 (.load fw false 1), .o 36 (.cG [(.str [])] 1 1 [(0,fq)]), .o 37 (.app 1 16 eZ fA), .m 3 fR]) .skip)) (.run [.m 38 bI, .o 39 (.au bh 2), .o 40 (.load ga true 4), .c 41 qb [gJ], .o 42 (.app 1 16 gl gK), .m 3 iH])
abbrev afC:AC:= .seq (.block 1 (.seq (.run [.o 29 (.cu de dS 6), .o 30 (.load eJ true 6), .o 5 (.alloc [(.bool false),(.str []),(.int .i64 0),(.int .i64 0),(.str []),(.slice .full 0 [])]), .op none none (.store bh fc 6)]) afB)) (.run [.o 43 (.bin .add dS (.k (.int .i64 1))), .m 27 iS])
abbrev afD:AC:= .block 0 (.loop (.seq (.run [.o 28 (.bin .lss dS ej)]) (.seq (.cond eI .skip (.exit 0)) afC)))
abbrev afE:AC:= .seq (.seq (.run [.o 24 (.au bc 10), .o 25 (.load dd false 1), .o 26 (.len de), .o 27 (.mv (.k (.int .i64 0)))]) afD) (.seq (.run [.m 44 bI, .m 2 jx]) .ret)
abbrev afF:AC:= .seq (.seq (.run [.o 6 (.au bc 1), .o 7 (.load bL false 1), .o 8 (.bin .neq bE (.k (.int .i64 10))), .m 9 b9, .g 10 9 true (.au bc 3), .g 11 9 true (.load bF false 1), .g 12 9 true (.bin .neq bU (.k (.str []))), .o 13 (.pick bY bO (.k (.bool false)))]) (.cond bP (.run [.m 14 bI, .o 15 (.au bc 3), .o 16 (.load cq false 1), .o 17 (.cG [(.str [])] 1 1 [(0,b6)]), .o 18 (.app 1 16 bK cO), .m 3 cH]) .skip)) (.seq (.run [.m 19 bI, .o 20 (.au bc 5), .o 21 (.load dc true 4), .c 22 qb [dt], .o 23 (.app 1 16 cZ dk), .m 3 dB]) afE)
abbrev afG:AC:= .seq (.run [.o 1 (.box aR), .o 2 (.mv (.k (.slice .full 0 [])))]) (.seq (.run [.o 3 (.mv (.k (.slice .full 0 [])))]) afF)
end Go.Abs

/-! Have2 -/

namespace Go.Abs
open Go.Proofs
theorem Dd:Has Tryz.prog jv 29 [(2,none)] QZ2:=⟨Tryz.f86,by kernel_rfl,by kernel_rfl⟩
theorem G9:Has Tryz.prog p7 5 [(2,(some (true,4)))] QZ6:=⟨Tryz.f95,by kernel_rfl,by kernel_rfl⟩
theorem E5:Has Tryz.prog km 5 [(2,(some (true,4)))] QZA:=⟨Tryz.f96,by kernel_rfl,by kernel_rfl⟩
theorem Ha:Has Tryz.prog sL 12 [(6,(some (true,4)))] QZE:=⟨Tryz.f97,by kernel_rfl,by kernel_rfl⟩
theorem zb:Has Tryz.prog jh 29 [(4,none)] QZX:=⟨Tryz.f98,by kernel_rfl,by kernel_rfl⟩
theorem B2:Has Tryz.prog rX 93 [(2,none)] afn:=⟨Tryz.f116,by kernel_rfl,by kernel_rfl⟩
theorem zc:Has Tryz.prog ji 73 [] afv:=⟨Tryz.f117,by kernel_rfl,by kernel_rfl⟩
theorem rG:Has Tryz.prog kc 19 [(4,none)] afA:=⟨Tryz.f118,by kernel_rfl,by kernel_rfl⟩
theorem De:Has Tryz.prog p8 45 [(2,none)] afG:=⟨Tryz.f119,by kernel_rfl,by kernel_rfl⟩
end Go.Abs
