/-
  What is proved here: part 1 of the road to the claim (Par, Par1, Par2, Par3, Step, Wp, Types, Mir, MirTree, Cnt, MirFlat, Nums, Codes0, Have0, Codes1, Have1, Codes2, Have2).
  No conditions.
-/
import Derived.Test.YtiopamakecmpkaaGreatCkA0
import Derived.Attr
import Derived.Test.YtiopamakecmpkaaGreatProg
import Derived.KernelRfl

set_option linter.unusedSimpArgs false
set_option linter.unusedVariables false

/-! Par -/

namespace Go.Abs
theorem X.cz {x:X} {tm b7:Tm} (h : ∀ t∈x.reads,tm.get t=b7.get t):x.ev tm=x.ev b7:=by
 cases x with
 | s t=>exact h t (by simp [X.reads])
 | k d=>rfl
theorem qK {t:Nat} {x:X} : ∀ {l:List X},x∈l→t∈x.reads→t∈nN l
 | [],h,_=>by cases h
 | y::r,h,ht=>by
  simp only [nN,List.mem_append]
  rcases List.mem_cons.1 h with rfl | h
  ·exact .inl ht
  ·exact .inr (qK h ht)
theorem vS {x:Option X} {tm b7:Tm} (h : ∀ t∈zL x,tm.get t=b7.get t):x.map (·.ev tm)=x.map (·.ev b7):=by
 cases x with
 | none=>rfl
 | some y=>simp only [Option.map_some];rw [X.cz h]
theorem BO {o:AO} {tm b7:Tm} {s:St} (h : ∀ t∈o.reads,tm.get t=b7.get t):aV o tm s=aV o b7 s:=by
 cases o with
 | mv x=>
  have hx:x.ev tm=x.ev b7:=X.cz fun t ht=>h t (by simp [AO.reads,ht])
  simp only [aV,hx]
 | pick c a b=>
  have hc:c.ev tm=c.ev b7:=X.cz fun t ht=>h t (by simp [AO.reads,ht])
  have ha:a.ev tm=a.ev b7:=X.cz fun t ht=>h t (by simp [AO.reads,ht])
  have hb:b.ev tm=b.ev b7:=X.cz fun t ht=>h t (by simp [AO.reads,ht])
  simp only [aV,hc,ha,hb]
 | alloc z=>
  rfl
 | sC z T=>rfl
 | zJ x T=>
  have hx:x.ev tm=x.ev b7:=X.cz fun t ht=>h t (by simp [AO.reads,ht])
  simp only [aV,hx]
 | zK x y=>
  have hx:x.ev tm=x.ev b7:=X.cz fun t ht=>h t (by simp [AO.reads,ht])
  have hy:y.ev tm=y.ev b7:=X.cz fun t ht=>h t (by simp [AO.reads,ht])
  simp only [aV,hx,hy]
 | apps x y=>
  have hx:x.ev tm=x.ev b7:=X.cz fun t ht=>h t (by simp [AO.reads,ht])
  have hy:y.ev tm=y.ev b7:=X.cz fun t ht=>h t (by simp [AO.reads,ht])
  simp only [aV,hx,hy]
 | box x=>
  have hx:x.ev tm=x.ev b7:=X.cz fun t ht=>h t (by simp [AO.reads,ht])
  simp only [aV,hx]
 | zI x=>
  have hx:x.ev tm=x.ev b7:=X.cz fun t ht=>h t (by simp [AO.reads,ht])
  simp only [aV,hx]
 | load x g n=>
  have hx:x.ev tm=x.ev b7:=X.cz fun t ht=>h t (by simp [AO.reads,ht])
  simp only [aV,hx]
 | store p x n=>
  have hp:p.ev tm=p.ev b7:=X.cz fun t ht=>h t (by simp [AO.reads,ht])
  have hx:x.ev tm=x.ev b7:=X.cz fun t ht=>h t (by simp [AO.reads,ht])
  simp only [aV,hp,hx]
 | dv x=>
  have hx:x.ev tm=x.ev b7:=X.cz fun t ht=>h t (by simp [AO.reads,ht])
  simp only [aV,hx]
 | bin op x y=>
  have hx:x.ev tm=x.ev b7:=X.cz fun t ht=>h t (by simp [AO.reads,ht])
  have hy:y.ev tm=y.ev b7:=X.cz fun t ht=>h t (by simp [AO.reads,ht])
  simp only [aV,hx,hy]
 | ze n x y=>
  have hx:x.ev tm=x.ev b7:=X.cz fun t ht=>h t (by simp [AO.reads,ht])
  have hy:y.ev tm=y.ev b7:=X.cz fun t ht=>h t (by simp [AO.reads,ht])
  simp only [aV,hx,hy]
 | eqs n ks x y=>
  have hx:x.ev tm=x.ev b7:=X.cz fun t ht=>h t (by simp [AO.reads,ht])
  have hy:y.ev tm=y.ev b7:=X.cz fun t ht=>h t (by simp [AO.reads,ht])
  simp only [aV,hx,hy]
 | Fq n x y=>
  have hx:x.ev tm=x.ev b7:=X.cz fun t ht=>h t (by simp [AO.reads,ht])
  have hy:y.ev tm=y.ev b7:=X.cz fun t ht=>h t (by simp [AO.reads,ht])
  simp only [aV,hx,hy]
 | un op x=>
  have hx:x.ev tm=x.ev b7:=X.cz fun t ht=>h t (by simp [AO.reads,ht])
  simp only [aV,hx]
 | conv k x=>
  have hx:x.ev tm=x.ev b7:=X.cz fun t ht=>h t (by simp [AO.reads,ht])
  simp only [aV,hx]
 | CK x=>
  have hx:x.ev tm=x.ev b7:=X.cz fun t ht=>h t (by simp [AO.reads,ht])
  simp only [aV,hx]
 | xq x=>
  have hx:x.ev tm=x.ev b7:=X.cz fun t ht=>h t (by simp [AO.reads,ht])
  simp only [aV,hx]
 | aq x n=>
  have hx:x.ev tm=x.ev b7:=X.cz fun t ht=>h t (by simp [AO.reads,ht])
  simp only [aV,hx]
 | rz x n g m=>
  have hx:x.ev tm=x.ev b7:=X.cz fun t ht=>h t (by simp [AO.reads,ht])
  simp only [aV,hx]
 | bA x i n=>
  have hx:x.ev tm=x.ev b7:=X.cz fun t ht=>h t (by simp [AO.reads,ht])
  have hi:i.ev tm=i.ev b7:=X.cz fun t ht=>h t (by simp [AO.reads,ht])
  simp only [aV,hx,hi]
 | oK x i=>
  have hx:x.ev tm=x.ev b7:=X.cz fun t ht=>h t (by simp [AO.reads,ht])
  have hi:i.ev tm=i.ev b7:=X.cz fun t ht=>h t (by simp [AO.reads,ht])
  simp only [aV,hx,hi]
 | ext x i=>
  have hx:x.ev tm=x.ev b7:=X.cz fun t ht=>h t (by simp [AO.reads,ht])
  simp only [aV,hx]
 | len x=>
  have hx:x.ev tm=x.ev b7:=X.cz fun t ht=>h t (by simp [AO.reads,ht])
  simp only [aV,hx]
 | lB x=>
  have hx:x.ev tm=x.ev b7:=X.cz fun t ht=>h t (by simp [AO.reads,ht])
  simp only [aV,hx]
 | app a b x y=>
  have hx:x.ev tm=x.ev b7:=X.cz fun t ht=>h t (by simp [AO.reads,ht])
  have hy:y.ev tm=y.ev b7:=X.cz fun t ht=>h t (by simp [AO.reads,ht])
  simp only [aV,hx,hy]
 | mm b x y=>
  have hx:x.ev tm=x.ev b7:=X.cz fun t ht=>h t (by simp [AO.reads,ht])
  have hy:y.ev tm=y.ev b7:=X.cz fun t ht=>h t (by simp [AO.reads,ht])
  simp only [aV,hx,hy]
 | build z ps=>
  have hp:(ps.map fun p=>(p.1,p.2.1,p.2.2.ev tm))=ps.map fun p=>(p.1,p.2.1,p.2.2.ev b7):=List.map_congr_left fun p hp=>by
   have:p.2.2.ev tm=p.2.2.ev b7:=X.cz fun t ht=>h t (by simp only [AO.reads];exact qK (List.mem_map_of_mem hp) ht)
   rw [this]
  simp only [aV,hp]
 | cG z m n ps=>
  have hp:(ps.map fun p=>(p.1,p.2.ev tm))=ps.map fun p=>(p.1,p.2.ev b7):=List.map_congr_left fun p hp=>by
   have:p.2.ev tm=p.2.ev b7:=X.cz fun t ht=>h t (by simp only [AO.reads];exact qK (List.mem_map_of_mem hp) ht)
   rw [this]
  simp only [aV,hp]
 | uB z m n ps=>
  have hp:(ps.map fun p=>(p.1,p.2.ev tm))=ps.map fun p=>(p.1,p.2.ev b7):=List.map_congr_left fun p hp=>by
   have:p.2.ev tm=p.2.ev b7:=X.cz fun t ht=>h t (by simp only [AO.reads];exact qK (List.mem_map_of_mem hp) ht)
   rw [this]
  simp only [aV,hp]
 | HC n x lo hi=>
  have hx:x.ev tm=x.ev b7:=X.cz fun t ht=>h t (by simp [AO.reads,ht])
  have hl:lo.map (·.ev tm)=lo.map (·.ev b7):=vS fun t ht=>h t (by simp [AO.reads,ht])
  have hh:hi.map (·.ev tm)=hi.map (·.ev b7):=vS fun t ht=>h t (by simp [AO.reads,ht])
  simp only [aV,hx,hl,hh]
 | ye x lo hi=>
  have hx:x.ev tm=x.ev b7:=X.cz fun t ht=>h t (by simp [AO.reads,ht])
  have hl:lo.map (·.ev tm)=lo.map (·.ev b7):=vS fun t ht=>h t (by simp [AO.reads,ht])
  have hh:hi.map (·.ev tm)=hi.map (·.ev b7):=vS fun t ht=>h t (by simp [AO.reads,ht])
  simp only [aV,hx,hl,hh]
 | tP f xs=>
  have hp:(xs.map fun x=>x.ev tm)=xs.map fun x=>x.ev b7:=List.map_congr_left fun x hx=>X.cz fun t ht=>h t (by simp only [AO.reads];exact qK hx ht)
  simp only [aV,hp]
 | tQ=>rfl
 | yf m k v=>
  have hm:m.ev tm=m.ev b7:=X.cz fun t ht=>h t (by simp [AO.reads,ht])
  have hk:k.ev tm=k.ev b7:=X.cz fun t ht=>h t (by simp [AO.reads,ht])
  have hv:v.ev tm=v.ev b7:=X.cz fun t ht=>h t (by simp [AO.reads,ht])
  simp only [aV,hm,hk,hv]
 | vH m k z=>
  have hm:m.ev tm=m.ev b7:=X.cz fun t ht=>h t (by simp [AO.reads,ht])
  have hk:k.ev tm=k.ev b7:=X.cz fun t ht=>h t (by simp [AO.reads,ht])
  simp only [aV,hm,hk]
theorem JX {o:AO} (ho:gE o.kind=false) {tm:Tm} {s s':St} {d:D} (h:aV o tm s=some (d,s')):s'=s:=by
 cases o <;> simp only [AO.kind,gE]at ho <;> first | cases ho | skip
 all_goals
  simp only [aV]at h
  first
   | (cases h;rfl)
   | (repeat' (split at h)) <;> first | (cases h;rfl) | cases h
theorem LX {o:AO} (ho:o.kind = .pure) {tm:Tm} {s s':St} : (aV o tm s).map (·.1)=(aV o tm s').map (·.1):=by
 cases o <;> simp only [AO.kind]at ho <;> first | cases ho | skip
 all_goals
  simp only [aV]
  first
   | rfl
   | (repeat' split) <;> rfl
def jL (ai:AI) (tm:Tm) (s:St):Option D:=
 match ai with
 | .op _ none o=>(aV o tm s).map (·.1)
 | .op _ (some (t,want)) o=>
  match tm.get t with
  | .bool b=>if b=want then(aV o tm s).map (·.1)else some (.tuple [])
  | .tuple _=>some (.tuple [])
  | _=>none
 | _=>none
def sd (P:Program) (ai:AI) (tm:Tm) (s:St) (d:D) (s':St):Prop:=
 match ai with
 | .op _ g o=>guarded g tm (aV o tm s=some (d,s')) (d = .tuple []∧s'=s)
 | .call _ g f xs=>guarded g tm (eU P f (xs.map (·.ev tm)) s fun x y=>x=d∧y=s') (d = .tuple []∧s'=s)
 | .nil .. =>False
 | .jg .. =>False
def kH (P:Program) (is:List AI) (K:Tm→St→Prop):List (Nat×Nat)→List St→Tm→St→Prop
 | [],_,tm,s=>K tm s
 | (q,b)::r,bQ,tm,s=>
  match is[q]? with
  | none=>False
  | some ai=>
   match gE ai.kind with
   | true=>∃ d s',sd P ai tm s d s'∧kH P is K r (s::bQ) (tm.put ai.dst d) s'
   | false=>∃ d,jL ai tm s=some d∧(ai.kind = .load→∀ s'∈bQ.take b,jL ai tm s'=some d)∧kH P is K r bQ (tm.put ai.dst d) s
def Tm.eqv (a b:Tm):Prop:=∀ t,a.get t=b.get t
theorem Tm.k6 (tm:Tm) (dst:Option Nat) (d:D) (t:Nat):(tm.put dst d).get t=if dst=some t then d else tm.get t:=by
 cases dst with
 | none=>simp [Tm.put]
 | some u=>
  simp only [Tm.put,Tm.Bd,Option.some.injEq]
  by_cases h:t=u
  ·subst h;simp
  ·rw [if_neg h,if_neg (fun e=>h e.symm)]
theorem Tm.eqv.put {a b:Tm} (h:a.eqv b) (dst:Option Nat) (d:D):(a.put dst d).eqv (b.put dst d):=fun t=>by
 rw [Tm.k6,Tm.k6,h t]
theorem Tm.H6 (tm:Tm) {x y:Option Nat} (h : ∀ t,x=some t→y≠some t) (d e:D):((tm.put x d).put y e).eqv ((tm.put y e).put x d):=fun t=>by
 simp only [Tm.k6]
 by_cases h1:x=some t
 ·simp only [h1,h t h1,if_true,if_false]
 ·simp only [h1,if_false]
theorem zm {g:Option (Nat×Bool)} {tm b7:Tm} {A A' C:Prop} (h : ∀ t∈uC g,tm.get t=b7.get t) (ha:A→A') (hh:guarded g tm A C):guarded g b7 A' C:=by
 cases g with
 | none=>exact ha hh
 | some p=>
  obtain⟨t,want⟩:=p
  unfold guarded at *
  simp only at *
  rw [← h t (by simp [uC])]
  split
  ·rename_i b hb
   rw [hb]at hh
   exact⟨fun e=>ha (hh.1 e),hh.2⟩
  ·rename_i hb
   rw [hb]at hh
   exact hh
  ·rename_i x h1 h2
   split at hh
   ·exact h1 _ ‹_›
   ·exact h2 _ ‹_›
   ·exact hh
theorem FE {tm b7:Tm} : ∀ {l:List X},(∀ t∈nN l,tm.get t=b7.get t)→l.map (·.ev tm)=l.map (·.ev b7)
 | [],_=>rfl
 | x::r,h=>by
  simp only [List.map_cons]
  rw [X.cz fun t ht=>h t (by simp [nN,ht]),FE (l:=r) fun t ht=>h t (by simp [nN,ht])]
theorem wN {P:Program} {ai:AI} {tm b7:Tm} {s s':St} {d:D} (h : ∀ t∈ai.reads,tm.get t=b7.get t) (hh:sd P ai tm s d s'):sd P ai b7 s d s':=by
 cases ai with
 | op dst g o=>
  simp only [AI.reads,List.mem_append]at h
  exact zm (fun t ht=>h t (.inl ht)) (fun e=>by rw [← BO fun t ht=>h t (.inr ht)];exact e) hh
 | call dst g f xs=>
  simp only [AI.reads,List.mem_append]at h
  exact zm (fun t ht=>h t (.inl ht)) (fun e=>by rw [← FE fun t ht=>h t (.inr ht)];exact e) hh
 | nil dst g n x=>exact hh
 | jg dst g t xs=>exact hh
theorem qv {ai:AI} {tm b7:Tm} {s:St} (h : ∀ t∈ai.reads,tm.get t=b7.get t):jL ai tm s=jL ai b7 s:=by
 cases ai with
 | op dst g o=>
  simp only [AI.reads,List.mem_append]at h
  have he:=BO (s:=s) fun t ht=>h t (.inr ht)
  cases g with
  | none=>simp only [jL,he]
  | some p=>
   obtain⟨t,want⟩:=p
   simp only [jL,he,h t (.inl (by simp [uC]))]
 | call dst g f xs=>rfl
 | nil dst g n x=>rfl
 | jg dst g t xs=>rfl
theorem KS {dst:Option Nat} {g:Option (Nat×Bool)} {o:AO} (h:gE (AI.op dst g o).kind=false):(AI.op dst g o).kind=o.kind:=by
 unfold AI.kind at *
 split at h
 ·cases h
 ·rename_i heq;cases heq;rfl
 ·cases h
theorem R6 {ai:AI} (hk:ai.kind = .pure) {tm:Tm} {s s':St} : jL ai tm s=jL ai tm s':=by
 cases ai with
 | op dst g o=>
  have ho:o.kind = .pure:=by rw [← hk];exact(KS (by rw [hk];rfl)).symm
  have he:=LX ho (tm:=tm) (s:=s) (s':=s')
  cases g with
  | none=>simp only [jL,he]
  | some p=>simp only [jL,he]
 | call dst g f xs=>rfl
 | nil dst g n x=>rfl
 | jg dst g t xs=>rfl
theorem apart_spec {a q:AI} (h:a.apart q=true):(∀ t,a.dst=some t→t∉q.reads)∧(∀ t,q.dst=some t→t∉a.reads)∧(∀ t,a.dst=some t→q.dst≠some t):=by
 unfold AI.apart at h
 simp only [Bool.and_eq_true]at h
 obtain⟨⟨h1,h2⟩,h3⟩:=h
 refine⟨fun t e=> ?_,fun t e=> ?_,fun t e e'=> ?_⟩
 ·rw [e]at h1;simpa [CN]using h1
 ·rw [e]at h2;simpa [CN]using h2
 ·rw [e,e']at h3;simp at h3
theorem se {tm:Tm} {dst:Option Nat} {d:D} {l:List Nat} (h : ∀ t,dst=some t→t∉l) : ∀ t∈l,tm.get t=(tm.put dst d).get t:=fun t ht=>by
 rw [Tm.k6,if_neg fun e=>h t e ht]
section
variable {P:Program} {is:List AI} {K:Tm→St→Prop}
theorem sf (hK : ∀ tm b7 s,Tm.eqv tm b7→K tm s→K b7 s) : ∀ (R:List (Nat×Nat)) (bQ:List St) (tm b7:Tm) (s:St),tm.eqv b7→kH P is K R bQ tm s→kH P is K R bQ b7 s
 | [],_,tm,b7,s,e,h=>hK tm b7 s e h
 | (q,b)::R,bQ,tm,b7,s,e,h=>by
  unfold kH at *
  split at h
  ·exact h.elim
  ·rename_i ai vQ
   split at h
   ·rename_i hc
    obtain⟨d,s',h1,h2⟩:=h
    exact⟨d,s',wN (fun t _=>e t) h1,sf hK R _ _ _ _ (e.put _ d) h2⟩
   ·rename_i hc
    obtain⟨d,h1,h2,h3⟩:=h
    refine⟨d, ?_,fun hl s' oN=> ?_,sf hK R _ _ _ _ (e.put _ d) h3⟩
    ·rw [← qv fun t _=>e t];exact h1
    ·rw [← qv fun t _=>e t];exact h2 hl s' oN
theorem H7 (i:Nat) (l:List Nat):jt is (i::l)=(if gE (jh is i)then 1 else 0)+jt is l:=by
 unfold jt
 rw [List.filter_cons]
 split <;> simp <;> omega
theorem wO (hK : ∀ tm b7 s,Tm.eqv tm b7→K tm s→K b7 s) {q b:Nat} {ai:AI} (hq:is[q]? = some ai) (hm:gE ai.kind=false) (Y:List (Nat×Nat)) :
 ∀ (X:List (Nat×Nat)) (bQ:List St) (tm:Tm) (s:St),(∀ a∈X,kW is a.1 q=true)→(ai.kind = .load→jt is (X.map (·.1))≤b)→
  kH P is K (X++(q,b)::Y) bQ tm s→
  ∃ d,jL ai tm s=some d∧(ai.kind = .load→∀ s'∈bQ.take (b - jt is (X.map (·.1))),jL ai tm s'=some d)∧kH P is K (X++Y) bQ (tm.put ai.dst d) s
 | [],bQ,tm,s,_,_,h=>by
  simp only [List.nil_append,kH,hq,hm]at h
  obtain⟨d,h1,h2,h3⟩:=h
  exact⟨d,h1,fun hl s' oN=>h2 hl s' (by simpa [jt]using oN),h3⟩
 | (a,c)::X,bQ,tm,s,dh,hb,h=>by
  have LY:=dh (a,c) (by simp)
  unfold kW at LY
  split at LY
  ·rename_i ia iq hia tG
   rw [hq]at tG
   cases tG
   obtain⟨p1,p2,p3⟩:=apart_spec LY
   have Fz:jh is a=ia.kind:=by simp [jh,hia]
   have G9 : ∀ x∈X,kW is x.1 q=true:=fun x hx=>dh x (List.mem_cons_of_mem _ hx)
   rw [List.map_cons,H7,Fz]at hb ⊢
   simp only [List.cons_append,kH,hia]at h ⊢
   cases hc:gE ia.kind
   ·simp only [hc,Bool.false_eq_true,if_false,Nat.zero_add]at h hb ⊢
    obtain⟨d,h1,h2,h3⟩:=h
    obtain⟨e,g1,g2,g3⟩:=wO hK hq hm Y X bQ _ s G9 hb h3
    have cg : ∀ s,jL ai tm s=jL ai (tm.put ia.dst d) s:=fun s=>qv (se p1)
    have cg' : ∀ s,jL ia tm s=jL ia (tm.put ai.dst e) s:=fun s=>qv (se p2)
    refine⟨e,by rw [cg];exact g1,fun hl s' oN=>by rw [cg];exact g2 hl s' oN,d,by rw [← cg'];exact h1,fun hl s' oN=>by rw [← cg'];exact h2 hl s' oN, ?_⟩
    exact sf hK _ _ _ _ _ (Tm.H6 tm p3 d e) g3
   ·simp only [hc,if_true]at h hb ⊢
    obtain⟨d,s1,h1,h3⟩:=h
    obtain⟨e,g1,g2,g3⟩:=wO hK hq hm Y X (s::bQ) _ s1 G9 (fun hl=>by have:=hb hl;omega) h3
    have cg : ∀ s,jL ai tm s=jL ai (tm.put ia.dst d) s:=fun s=>qv (se p1)
    have qc:jL ai tm s=some e:=by
     cases hk:ai.kind with
     | pure=>rw [cg,R6 hk (s':=s1)];exact g1
     | load=>
      have:=hb hk
      rw [cg]
      refine g2 hk s ?_
      rw [show b - jt is (X.map (·.1))=(b - (1+jt is (X.map (·.1))))+1 by omega,List.take_succ_cons]
      exact List.mem_cons_self
     | alloc=>rw [hk]at hm;cases hm
     | core=>rw [hk]at hm;cases hm
    refine⟨e,qc,fun hl s' oN=> ?_,d,s1,wN (se p2) h1,sf hK _ _ _ _ _ (Tm.H6 tm p3 d e) g3⟩
    have:=hb hl
    rw [cg]
    refine g2 hl s' ?_
    rw [show b - jt is (X.map (·.1))=(b - (1+jt is (X.map (·.1))))+1 by omega,List.take_succ_cons]
    exact List.mem_cons_of_mem _ oN
  ·cases LY
end
end Go.Abs

/-! Par1 -/

namespace Go.Abs
section
variable {P:Program}
theorem Pf {o:Oper} {z:List D} (h:CO P o=some (.alloc z)) : ∃ t,o.op = .alloc t∧zeroOf P t=some z:=by
 obtain⟨dst,op,type,pos,after,guard⟩:=o
 unfold CO at h
 simp only at h
 split at h
 case h_4 t=>
  split at h
  ·obtain⟨z',h1,h2⟩:=map_some h;cases h2
  ·obtain⟨z',h1,h2⟩:=map_some h;cases h2;exact⟨t,rfl,h1⟩
 all_goals
  first
   | (rw [Option.map_eq_some_iff]at h;obtain⟨_,_,h⟩:=h;cases h)
   | skip
 all_goals
  (repeat' (split at h)) <;> first | (cases h;done) | (rw [Option.map_eq_some_iff]at h;obtain⟨_,_,h⟩:=h;cases h)
theorem Ae {nt:Nat} {ops:Array Oper} {o:Oper} {ai:AI} (h:cI P nt ops o=some ai) :
 ∃ g,uD ops o.guard=some g∧(∀ t,o.dst=some t→t<nt)∧sa P ops o g=some ai:=by
 have h2:=xA h
 unfold cI at h
 split at h
 ·cases h
 ·rename_i g hg
  split at h
  ·exact⟨g,hg,h2,h⟩
  ·cases h
theorem sK {ops:Array Oper} {o:Oper} {g:Option (Nat×Bool)} {ai:AI} (h:sa P ops o g=some ai):ai.dst=o.dst:=by
 unfold sa at h
 split at h
 ·split at h
  ·obtain⟨xs,_,rfl⟩:=map_some h;rfl
  ·cases h
 ·obtain⟨xs,_,rfl⟩:=map_some h;rfl
 ·split at h
  ·cases h;rfl
  ·split at h
   ·cases h;rfl
   ·cases h;rfl
   ·cases h
theorem sL {nt:Nat} {ops:Array Oper} {o:Oper} {ai:AI} (h:cI P nt ops o=some ai):ai.dst=o.dst:=by
 obtain⟨g,_,_,h⟩:=Ae h
 exact sK h
theorem wP {nt:Nat} {ops:Array Oper} {i:Nat} {o:Oper} {ai:AI} (hi:ops[i]? = some o) (hc:cI P nt ops o=some ai)
 {M:Map} {s:St} {w:World} {tm:Tm} {act:Act} (r:Rel M s w) (lk:Laid M s w) (ht:lM M s tm act.tmps) {K':Tm→St→Prop} (h:iQ P [ai] K' tm s)
 {K:Act→World→Prop} {Q:Exit→Act→World→Prop}
 (hK : ∀ d v s1 w1 M1,K' (tm.put ai.dst d) s1→Ext M s w M1 s1 w1→Rel M1 s1 w1→RD M1 s1 d v→K (act.put o.dst v) w1):wpOp P ops Q i K act w:=by
 obtain⟨g,hg,_,hb⟩:=Ae hc
 rw [sK hb]at hK
 simp only [wpOp,hi]
 have skip:K' (tm.put o.dst (.tuple [])) s→K (act.put o.dst Go.undef) w:=fun hk=>hK _ _ _ _ _ hk (Ext.refl M s w) r .undef
 unfold sa at hb
 split at hb
 ·rename_i f args nT mn
  split at hb
  ·rename_i ym
   obtain⟨xs,oq,rfl⟩:=map_some hb
   simp only [iQ]at h
   rcases jX hg ht h with ⟨hw,hA⟩ | ⟨hw,hB⟩
   ·simp only [hw,if_true]
    left
    have hex:(execOp act.eval o).run P w = .ok (.enter f (args.map act.eval)) w:=by
     obtain⟨dst,op,type,pos,after,guard⟩:=o
     simp only at mn
     subst mn
     exact wL act.eval dst f args nT type pos after guard rfl ym w
    obtain⟨c1,c2⟩:=vP ht oq
    unfold Oper.wp
    rw [hex,Oper.upon_enter]
    refine(hA M w (args.map act.eval) r lk (by simp [c1]) (fun i d v e1 e2=>c2 i d v e1 (by simpa using e2))).mono ?_
    rintro en w' ⟨M',d,v,s',rfl,hk,e',r',hv⟩
    exact hK _ _ _ _ _ hk e' r' hv
   ·simp only [hw]
    exact skip hB
  ·cases hb
 ·rename_i t args nT mn
  obtain⟨xs,oq,rfl⟩:=map_some hb
  simp only [iQ]at h
  rcases jX hg ht h with ⟨hw,hA⟩ | ⟨hw,hB⟩
  ·simp only [hw,if_true]
   left
   split at hA
   ·rename_i f nu zj
    obtain⟨ym,hA⟩:=hA
    have O0:=ht t
    rw [zj]at O0
    obtain⟨vs,oQ,hlen,C3⟩:=O0.KH
    have hex:(execOp act.eval o).run P w = .ok (.enter f (args.map act.eval++vs)) w:=by
     obtain⟨dst,op,type,pos,after,guard⟩:=o
     simp only at mn
     subst mn
     exact zY act.eval dst (.tmp t) f vs args nT type pos after guard oQ ym w
    have cc:=FA oq ht hlen C3
    unfold Oper.wp
    rw [hex,Oper.upon_enter]
    refine(hA M w (args.map act.eval++vs) r lk cc.1 cc.2).mono ?_
    rintro en w' ⟨M',d,v,s',rfl,hk,e',r',hv⟩
    exact hK _ _ _ _ _ hk e' r' hv
   ·exact hA.elim
  ·simp only [hw]
   exact skip hB
 ·split at hb
  ·rename_i neg x HW
   cases hb
   simp only [iQ]at h
   rcases jX hg ht h with ⟨hw,hA⟩ | ⟨hw,hB⟩
   ·simp only [hw,if_true]
    left
    split at hA
    ·rename_i g' z rows hx
     obtain⟨b,hb,hex⟩:=zi (w:=w) HW ht hx
     unfold Oper.wp
     rw [hex,Oper.upon_value]
     exact hK _ _ _ _ _ (hA b hb) (Ext.refl M s w) r (.bool _)
    ·exact hA.elim
   ·simp only [hw]
    exact skip hB
  ·have fin : ∀ ao,ai = .op o.dst g ao→(∀ d s',aV ao tm s=some (d,s')→dK P M s w (execOp act.eval o) d s')→
    (if Region.wanted o (yielded ops act.tmps)=true then o.wp P act w K Q∨(o.asks P act w∧LetsOut Q)else K (act.put o.dst Go.undef) w):=by
    intro ao vQ YS
    subst vQ
    simp only [iQ]at h
    rcases jX hg ht h with ⟨hw,hA⟩ | ⟨hw,hB⟩
    ·simp only [hw,if_true]
     left
     split at hA
     ·rename_i d s' qu
      obtain⟨v,w',M',dS,r',hv,e'⟩:=YS d s' qu
      unfold Oper.wp
      rcases dS with dS | ⟨dS,rfl⟩
      ·rw [dS,Oper.upon_value]
       exact hK _ _ _ _ _ hA e' r' hv
      ·rw [dS,Oper.upon_skip]
       exact hK _ _ _ _ _ hA e' r' hv
     ·exact hA.elim
    ·simp only [hw]
     exact skip hB
   split at hb
   ·rename_i z k n ps nU
    cases hb
    refine fin _ rfl (fun d s' qu=> ?_)
    split at qu
    ·exact yl nU r ht qu
    ·exact sb nU r ht qu
   ·rename_i ao nU
    cases hb
    exact fin _ rfl (fun d s' qu=>sb nU r ht qu)
   ·cases hb
structure KT (M:Map) (s:St) (b:Nat):Prop where
 o : ∀ o,o<s.aG.length→M.mu o≠b
 t : ∀ t c z,s.live t→M.be t≠some (b,c,z)
 g : ∀ off,M.G b off=none
theorem KT.mono {M M':Map} {s s':St} {w w':World} {b:Nat} (h:KT M s b) (e:Ext M s w M' s' w') (hb:b<w.heap.size):KT M' s' b:=by
 refine⟨fun o ho=> ?_,fun t c z hl he=> ?_,fun off=> ?_⟩
 ·rcases Nat.lt_or_ge o s.aG.length with h1 | h1
  ·rw [e.le.mu o h1];exact h.o o h1
  ·have:=e.qB o h1 ho;omega
 ·rcases e.qC t b c z hl he with ⟨h1,c',z',h2⟩ | h1
  ·exact h.t t c' z' h1 h2
  ·omega
 ·by_cases hg:M'.G b off=M.G b off
  ·rw [hg];exact h.g off
  ·rcases e.sZ b off hg with h1 | ⟨t,c,z,h1,h2⟩
   ·omega
   ·exact(h.t t c z h1 h2).elim
theorem Rel.idle {M:Map} {s:St} {w:World} (r:Rel M s w) (x:Obj):Rel M s (w.alloc x)∧Ext M s w M s (w.alloc x)∧KT M s w.heap.size:=by
 refine⟨⟨fun b o v e=> ?_,fun o ds e=> ?_,r.k7,r.inj,fun t n e=> ?_,r.fL,r.gq⟩, ?_,⟨fun o ho=> ?_,fun t c z hl e=> ?_,fun off=>r.UZ (Nat.le_refl _) off⟩⟩
 ·obtain⟨h3,h4⟩:=r.comm b o v e
  refine⟨?_,h4⟩
  rw [World.cell?_alloc_lt]
  ·exact h3
  ·exact r.Eb e
 ·obtain⟨vs,T,h3,h4,h5,h6⟩:=r.obj o ds e
  exact⟨vs,T,by rw [heap_alloc_old w _ _ h3.lt];exact h3,h4,h5,h6⟩
 ·rcases r.tok t n e with h3 | ⟨b,cap,size,fW,T',h3,h4,h5⟩
  ·exact .inl h3
  ·exact .inr ⟨b,cap,size,fW,T',h3,by rw [heap_alloc_old w _ _ (lK h4)];exact h4,h5⟩
 ·exact⟨Le.refl M s,fun b hb _ _=>heap_alloc_old w _ b hb,fun o h3 h4=>by omega,fun t b c z h e=> .inl ⟨h,c,z,e⟩,fun _ _ h=>(h rfl).elim,by simp,rfl,rfl,rfl⟩
 ·have:=r.qF ho;omega
 ·have:=r.tR hl e;omega
theorem Rel.acE {M:Map} {s:St} {w:World} (r:Rel M s w) {B:fI} (e:Ext B.M B.s B.w M s w) {b:Nat} (u:KT M s b) (hb:B.w.heap.size≤b)
 (ds:List D) (vs:Array Value) (T:TypeId) (hh:w.heap[b]? = some (.cells vs T (0,0))) (hl:vs.size=ds.length) (h1 : ∀ v∈vs,v.oneCell'=true)
 (h2 : ∀ (i:Nat) (d:D) (v:Value),ds[i]? = some d→vs[i]? = some v→RD M s d v) :
 Rel (M.er s.aG.length b) {s with aG:=s.aG++ [ds]} w∧Ext B.M B.s B.w (M.er s.aG.length b) {s with aG:=s.aG++ [ds]} w∧
 Le M s (M.er s.aG.length b) {s with aG:=s.aG++ [ds]}:=by
 have le:=uE (M:=M) s b ds
 have qs : ∀ o,o<s.aG.length→(M.er s.aG.length b).mu o=M.mu o:=le.mu
 have ey:(M.er s.aG.length b).mu s.aG.length=b:=by simp [Map.er,Map.mu]
 refine⟨⟨r.comm,fun o om e'=> ?_,fun o ho off=> ?_,fun o o' ho np e'=> ?_,r.tok,fun t b' c z o hl e' ho=> ?_,r.gq⟩, ?_,le⟩
 ·rcases Nat.lt_or_ge o s.aG.length with ho | ho
  ·rw [List.getElem?_append_left ho]at e'
   obtain⟨fW,T',h3,h4,h5,h6⟩:=r.obj o om e'
   refine⟨fW,T', ?_,h4,⟨h5.1,by rw [le.ty o ho];exact h5.2⟩,fun i d v e1 e2=>(h6 i d v e1 e2).mono le⟩
   rw [qs o ho,le.ob o ho];exact h3
  ·rw [List.getElem?_append_right ho]at e'
   have:o=s.aG.length:=by
    have:=(List.getElem?_eq_some_iff.1 e').1
    simp at this;omega
   subst this
   simp at e';subst e'
   refine⟨vs,T, ?_,hl,⟨h1,fun T' h=>by simp [Map.er,Map.ty,Ob.ty?]at h⟩,fun i d v e1 e2=>(h2 i d v e1 e2).mono le⟩
   rw [ey];exact mD.of hh (by simp [Map.er,Map.ob])
 ·simp at ho
  rcases Nat.lt_or_ge o s.aG.length with h3 | h3
  ·rw [qs o h3];exact r.k7 o h3 off
  ·have:o=s.aG.length:=by omega
   subst this
   rw [ey];exact u.g off
 ·simp at ho np
  rcases Nat.lt_or_ge o s.aG.length with h3 | h3 <;> rcases Nat.lt_or_ge o' s.aG.length with h4 | h4
  ·rw [qs o h3,qs o' h4]at e';exact r.inj o o' h3 h4 e'
  ·have:o'=s.aG.length:=by omega
   subst this
   rw [qs o h3,ey]at e'
   exact(u.o o h3 e').elim
  ·have:o=s.aG.length:=by omega
   subst this
   rw [qs o' h4,ey]at e'
   exact(u.o o' h4 e'.symm).elim
  ·omega
 ·simp at ho
  rcases Nat.lt_or_ge o s.aG.length with h3 | h3
  ·rw [qs o h3];exact r.fL t b' c z o hl e' h3
  ·have:o=s.aG.length:=by omega
   subst this
   rw [ey]
   intro he
   subst he
   exact u.t t c z hl e'
 ·refine⟨e.le.trans le,e.kept,fun o h3 h4=> ?_,e.qC,e.sZ,e.size,e.os,e.tape,e.output⟩
  simp at h4
  rcases Nat.lt_or_ge o s.aG.length with h5 | h5
  ·rw [qs o h5];exact e.qB o h3 h5
  ·have:o=s.aG.length:=by omega
   subst this
   rw [ey];exact hb
theorem JY {nt:Nat} {ops:Array Oper} {i:Nat} {o:Oper} {t:Nat} {z:List D} (hi:ops[i]? = some o) (hc:cI P nt ops o=some (.op (some t) none (.alloc z)))
 {w:World} {act:Act} {K:Act→World→Prop} {Q:Exit→Act→World→Prop}
 (hK : ∀ vs T,vs.size=z.length→(∀ v∈vs,v.oneCell'=true)→(∀ (M:Map) (s:St) (i:Nat) (d:D) (v:Value),z[i]? = some d→vs[i]? = some v→RD M s d v)→
  K (act.put (some t) (.pointer (some ⟨w.heap.size,0,none⟩))) (w.alloc (.cells vs T))):wpOp P ops Q i K act w:=by
 obtain⟨g,hg,_,hb⟩:=Ae hc
 have qk:=sK hb
 simp only [AI.dst]at qk
 simp only [wpOp,hi]
 have mn:g=none∧CO P o=some (.alloc z):=by
  unfold sa at hb
  split at hb
  ·split at hb
   ·obtain⟨xs,_,h⟩:=map_some hb;cases h
   ·cases hb
  ·obtain⟨xs,_,h⟩:=map_some hb;cases h
  ·split at hb
   ·cases hb
   ·split at hb
    ·rename_i nU
     simp only [Option.some.injEq,AI.op.injEq]at hb
     obtain⟨_,_,h⟩:=hb
     split at h <;> cases h
    ·rename_i ao nU
     simp only [Option.some.injEq,AI.op.injEq]at hb
     obtain⟨_,h1,h2⟩:=hb
     subst h2
     exact⟨h1,nU⟩
    ·cases hb
 obtain⟨rfl,nU⟩:=mn
 obtain⟨T,hT,hz⟩:=Pf nU
 have hw:Region.wanted o (yielded ops act.tmps)=true:=by
  have:o.guard=none:=by
   cases Fv:o.guard with
   | none=>rfl
   | some p=>
    obtain⟨j,b⟩:=p
    rw [Fv]at hg
    unfold uD at hg
    simp only at hg
    split at hg <;> cases hg
  simp [Region.wanted,this]
 simp only [hw,if_true]
 left
 unfold zeroOf at hz
 split at hz
 ·rename_i inf R0
  split at hz
  ·rename_i v hv
   split at hz
   ·have dS:(execOp act.eval o).run P w = .ok (.value (.pointer (some ⟨w.heap.size,0,none⟩))) (w.alloc (.cells v.cells T)):=by
     obtain⟨dst,op,type,pos,after,guard⟩:=o
     simp only at hT
     subst hT
     simp [execOp,Instr.alloc,zeroValue,im P R0,hv,newVar,newRow]
    have h3:=fun M s=>kZ (M:=M) (s:=s) hz
    obtain⟨h1,h2,_⟩:=h3 ⟨fun _ _=>none,fun _=>(0, .any),fun _=>none⟩ ⟨[],[]⟩
    unfold Oper.wp
    rw [dS,Oper.upon_value, ← qk]
    exact hK _ _ (by rw [h1];simp) (fun u hu=>h2 u (by simpa using hu)) (fun M s i d u e1 e2=>(h3 M s).2.2 i d u e1 (by simpa using e2))
   ·cases hz
  ·cases hz
 ·cases hz
end
end Go.Abs

/-! Par2 -/

namespace Go.Abs
section
variable {is:List AI} {af pt:List (List Nat)}
theorem zn {pq:List Nat} {l l':List Nat} (h:l'.Sublist l) (hb:kO is pq l=true):kO is pq l'=true:=by
 induction h with
 | slnil=>rfl
 | cons a h ih=>
  simp only [kO,Bool.and_eq_true]at hb
  exact ih hb.2
 | cons_cons a h ih=>
  simp only [kO,Bool.and_eq_true,Bool.or_eq_true]at hb ⊢
  refine⟨hb.1.imp id fun h1=> ?_,ih hb.2⟩
  rw [List.all_eq_true]at h1 ⊢
  exact fun x hx=>h1 x (h.subset hx)
theorem Bh {f:Nat→Bool} {l l':List Nat} (h:l'.Sublist l) (ha:l.all f=true):l'.all f=true:=by
 rw [List.all_eq_true]at ha ⊢
 exact fun x hx=>ha x (h.subset hx)
theorem JZ {l l':List Nat} (h:l'.Sublist l):jt is l'≤jt is l:=(h.filter _).length_le
theorem LZ {pre Em:List Nat} {q b:Nat} (h:Em.Sublist pre) (hs:oL is pt pre q b=true):oL is pt Em q b=true:=by
 unfold oL at *
 split at hs
 ·exact Bh h hs
 ·exact Bh h hs
 ·simp only [Bool.and_eq_true]at hs ⊢
  exact⟨Bh h hs.1,zn h hs.2⟩
 ·simp only [Bool.and_eq_true,decide_eq_true_eq]at hs ⊢
  exact⟨⟨Bh h hs.1.1,zn h hs.1.2⟩,Nat.le_trans (JZ (h.filter _)) hs.2⟩
theorem H8 : ∀ {R:List (Nat×Nat)} {pre Em:List Nat},Em.Sublist pre→tB is af pt pre R=true→tB is af pt Em R=true
 | [],_,_,_,_=>rfl
 | (q,b)::R,pre,Em,h,ho=>by
  simp only [tB,Bool.and_eq_true,Bool.not_eq_true']at ho ⊢
  obtain⟨⟨⟨h1,h2⟩,h3⟩,h4⟩:=ho
  refine⟨⟨⟨LZ h h1, ?_⟩,h3⟩,H8 (h.cons_cons q) h4⟩
  rw [← Bool.not_eq_true,List.contains_iff_mem]at h2 ⊢
  exact fun hm=>h2 (h.subset hm)
theorem En : ∀ {X:List (Nat×Nat)} {e:Nat×Nat} {Y:List (Nat×Nat)} {pre:List Nat},tB is af pt pre (X++e::Y)=true→tB is af pt pre (X++Y)=true
 | [],(q,b),Y,pre,h=>by
  simp only [List.nil_append,tB,Bool.and_eq_true]at h
  exact H8 (List.sublist_cons_self q pre) h.2
 | (a,c)::X,e,Y,pre,h=>by
  simp only [List.cons_append,tB,Bool.and_eq_true]at h ⊢
  obtain⟨⟨⟨h1,h2⟩,h3⟩,h4⟩:=h
  refine⟨⟨⟨h1,h2⟩, ?_⟩,En h4⟩
  rw [List.all_eq_true]at h3 ⊢
  intro j hj
  have:=h3 j hj
  simp only [Bool.and_eq_true,Bool.not_eq_true']at this ⊢
  refine⟨this.1, ?_⟩
  have h5:=this.2
  rw [← Bool.not_eq_true,List.contains_iff_mem]at h5 ⊢
  refine fun hm=>h5 ?_
  simp only [List.map_append,List.map_cons,List.mem_append,List.mem_cons]at hm ⊢
  exact hm.imp id .inr
theorem sM : ∀ {X:List (Nat×Nat)} {q b:Nat} {Y:List (Nat×Nat)} {pre:List Nat},tB is af pt pre (X++(q,b)::Y)=true→
 oL is pt ((X.map (·.1)).reverse++pre) q b=true∧q∉X.map (·.1)∧q∉pre∧(∀ j∈gT af q,j≠q∧j∉Y.map (·.1))∧tB is af pt (q::((X.map (·.1)).reverse++pre)) Y=true
 | [],q,b,Y,pre,h=>by
  simp only [List.nil_append,tB,Bool.and_eq_true,Bool.not_eq_true']at h
  obtain⟨⟨⟨h1,h2⟩,h3⟩,h4⟩:=h
  rw [← Bool.not_eq_true,List.contains_iff_mem]at h2
  refine⟨h1,by simp,h2,fun j hj=> ?_,h4⟩
  rw [List.all_eq_true]at h3
  have:=h3 j hj
  simp only [Bool.and_eq_true,bne_iff_ne,Bool.not_eq_true', ← Bool.not_eq_true,List.contains_iff_mem]at this
  exact this
 | (a,c)::X,q,b,Y,pre,h=>by
  simp only [List.cons_append,tB,Bool.and_eq_true]at h
  obtain⟨_,h4⟩:=h
  obtain⟨g1,g2,g3,g4,g5⟩:=sM h4
  simp only [List.map_cons,List.reverse_cons,List.append_assoc,List.singleton_append]
  refine⟨g1, ?_,fun h=>g3 (List.mem_cons_of_mem _ h),g4,g5⟩
  intro hm
  rcases List.mem_cons.1 hm with rfl | hm
  ·exact g3 (by simp)
  ·exact g2 hm
theorem Bi : ∀ {Y:List (Nat×Nat)} {pre:List Nat},tB is af pt pre Y=true→∀ x∈Y,x.1∉pre∧(jh is x.1 = .alloc→∀ a∈pre,kW is a x.1=true)
 | [],_,_,x,hx=>by cases hx
 | (q,b)::Y,pre,h,x,hx=>by
  simp only [tB,Bool.and_eq_true,Bool.not_eq_true']at h
  obtain⟨⟨⟨h1,h2⟩,_⟩,h4⟩:=h
  rw [← Bool.not_eq_true,List.contains_iff_mem]at h2
  rcases List.mem_cons.1 hx with rfl | hx
  ·refine⟨h2,fun hk a ha=> ?_⟩
   unfold oL at h1
   simp only [hk]at h1
   rw [List.all_eq_true]at h1
   exact h1 a ha
  ·obtain⟨g1,g2⟩:=Bi h4 x hx
   exact⟨fun h=>g1 (List.mem_cons_of_mem _ h),fun hk a ha=>g2 hk a (List.mem_cons_of_mem _ ha)⟩
theorem BP : ∀ {n:Nat},xr af pt n=true→∀ i,i<n→∀ j∈gT pt i,j∈gT af i∨∃ k∈gT af i,j∈gT pt k
 | 0,_,i,hi=>by omega
 | n+1,h,i,hi=>by
  simp only [xr,Bool.and_eq_true]at h
  rcases Nat.lt_or_ge i n with h1 | h1
  ·exact BP h.2 i h1
  ·have:i=n:=by omega
   subst this
   intro j hj
   have:=h.1
   rw [List.all_eq_true]at this
   have:=this j hj
   simp only [Bool.or_eq_true,List.contains_iff_mem,List.any_eq_true]at this
   exact this
theorem xC {pq:List Nat} : ∀ {l:List Nat},kO is pq l=true→∀ (x:Nat) (l1 l2:List Nat),l=l1++x::l2→jh is x = .alloc→x∈pq→∀ y∈l2,y∈pq
 | [],_,x,l1,l2,h=>by simp at h
 | a::l,hb,x,l1,l2,h=>by
  simp only [kO,Bool.and_eq_true,Bool.or_eq_true,Bool.not_eq_true',Bool.and_eq_false_iff]at hb
  intro hk hx y hy
  cases l1 with
  | nil=>
   simp only [List.nil_append,List.cons.injEq]at h
   obtain⟨rfl,rfl⟩:=h
   rcases hb.1 with h1 | h1
   ·rcases h1 with h1 | h1
    ·simp [hk]at h1
    ·rw [← Bool.not_eq_true,List.contains_iff_mem]at h1
     exact(h1 hx).elim
   ·rw [List.all_eq_true]at h1
    have:=h1 y hy
    rwa [List.contains_iff_mem]at this
  | cons b l1=>
   simp only [List.cons_append,List.cons.injEq]at h
   exact xC hb.2 x l1 l2 h.2 hk hx y hy
end
structure Pd where
 q:Nat
 t:Nat
 z:List D
 b:Nat
structure YX (is:List AI) (R:List (Nat×Nat)) (B:fI) (M:Map) (s:St) (act:Act) (w:World) (p:Pd):Prop where
 mem:p.q∈R.map (·.1)
 ai:is[p.q]? = some (.op (some p.t) none (.alloc p.z))
 cells : ∃ (vs:Array Value) (T:TypeId),w.heap[p.b]? = some (.cells vs T (0,0))∧vs.size=p.z.length∧(∀ v∈vs,v.oneCell'=true)∧
  ∀ (M:Map) (s:St) (i:Nat) (d:D) (v:Value),p.z[i]? = some d→vs[i]? = some v→RD M s d v
 unk:KT M s p.b
 base:B.w.heap.size≤p.b
 slot:act.tmps.getD p.t Go.undef = .pointer (some ⟨p.b,0,none⟩)
def yo (P:Program) (is:List AI) (K:Tm→St→Prop) (B:fI) (nt:Nat) (R:List (Nat×Nat)) (eg:List Pd) (act:Act) (w:World):Prop:=
 ∃ (M:Map) (s:St) (tm sN:Tm) (bQ:List St),Ext B.M B.s B.w M s w∧Rel M s w∧lM M s sN act.tmps∧(∀ t,(∀ p∈eg,p.t≠t)→sN.get t=tm.get t)∧
  act.tmps.size=nt∧act.defers = []∧kH P is K R bQ tm s∧(∀ p∈eg,YX is R B M s act w p)∧
  (∀ p∈eg,∀ p'∈eg,p.q=p'.q∨p.t=p'.t∨p.b=p'.b→p=p')
structure qL (is:List AI) (af pt:List (List Nat)) (dn:Array Bool) (R:List (Nat×Nat)) (eg:List Pd):Prop where
 ok:tB is af pt [] R=true
 FF : ∀ i,i<is.length→(dn.getD i false=true↔(i∉R.map (·.1)∨∃ p∈eg,p.q=i))
 cl : ∀ i,i<is.length→dn.getD i false=true→∀ j∈gT pt i,dn.getD j false=true
 size:dn.size=is.length
 lt : ∀ x∈R,x.1<is.length
section
variable {P:Program} {is:List AI} {af pt:List (List Nat)} {K:Tm→St→Prop} {B:fI} {nt:Nat}
theorem YY {dn:Array Bool} {q b:Nat} {R:List (Nat×Nat)} {eg:List Pd} {act:Act} {w:World} (hs:qL is af pt dn ((q,b)::R) eg) (h:yo P is K B nt ((q,b)::R) eg act w)
 {p:Pd} (hp:p∈eg) (tH:p.q=q) :
 qL is af pt dn R (eg.filter fun p'=>decide (p'.q≠q))∧yo P is K B nt R (eg.filter fun p'=>decide (p'.q≠q)) act w:=by
 have oe : ∀ p',p'∈(eg.filter fun p'=>decide (p'.q≠q))↔p'∈eg∧p'.q≠q:=fun p'=>by simp
 constructor
 ·have FC:=hs.ok
  have Ch:=sM (X:= []) FC
  refine⟨En (X:= []) FC,fun i hi=> ?_,hs.cl,hs.size,fun x hx=>hs.lt x (List.mem_cons_of_mem _ hx)⟩
  rw [hs.FF i hi]
  simp only [List.map_cons,List.mem_cons,not_or]
  have YZ:q∉R.map (·.1):=fun hm=>by
   obtain⟨x,hx,rfl⟩:=List.mem_map.1 hm
   exact(Bi Ch.2.2.2.2 x hx).1 (by simp)
  constructor
  ·rintro(⟨h1,h2⟩ | ⟨p',h1,h2⟩)
   ·exact .inl h2
   ·by_cases hq:i=q
    ·subst hq;exact .inl YZ
    ·exact .inr ⟨p',(oe p').2 ⟨h1,by rw [h2];exact hq⟩,h2⟩
  ·rintro(h1 | ⟨p',h1,h2⟩)
   ·by_cases hq:i=q
    ·subst hq;exact .inr ⟨p,hp,tH⟩
    ·exact .inl ⟨hq,h1⟩
   ·exact .inr ⟨p',((oe p').1 h1).1,h2⟩
 ·obtain⟨M,s,tm,sN,bQ,e,r,ht,qc,hn,hd,hg,vT,sg⟩:=h
  have hk:=vT p hp
  obtain⟨vs,T,hh,hl,h1,h2⟩:=hk.cells
  have vQ:=hk.ai
  rw [tH]at vQ
  simp only [kH,vQ,AI.kind,gE]at hg
  obtain⟨d,s',BF,hg⟩:=hg
  have qu:aV (.alloc p.z) tm s=some (d,s'):=BF
  simp only [aV,Option.some.injEq,Prod.mk.injEq]at qu
  obtain⟨rfl,rfl⟩:=qu
  obtain⟨r',e',le⟩:=r.acE e hk.unk hk.base p.z vs T hh hl h1 (h2 M s)
  refine⟨_,_,_,sN.put (some p.t) (.ptr s.aG.length 0),_,e',r',fun u=> ?_,fun t Y0=> ?_,hn,hd,hg,fun p' ov=> ?_,fun p1 h1 p2 h2=>sg p1 ((oe p1).1 h1).1 p2 ((oe p2).1 h2).1⟩
  ·rw [Tm.k6]
   split
   ·rename_i heq
    cases heq
    rw [hk.slot]
    have:(M.er s.aG.length p.b).mu s.aG.length=p.b:=by simp [Map.er,Map.mu]
    have h5:=RD.ptr (M:=M.er s.aG.length p.b) (s:= {s with aG:=s.aG++ [p.z]}) s.aG.length 0 (by simp) (by simp [Map.er,Map.ob])
    rw [this]at h5
    exact h5
   ·exact(ht u).mono le
  ·simp only [AI.dst]
   rw [Tm.k6,Tm.k6]
   split
   ·rfl
   ·rename_i fE
    refine qc t fun p' ov=> ?_
    by_cases hq:p'.q=q
    ·have:=sg p' ov p hp (.inl (hq.trans tH.symm))
     subst this
     exact fun h=>fE (by rw [h])
    ·exact Y0 p' ((oe p').2 ⟨ov,hq⟩)
  ·obtain⟨hp1,hp2⟩:=(oe p').1 ov
   have BQ:=vT p' hp1
   refine⟨?_,BQ.ai,BQ.cells,⟨fun o ho=> ?_,BQ.unk.t,BQ.unk.g⟩,BQ.base,BQ.slot⟩
   ·have:=BQ.mem
    simp only [List.map_cons,List.mem_cons]at this
    exact this.resolve_left hp2
   ·simp at ho
    rcases Nat.lt_or_ge o s.aG.length with h5 | h5
    ·rw [le.mu o h5];exact BQ.unk.o o h5
    ·have:o=s.aG.length:=by omega
     subst this
     have:(M.er s.aG.length p.b).mu s.aG.length=p.b:=by simp [Map.er,Map.mu]
     rw [this]
     intro hb
     have:=sg p hp p' hp1 (.inr (.inr hb))
     subst this
     exact hp2 tH
theorem norm {dn:Array Bool} {act:Act} {w:World} : ∀ (R:List (Nat×Nat)) (eg:List Pd),qL is af pt dn R eg→yo P is K B nt R eg act w→
 ∃ R' vU,qL is af pt dn R' vU∧yo P is K B nt R' vU act w∧∀ x l,R'=x::l→∀ p∈vU,p.q≠x.1
 | [],eg,hs,h=>⟨[],eg,hs,h,fun _ _ he=>by cases he⟩
 | (q,b)::R,eg,hs,h=>by
  by_cases hp : ∃ p∈eg,p.q=q
  ·obtain⟨p,hp,tH⟩:=hp
   obtain⟨h1,h2⟩:=YY hs h hp tH
   exact norm R _ h1 h2
  ·refine⟨(q,b)::R,eg,hs,h,fun x l he p Y1 tH=>hp ⟨p,Y1, ?_⟩⟩
   cases he
   exact tH
theorem Vn {ops:Array Oper} {q:Nat} {o:Oper} {ai:AI} (hi:ops[q]? = some o) (hc:cI P nt ops o=some ai) {R R':List (Nat×Nat)} {eg:List Pd} {act:Act} {w:World} {M:Map} {s s1:St} {tm sN:Tm} {d:D} {Vo:List St}
 (e:Ext B.M B.s B.w M s w) (r:Rel M s w) (ht:lM M s sN act.tmps) (qc : ∀ t,(∀ p∈eg,p.t≠t)→sN.get t=tm.get t) (hn:act.tmps.size=nt) (hd:act.defers = [])
 (vT : ∀ p∈eg,YX is R B M s act w p) (sg : ∀ p∈eg,∀ p'∈eg,p.q=p'.q∨p.t=p'.t∨p.b=p'.b→p=p')
 (hv:iQ P [ai] (fun a b=>a=sN.put ai.dst d∧b=s1) sN s) (hg:kH P is K R' Vo (tm.put ai.dst d) s1)
 (oe : ∀ p∈eg,p.q∈R'.map (·.1)) (qk : ∀ p∈eg,ai.dst≠some p.t) {Q:Exit→Act→World→Prop} :
 wpOp P ops Q q (yo P is K B nt R' eg) act w:=by
 refine wP hi hc r (B.laid.ext e) ht hv fun d' v s2 w1 M1 hk e1 r1 pR=> ?_
 obtain⟨uF,rfl⟩:=hk
 have hde:=sL hc
 have hF : ∀ t,o.dst=some t→t<act.tmps.size:=fun t h=>by rw [hn];exact xA hc t h
 refine⟨M1,s2,tm.put ai.dst d,sN.put ai.dst d,Vo,e.trans e1,r1, ?_,fun t Y0=> ?_, ?_, ?_,hg,fun p hp=> ?_,sg⟩
 ·rw [← uF,hde]
  exact(ht.mono e1.le).put hF pR
 ·rw [Tm.k6,Tm.k6,qc t Y0]
 ·cases ho:o.dst <;> simp [Act.put,hn]
 ·cases ho:o.dst <;> simp [Act.put,hd]
 ·have hk:=vT p hp
  obtain⟨vs,T,hh,hl,h1,h2⟩:=hk.cells
  have hb:=lK hh
  refine⟨oe p hp,hk.ai,⟨vs,T,by rw [e1.kept p.b hb hk.unk.o hk.unk.t];exact hh,hl,h1,h2⟩,hk.unk.mono e1 hb,hk.base, ?_⟩
  rw [← hk.slot]
  have:=qk p hp
  rw [hde]at this
  cases ho:o.dst with
  | none=>rfl
  | some t=>
   rw [ho]at this
   have fE:t≠p.t:=fun h=>this (by rw [h])
   simp [Act.put,Array.getElem?_setIfInBounds_ne fE]
theorem L0 {ai:AI} (hm:gE ai.kind=false) {tm:Tm} {s:St} {d:D} (h:jL ai tm s=some d):iQ P [ai] (fun a b=>a=tm.put ai.dst d∧b=s) tm s:=by
 cases ai with
 | op dst g o=>
  have hko:=KS hm
  have key : ∀ {d},(aV o tm s).map (·.1)=some d→aV o tm s=some (d,s):=by
   intro d h
   cases he:aV o tm s with
   | none=>rw [he]at h;cases h
   | some p=>
    obtain⟨d',s'⟩:=p
    rw [he]at h
    simp only [Option.map_some,Option.some.injEq]at h
    subst h
    rw [JX (by rw [← hko];exact hm) he]
  simp only [iQ,AI.dst]
  cases g with
  | none=>
   simp only [jL]at h
   simp only [guarded,key h,and_self]
  | some p=>
   obtain⟨t,want⟩:=p
   simp only [jL]at h
   simp only [guarded]
   split at h
   ·rename_i b hb
    simp only [hb]
    split at h
    ·rename_i heq
     refine⟨fun _=>by simp only [key h,and_self],fun fE=> ?_⟩
     subst heq
     cases b <;> cases fE
    ·rename_i fE
     cases h
     exact⟨fun heq=>(fE heq).elim,fun _=>by simp⟩
   ·rename_i ds hb
    cases h
    simp only [hb,and_self]
   ·cases h
 | call dst g f xs=>cases hm
 | nil dst g n x=>cases hm
 | jg dst g t xs=>cases hm
theorem Af {g:Option (Nat×Bool)} {tm:Tm} {A A' C C':Prop} (ha:A→A') (hc:C→C') (hh:guarded g tm A C):guarded g tm A' C':=by
 cases g with
 | none=>exact ha hh
 | some p=>
  obtain⟨t,want⟩:=p
  unfold guarded at *
  simp only at *
  split
  ·rename_i b hb;rw [hb]at hh;exact⟨fun e=>ha (hh.1 e),fun e=>hc (hh.2 e)⟩
  ·rename_i hb;rw [hb]at hh;exact hc hh
  ·rename_i x h1 h2
   split at hh
   ·exact h1 _ ‹_›
   ·exact h2 _ ‹_›
   ·exact hh
theorem H9 {ai:AI} {tm:Tm} {s s1:St} {d:D} (h:sd P ai tm s d s1):iQ P [ai] (fun a b=>a=tm.put ai.dst d∧b=s1) tm s:=by
 cases ai with
 | op dst g o=>
  refine Af (fun e=> ?_) (fun e=> ?_) h
  ·rw [e];exact⟨rfl,rfl⟩
  ·obtain⟨rfl,rfl⟩:=e;exact⟨rfl,rfl⟩
 | call dst g f xs=>
  refine Af (fun e=> ?_) (fun e=> ?_) h
  ·exact e.mono fun x y hxy=>by obtain⟨rfl,rfl⟩:=hxy;exact⟨rfl,rfl⟩
  ·obtain⟨rfl,rfl⟩:=e;exact⟨rfl,rfl⟩
 | nil dst g n x=>exact h.elim
 | jg dst g t xs=>exact h.elim
end
end Go.Abs

/-! Par3 -/

namespace Go.Abs
section
variable {P:Program} {is:List AI} {af pt:List (List Nat)} {K:Tm→St→Prop} {B:fI} {nt:Nat}
theorem Bj {ops:Array Oper} : ∀ {ol:List Oper} {is:List AI},qE P nt ops ol=some is→is.length=ol.length∧∀ (i:Nat) (o:Oper),ol[i]? = some o→∃ ai,is[i]? = some ai∧cI P nt ops o=some ai
 | [],is,h=>by cases h;exact⟨rfl,by simp⟩
 | o::ol,is,h=>by
  unfold qE at h
  split at h
  ·rename_i ai OZ h1 h2
   cases h
   obtain⟨g1,g2⟩:=Bj h2
   refine⟨by simp [g1],fun i o' ho=> ?_⟩
   cases i with
   | zero=>simp at ho;subst ho;exact⟨ai,rfl,h1⟩
   | succ i=>exact g2 i o' (by simpa using ho)
  ·cases h
theorem sh {dn:Array Bool} {i:Nat} (h:i<dn.size):dn.getD i true=dn.getD i false:=by
 simp [h]
theorem qL.done {dn:Array Bool} {X Y:List (Nat×Nat)} {q b:Nat} {eg:List Pd} (hs:qL is af pt dn (X++(q,b)::Y) eg) (hq:q<is.length)
 (FG : ∀ j∈gT pt q,dn.getD j false=true):qL is af pt (dn.setIfInBounds q true) (X++Y) eg:=by
 obtain⟨g1,g2,g3,g4,g5⟩:=sM hs.ok
 have hqY:q∉Y.map (·.1):=fun hm=>by
  obtain⟨x,hx,rfl⟩:=List.mem_map.1 hm
  exact(Bi g5 x hx).1 (by simp)
 refine⟨En hs.ok,fun i hi=> ?_,fun i hi hl j hj=> ?_,by simp [hs.size],fun x hx=>hs.lt x (by simp at hx ⊢;exact hx.imp id .inr)⟩
 ·by_cases tG:i=q
  ·subst tG
   have:i<dn.size:=by rw [hs.size];exact hq
   simp only [List.map_append,List.mem_append,g2,hqY,or_self,not_false_eq_true,true_or,iff_true]
   simp [this]
  ·rw [getD_set_ne false (Ne.symm tG),hs.FF i hi]
   simp [tG]
 ·by_cases tG:i=q
  ·subst tG;exact getD_set_true (FG j hj)
  ·rw [getD_set_ne false (Ne.symm tG)]at hl
   exact getD_set_true (hs.cl i hi hl j hj)
theorem qL.flag {dn:Array Bool} {R:List (Nat×Nat)} {eg:List Pd} (hs:qL is af pt dn R eg) {p:Pd} (hq:p.q<is.length)
 (FG : ∀ j∈gT pt p.q,dn.getD j false=true):qL is af pt (dn.setIfInBounds p.q true) R (p::eg):=by
 refine⟨hs.ok,fun i hi=> ?_,fun i hi hl j hj=> ?_,by simp [hs.size],hs.lt⟩
 ·by_cases tG:i=p.q
  ·subst tG
   have:p.q<dn.size:=by rw [hs.size];exact hq
   simp [this]
  ·rw [getD_set_ne false (Ne.symm tG),hs.FF i hi]
   have fE:p.q≠i:=fun h=>tG h.symm
   simp [fE]
 ·by_cases tG:i=p.q
  ·subst tG;exact getD_set_true (FG j hj)
  ·rw [getD_set_ne false (Ne.symm tG)]at hl
   exact getD_set_true (hs.cl i hi hl j hj)
theorem L1 {ai:AI} (h:ai.kind = .alloc) : ∃ t z,ai = .op (some t) none (.alloc z):=by
 cases ai with
 | op dst g o=>
  unfold AI.kind at h
  split at h
  ·rename_i heq;cases heq;exact⟨_,_,rfl⟩
  ·rename_i heq
   cases heq
   exfalso
   revert h
   cases o <;> simp [AO.kind]
  ·cases h
 | call dst g f xs=>cases h
 | nil dst g n x=>cases h
 | jg dst g t xs=>cases h
theorem L2 {ops:Array Oper} (wQ:qE P nt ops ops.toList=some is) (L3:xr af pt is.length=true)
 (hK : ∀ tm b7 s,Tm.eqv tm b7→K tm s→K b7 s) {dn:Array Bool} {R:List (Nat×Nat)} {eg:List Pd} {act:Act} {w:World} (hs:qL is af pt dn R eg) (h:yo P is K B nt R eg act w)
 (acF : ∀ x l,R=x::l→∀ p∈eg,p.q≠x.1) {q:Nat} (hq:q<is.length) (C7:dn.getD q false=false) (pR : ∀ j∈gT af q,j<is.length∧dn.getD j false=true)
 {Q:Exit→Act→World→Prop} {K2:Act→World→Prop} (Y3 : ∀ R' vU a' w',qL is af pt (dn.setIfInBounds q true) R' vU→yo P is K B nt R' vU a' w'→K2 a' w'):wpOp P ops Q q K2 act w:=by
 obtain⟨hlen,hP⟩:=Bj wQ
 have Vf:q<ops.size:=by rw [hlen]at hq;simpa using hq
 obtain⟨ai,vQ,Pj⟩:=hP q ops[q] (by simp [Vf])
 have hi:ops[q]? = some ops[q]:=by simp [Vf]
 have FG : ∀ j∈gT pt q,dn.getD j false=true:=fun j hj=>by
  rcases BP L3 q hq j hj with h1 | ⟨k,h1,h2⟩
  ·exact(pR j h1).2
  ·exact hs.cl k (pR k h1).1 (pR k h1).2 j h2
 have Pk : ∀ p∈eg,p.q≠q:=fun p hp tH=>by
  have:=(hs.FF q hq).2 (.inr ⟨p,hp,tH⟩)
  rw [C7]at this;cases this
 have YZ:q∈R.map (·.1):=by
  by_cases hm:q∈R.map (·.1)
  ·exact hm
  ·have:=(hs.FF q hq).2 (.inl hm)
   rw [C7]at this;cases this
 obtain⟨⟨q',b⟩,hx,hqq⟩:=List.mem_map.1 YZ
 simp only at hqq
 subst hqq
 obtain⟨X,Y,rfl⟩:=List.append_of_mem hx
 obtain⟨g1,g2,g3,g4,g5⟩:=sM hs.ok
 rw [List.append_nil]at g1 g5
 obtain⟨M,s,tm,sN,bQ,e,r,ht,qc,hn,hd,hg,vT,sg⟩:=h
 have Pl:jh is q'=ai.kind:=by simp [jh,vQ]
 -- what must have come up ahead of it, is not here any more, but for what was allocated early
 have Vp : ∀ a∈X.map (·.1),a∈gT pt q'→∃ p∈eg,p.q=a:=fun a ha dh=>by
  have h1:=FG a dh
  obtain⟨x,hxX,rfl⟩:=List.mem_map.1 ha
  rcases(hs.FF x.1 (hs.lt x (by simp [hxX]))).1 h1 with h2 | h2
  ·exact(h2 (by simp;exact .inl ⟨x.2,hxX⟩)).elim
  ·exact h2
 have Vq : ∀ x l,X=x::l→x.1∉gT pt q':=fun x l hX hxp=>by
  obtain⟨p,hp,tH⟩:=Vp x.1 (by simp [hX]) hxp
  exact acF x (l++(q',b)::Y) (by simp [hX]) p hp tH
 have hpk : ∀ p∈eg,jh is p.q = .alloc:=fun p hp=>by simp [jh,(vT p hp).ai,AI.kind]
 have Ch : ∀ p∈eg,(p.q∈X.map (·.1)→kW is p.q q'=true)→(∀ t,ai.dst=some t→t≠p.t)∧p.t∉ai.reads:=fun p hp hX=>by
  have hk:=vT p hp
  have hm:=hk.mem
  simp only [List.map_append,List.map_cons,List.mem_append,List.mem_cons]at hm
  rcases hm with hm | hm | hm
  ·have:=hX hm
   simp only [kW,hk.ai,vQ]at this
   obtain⟨p1,p2,p3⟩:=apart_spec this
   exact⟨fun t ht he=>p3 p.t rfl (by rw [ht,he]),p1 p.t rfl⟩
  ·exact(Pk p hp hm).elim
  ·obtain⟨x,hxY,Vr⟩:=List.mem_map.1 hm
   have:=(Bi g5 x hxY).2 (by rw [Vr];exact hpk p hp) q' (by simp)
   rw [Vr]at this
   simp only [kW,hk.ai,vQ]at this
   obtain⟨p1,p2,p3⟩:=apart_spec this
   exact⟨fun t ht he=>p3 t ht (by rw [he];rfl),p2 p.t rfl⟩
 have Pn:(∀ p∈eg,p.t∉ai.reads)→∀ t∈ai.reads,tm.get t=sN.get t:=fun hp t ht=>(qc t fun p Y1 he=>hp p Y1 (by rw [he];exact ht)).symm
 have Vs : ∀ p∈eg,p.q∈(X++Y).map (·.1):=fun p hp=>by
  have hm:=(vT p hp).mem
  have:=Pk p hp
  simp only [List.map_append,List.map_cons,List.mem_append,List.mem_cons]at hm ⊢
  rcases hm with hm | hm | hm
  ·exact .inl hm
  ·exact(this hm).elim
  ·exact .inr hm
 by_cases sO:ai.kind = .alloc
 ·-- an allocation
  obtain⟨t,z,rfl⟩:=L1 sO
  have dh : ∀ a∈X.map (·.1),kW is a q'=true:=fun a ha=>by
   unfold oL at g1
   rw [Pl,sO]at g1
   simp only [List.all_reverse,List.all_eq_true]at g1
   exact g1 a ha
  have FH:=fun p hp=>Ch p hp (dh p.q)
  refine JY hi Pj fun vs T hl h1 h2=> ?_
  obtain⟨r1,e1,u1⟩:=r.idle (.cells vs T)
  have Y4:t<act.tmps.size:=by
   rw [hn]
   exact xA Pj t (by rw [← sL Pj];rfl)
  have:=hs.flag (p:=⟨q',t,z,w.heap.size⟩) hq FG
  refine Y3 _ _ _ _ this ⟨M,s,tm,sN.put (some t) .junk,bQ,e.trans e1,r1,lM.put ht (dst:=some t) (fun u hu=>by cases hu;exact Y4) (.junk _),fun u hu=> ?_,by simp [Act.put,hn],by simp [Act.put,hd],hg,fun p hp=> ?_,fun p hp p' ov he=> ?_⟩
  ·have h3:=hu ⟨q',t,z,w.heap.size⟩ (by simp)
   rw [Tm.k6,if_neg (by simpa using h3)]
   exact qc u fun p hp=>hu p (List.mem_cons_of_mem _ hp)
  ·rcases List.mem_cons.1 hp with rfl | hp
   ·refine⟨by simp,vQ,⟨vs,T,heap_alloc_new w _,hl,h1,h2⟩,u1,e.size, ?_⟩
    simp [Act.put,Y4]
   ·have hk:=vT p hp
    obtain⟨fW,T',jV,nQ,pE,sJ⟩:=hk.cells
    refine⟨hk.mem,hk.ai,⟨fW,T',by rw [heap_alloc_old w _ _ (lK jV)];exact jV,nQ,pE,sJ⟩,hk.unk,hk.base, ?_⟩
    rw [← hk.slot]
    have fE:t≠p.t:=(FH p hp).1 t rfl
    simp [Act.put,Array.getElem?_setIfInBounds_ne fE]
  ·have ey : ∀ p∈eg,¬ (q'=p.q∨t=p.t∨w.heap.size=p.b):=fun p hp h=>by
    rcases h with h | h | h
    ·exact Pk p hp h.symm
    ·exact(FH p hp).1 t rfl h
    ·obtain⟨fW,T',jV,_⟩:=(vT p hp).cells
     have:=lK jV
     omega
   rcases List.mem_cons.1 hp with rfl | hp <;> rcases List.mem_cons.1 ov with rfl | ov
   ·rfl
   ·exact(ey p' ov he).elim
   ·exact(ey p hp (he.imp Eq.symm (Or.imp Eq.symm Eq.symm))).elim
   ·exact sg p hp p' ov he
 ·by_cases nU:gE ai.kind=true
  ·-- a step that changes something: it stands first
   have hkc:ai.kind = .core:=by
    cases hk:ai.kind <;> simp_all [gE]
   have hX:X = []:=by
    cases X with
    | nil=>rfl
    | cons x l=>
     refine(Vq x l rfl ?_).elim
     unfold oL at g1
     rw [Pl,hkc]at g1
     simp only [List.all_reverse,List.all_eq_true]at g1
     have:=g1 x.1 (by simp)
     rwa [List.contains_iff_mem]at this
   subst hX
   have FH:=fun p hp=>Ch p hp (fun h=>by simp at h)
   simp only [List.nil_append,kH,vQ,nU]at hg
   obtain⟨d,s1,BF,hg⟩:=hg
   have afR:=wN (Pn fun p hp=>(FH p hp).2) BF
   refine wpOp_mono (fun a' w' hr=>Y3 _ _ _ _ (hs.done hq FG) hr) ?_
   exact Vn hi Pj e r ht qc hn hd vT sg (H9 afR) hg Vs (fun p hp he=>(FH p hp).1 _ he rfl)
  ·-- a step that changes nothing
   have hm:gE ai.kind=false:=by simpa using nU
   have oV : ∀ a∈X.map (·.1),a∉gT pt q':=fun a ha dh=>by
    obtain⟨p,hp,tH⟩:=Vp a ha dh
    have Fz:jh is a = .alloc:=by rw [← tH];exact hpk p hp
    have kC:kO is (gT pt q') (X.map (·.1)).reverse=true:=by
     unfold oL at g1
     rw [Pl]at g1
     cases hk:ai.kind with
     | pure=>simp only [hk,Bool.and_eq_true]at g1;exact g1.2
     | load=>simp only [hk,Bool.and_eq_true]at g1;exact g1.1.2
     | alloc=>exact(sO hk).elim
     | core=>rw [hk]at hm;cases hm
    cases X with
    | nil=>simp at ha
    | cons x l=>
     have ha2:a∈((x::l).map (·.1)).reverse:=List.mem_reverse.2 ha
     obtain⟨l1,l2,oW⟩:=List.append_of_mem ha2
     have wR:=xC kC a l1 l2 oW Fz dh
     refine Vq x l rfl ?_
     cases nR:l2.reverse with
     | nil=>
      have h3:l2 = []:=by simpa using nR
      subst h3
      have:=congrArg List.reverse oW
      simp at this
      rw [this.1];exact dh
     | cons y l3=>
      have:=congrArg List.reverse oW
      simp only [List.reverse_reverse,List.map_cons,List.reverse_append,List.reverse_cons,List.reverse_nil,List.append_assoc,nR,List.cons_append,List.nil_append,List.cons.injEq]at this
      rw [this.1]
      exact wR y (by rw [← List.mem_reverse,nR];simp)
   have dh : ∀ a∈X,kW is a.1 q'=true:=fun a ha=>by
    have h3 : ∀ x∈(X.map (·.1)).reverse,((gT pt q').contains x || kW is x q')=true:=by
     unfold oL at g1
     rw [Pl]at g1
     cases hk:ai.kind with
     | pure=>simp only [hk,Bool.and_eq_true]at g1;exact List.all_eq_true.1 g1.1
     | load=>simp only [hk,Bool.and_eq_true]at g1;exact List.all_eq_true.1 g1.1.1
     | alloc=>exact(sO hk).elim
     | core=>rw [hk]at hm;cases hm
    have:=h3 a.1 (List.mem_reverse.2 (List.mem_map_of_mem ha))
    simp only [Bool.or_eq_true,List.contains_iff_mem]at this
    exact this.resolve_left (oV a.1 (List.mem_map_of_mem ha))
   have Y5:ai.kind = .load→jt is (X.map (·.1))≤b:=fun hk=>by
    unfold oL at g1
    rw [Pl,hk]at g1
    simp only [Bool.and_eq_true,decide_eq_true_eq]at g1
    have h3:=g1.2
    have h4:(X.map (·.1)).reverse.filter (fun a=> !(gT pt q').contains a)=(X.map (·.1)).reverse:=by
     rw [List.filter_eq_self]
     intro a ha
     have:=oV a (List.mem_reverse.1 ha)
     simpa using this
    rw [h4]at h3
    unfold jt at h3 ⊢
    rw [List.filter_reverse,List.length_reverse]at h3
    exact h3
   have FH:=fun p hp=>Ch p hp (fun h=>by
    obtain⟨x,hx,Vr⟩:=List.mem_map.1 h
    rw [← Vr];exact dh x hx)
   obtain⟨d,h1,_,Vt⟩:=wO hK vQ hm Y X bQ tm s dh Y5 hg
   have pE:jL ai sN s=some d:=by rw [← qv (Pn fun p hp=>(FH p hp).2)];exact h1
   refine wpOp_mono (fun a' w' hr=>Y3 _ _ _ _ (hs.done hq FG) hr) ?_
   exact Vn hi Pj e r ht qc hn hd vT sg (L0 hm pE) Vt Vs (fun p hp he=>(FH p hp).1 _ he rfl)
theorem BR {o:Oper} {j:Nat} : j∈mJ o↔∃ e∈o.after,Region.binds .any e=true∧e.on=j:=by
 simp only [mJ,List.mem_map,List.mem_filter,Array.mem_toList_iff]
 constructor
 ·rintro⟨e,⟨h1,h2⟩,h3⟩;exact⟨e,h1,h2,h3⟩
 ·rintro⟨e,h1,h2,h3⟩;exact⟨e,⟨h1,h2⟩,h3⟩
theorem L4 {ops:Array Oper} (wQ:qE P nt ops ops.toList=some is) (L3:xr (ops.toList.map mJ) pt is.length=true)
 (Y6 : ∀ i,i<is.length→∀ j∈gT (ops.toList.map mJ) i,j<is.length) {Q:Exit→Tm→St→Prop} (hK : ∀ tm b7 s,Tm.eqv tm b7→K tm s→K b7 s)
 (hKQ : ∀ tm s act w,K tm s→Holds B nt tm s act w→pK B nt Q .normal act w) :
 ∀ (fuel:Nat) (dn:Array Bool) (R:List (Nat×Nat)) (eg:List Pd) (act:Act) (w:World) (U:List Nat),U.length≤fuel→(∀ j,j<is.length→dn.getD j false=false→j∈U)→
  qL is (ops.toList.map mJ) pt dn R eg→yo P is K B nt R eg act w→wpAny P .any ops (pK B nt Q) fuel dn act w:=by
 obtain⟨hlen,_⟩:=Bj wQ
 have vV:is.length=ops.size:=by rw [hlen];simp
 have Y7 : ∀ (j:Nat) (o:Oper),ops[j]? = some o→gT (ops.toList.map mJ) j=mJ o:=fun j o h=>by
  simp [gT,List.getD,h]
 have fin : ∀ {dn:Array Bool} {eg:List Pd} {act:Act} {w:World},yo P is K B nt [] eg act w→pK B nt Q .normal act w:=by
  intro dn eg act w h
  obtain⟨M,s,tm,sN,bQ,e,r,ht,qc,hn,hd,hg,vT,sg⟩:=h
  have HW : ∀ p∈eg,False:=fun p hp=>by have:=(vT p hp).mem;simp at this
  exact hKQ sN s act w (hK tm sN s (fun t=>(qc t fun p hp=>(HW p hp).elim).symm) hg) ⟨M,e,r,ht,hn,hd⟩
 have Po : ∀ {dn:Array Bool} {R:List (Nat×Nat)} {eg:List Pd} {x:Nat×Nat} {l:List (Nat×Nat)},qL is (ops.toList.map mJ) pt dn R eg→R=x::l→(∀ p∈eg,p.q≠x.1)→
  x.1∈Region.ready .any ops dn:=by
  intro dn R eg x l hs hR Pk
  subst hR
  have hx:=hs.lt x (by simp)
  rw [mem_ready]
  have C7:dn.getD x.1 false=false:=by
   cases hl:dn.getD x.1 false with
   | false=>rfl
   | true=>
    rcases(hs.FF x.1 hx).1 hl with h1 | ⟨p,hp,tH⟩
    ·exact(h1 (by simp)).elim
    ·exact(Pk p hp tH).elim
  have hxo:x.1<ops.size:=by rw [← vV];exact hx
  refine⟨by rw [sh (by rw [hs.size];exact hx)];exact C7,ops[x.1],by simp [hxo],fun e he hb=> ?_⟩
  have hm:e.on∈gT (ops.toList.map mJ) x.1:=by rw [Y7 x.1 ops[x.1] (by simp [hxo])];exact BR.2 ⟨e,he,hb,rfl⟩
  obtain⟨_,_,_,g4,_⟩:=sM (X:= []) (q:=x.1) (b:=x.2) hs.ok
  obtain⟨h1,h2⟩:=g4 _ hm
  refine(hs.FF e.on (Y6 x.1 hx _ hm)).2 (.inl ?_)
  simp only [List.map_cons,List.mem_cons,not_or]
  exact⟨h1,h2⟩
 intro fuel
 induction fuel with
 | zero=>
  intro dn R eg act w U hU C7 hs h
  obtain⟨R',vU,oN,h',hn⟩:=norm R eg hs h
  have hUn:U = []:=List.length_eq_zero_iff.1 (by omega)
  have wR : ∀ j,j<is.length→dn.getD j false=true:=fun j hj=>by
   cases hl:dn.getD j false with
   | true=>rfl
   | false=>have:=C7 j hj hl;rw [hUn]at this;cases this
  have hR:R' = []:=by
   cases hR:R' with
   | nil=>rfl
   | cons x l=>
    have hx:=oN.lt x (by simp [hR])
    have:=Po oN hR (hn x l hR)
    rw [mem_ready,sh (by rw [oN.size];exact hx),wR x.1 hx]at this
    cases this.1
  subst hR
  refine⟨?_,fin (dn:=dn) h'⟩
  cases hr:Region.ready .any ops dn with
  | nil=>rfl
  | cons j js=>
   have hj:j∈Region.ready .any ops dn:=by rw [hr];simp
   rw [mem_ready]at hj
   obtain⟨h1,o,ho,_⟩:=hj
   have BS:j<is.length:=by rw [vV];exact(Array.getElem?_eq_some_iff.1 ho).1
   rw [sh (by rw [hs.size];exact BS),wR j BS]at h1
   cases h1
 | succ fuel ih=>
  intro dn R eg act w U hU C7 hs h
  obtain⟨R',vU,oN,h',hn⟩:=norm R eg hs h
  refine⟨fun hr=> ?_,fun i hi=> ?_⟩
  ·cases hR:R' with
   | nil=>subst hR;exact fin (dn:=dn) h'
   | cons x l=>
    have:=Po oN hR (hn x l hR)
    rw [hr]at this
    cases this
  ·rw [mem_ready]at hi
   obtain⟨h1,o,ho,L5⟩:=hi
   have pF:i<is.length:=by rw [vV];exact(Array.getElem?_eq_some_iff.1 ho).1
   rw [sh (by rw [hs.size];exact pF)]at h1
   refine L2 wQ L3 hK oN h' hn pF h1 (fun j hj=>⟨Y6 i pF j hj, ?_⟩) fun R2 acH a2 w2 KN h2=> ?_
   ·rw [Y7 i o ho]at hj
    obtain⟨e,he,hb,rfl⟩:=BR.1 hj
    exact L5 e he hb
   ·refine ih _ R2 acH a2 w2 (U.erase i) ?_ (fun j hj hl=> ?_) KN h2
    ·have:=List.length_erase_of_mem (C7 i pF h1)
     omega
    ·have hji:j≠i:=fun e=>by
      subst e
      have:j<dn.size:=by rw [hs.size];exact pF
      simp [this]at hl
     rw [getD_set_ne false (Ne.symm hji)]at hl
     exact(List.mem_erase_of_ne hji).2 (C7 j hj hl)
theorem Sem.par {is:List AI} {lC:List (Nat×Nat)} {Q:Exit→Tm→St→Prop} {tm:Tm} {s:St} (h:kH P is (Q .normal) lC [] tm s):Sem P B nt (.par is lC) Q tm s:=by
 intro c hc act w hh
 obtain⟨id,ops,rfl,hi,hm,pt,hp⟩:=k8 hc
 simp only [HD,Bool.and_eq_true,List.all_eq_true,List.mem_range,List.contains_iff_mem,decide_eq_true_eq]at hp
 obtain⟨⟨⟨⟨h1,h2⟩,h3⟩,h4⟩,h5⟩:=hp
 obtain⟨hlen,_⟩:=Bj hi
 have vV:is.length=ops.size:=by rw [hlen];simp
 refine wp_region_any hm ?_
 obtain⟨M,e,r,ht,hn,hd⟩:=hh
 have key : ∀ (R:List (Nat×Nat)) (bQ:List St) (tm:Tm) (s:St),kH P is (Q .normal) R bQ tm s→kH P is (fun tm s=>∃ b7,tm.eqv b7∧Q .normal b7 s) R bQ tm s:=by
  intro R
  induction R with
  | nil=>intro bQ tm s h;exact⟨tm,fun _=>rfl,h⟩
  | cons x R ih=>
   obtain⟨q,b⟩:=x
   intro bQ tm s h
   unfold kH at h ⊢
   split at h
   ·exact h.elim
   ·split at h
    ·obtain⟨d,s',h1,h2⟩:=h;exact⟨d,s',h1,ih _ _ _ h2⟩
    ·obtain⟨d,h1,h2,h3⟩:=h;exact⟨d,h1,h2,ih _ _ _ h3⟩
 have hg:=key _ _ _ _ h
 refine L4 (K:=fun tm s=>∃ b7,tm.eqv b7∧Q .normal b7 s) hi h1 h5 (fun tm b7 s he ⟨t2,h3,h4⟩=>⟨t2,fun t=>(he t).symm.trans (h3 t),h4⟩)
  (fun tm s act w ⟨t2,h3,h4⟩ ⟨M,e,r,ht,hn,hd⟩=>⟨t2,s,h4,M,e,r,fun t=>by rw [← h3 t];exact ht t,hn,hd⟩) ops.size _ lC [] act _ (List.range is.length) (by simp [vV]) (fun j hj _=>by simpa using hj)
  ⟨h2,fun i hi=> ?_,fun i hi hl=> ?_,by simp [vV],h4⟩ ⟨M,s,tm,tm,[],⟨e.le,e.kept,e.qB,e.qC,e.sZ,e.size,e.os,e.tape,e.output⟩,r.of_heap rfl,ht,fun _ _=>rfl,hn,hd,hg,by simp,by simp⟩
 ·have:i<ops.size:=by rw [← vV];exact hi
  have h6:=h3 i hi
  simp only [List.not_mem_nil,false_and,exists_false,or_false]
  rw [show(Array.replicate ops.size false).getD i false=false by simp [this]]
  simp [h6]
 ·have:i<ops.size:=by rw [← vV];exact hi
  rw [show(Array.replicate ops.size false).getD i false=false by simp [this]]at hl
  cases hl
end
end Go.Abs

/-! Step -/

namespace Go.Abs
theorem WS (k:IntKind) (n:Int):D.row (.int k n)=some [.int k n]:=rfl
theorem R7 (b:Bool):D.row (.bool b)=some [.bool b]:=rfl
theorem WT (l:List UInt8):D.row (.str l)=some [.str l]:=rfl
theorem R8:D.row .fB=some [.fB]:=rfl
theorem WU (o f:Nat):D.row (.ptr o f)=some [.ptr o f]:=rfl
theorem R9 (r:List D) (f:Nat):D.row (.dU r f)=some [.dU r f]:=rfl
theorem Pp (g:Tag) (z:Nat) (r:List (List D)):D.row (.slice g z r)=some [.slice g z r]:=rfl
theorem WV (cs:List D):D.row (.agg cs)=some cs:=rfl
theorem WW (v:Value):D.row (.val v)=some [.val v]:=rfl
theorem Pq (T:TypeId) (o:Nat):D.row (.fT T o)=some [.fT T o]:=rfl
theorem WX (f:Nat) (cs:List D):D.row (.gP f cs)=some [.gP f cs]:=rfl
theorem Sb (o:Nat):D.row (.gM o)=some [.gM o]:=rfl
theorem Sc (w:Bool):Tag.cut .full w=if w then .full else .shared:=rfl
theorem L6 (w:Bool):Tag.cut .shared w = .shared:=rfl
theorem Sd (t:Nat) (y:Bool) (w:Bool):Tag.cut (.tok t y) w = .tok t y:=rfl
section
variable {P:Program}
def KC (P:Program) (r:List AI) (K:Tm→St→Prop) (tm:Tm) (dst:Option Nat) (d:D) (s:St):Prop:=iQ P r K (tm.put dst d) s
def GI (P:Program) (g:D) (want:Bool) (i:AI) (r:List AI) (K:Tm→St→Prop) (tm:Tm) (s:St):Prop:=
 match g with
 | .bool b=>(b=want→iQ P (i::r) K tm s)∧(b=(!want)→iQ P r K (tm.put i.dst (.tuple [])) s)
 | .tuple _=>iQ P r K (tm.put i.dst (.tuple [])) s
 | _=>False
def NI (P:Program) (dst:Option Nat) (neg:Bool) (x:D) (r:List AI) (K:Tm→St→Prop) (tm:Tm) (s:St):Prop:=
 match x with
 | .slice _ _ rows=>∀ b:Bool,(rows≠ []→b=false)→iQ P r K (tm.put dst (.bool (if neg then !b else b))) s
 | _=>False
def tY (d:D) (A C:Prop):Prop:=
 match d with
 | .bool b=>(b=true→A)∧(b=false→C)
 | _=>False
theorem Sem.acI {B:fI} {nt:Nat} {Q:Exit→Tm→St→Prop} {tm:Tm} {s:St} {x:X} {a b:AC} (h:tY (x.ev tm) (Sem P B nt a Q tm s) (Sem P B nt b Q tm s)):Sem P B nt (.cond x a b) Q tm s:=by
 unfold tY at h
 split at h
 ·rename_i t ht
  exact Sem.cond ht h.1 h.2
 ·exact h.elim
def gH (P:Program) (K:Tm→St→Prop):List (AI×Nat)→List St→Tm→St→Prop
 | [],_,tm,s=>K tm s
 | (ai,b)::r,bQ,tm,s=>
  match gE ai.kind with
  | true=>∃ d s',sd P ai tm s d s'∧gH P K r (s::bQ) (tm.put ai.dst d) s'
  | false=>∃ d,jL ai tm s=some d∧(ai.kind = .load→∀ s'∈bQ.take b,jL ai tm s'=some d)∧gH P K r bQ (tm.put ai.dst d) s
def mN (is:List AI):List (Nat×Nat)→Option (List (AI×Nat))
 | []=>some []
 | (q,b)::r=>match is[q]?,mN is r with
  | some ai,some l=>some ((ai,b)::l)
  | _,_=>none
theorem Eo {is:List AI} {K:Tm→St→Prop} : ∀ {lC:List (Nat×Nat)} {items:List (AI×Nat)} {bQ:List St} {tm:Tm} {s:St},mN is lC=some items→gH P K items bQ tm s→kH P is K lC bQ tm s
 | [],items,bQ,tm,s,h,g=>by cases h;exact g
 | (q,b)::r,items,bQ,tm,s,h,g=>by
  simp only [mN]at h
  split at h
  ·rename_i ai l h1 h2
   cases h
   simp only [gH]at g
   simp only [kH,h1]
   split at g
   ·rename_i hk
    obtain⟨d,s',g1,g2⟩:=g
    try simp only [hk]
    exact⟨d,s',g1,Eo h2 g2⟩
   ·rename_i hk
    obtain⟨d,g1,g2,g3⟩:=g
    try simp only [hk]
    exact⟨d,g1,g2,Eo h2 g3⟩
  ·cases h
theorem Sem.afS {B:fI} {nt:Nat} {Q:Exit→Tm→St→Prop} {tm:Tm} {s:St} {is:List AI} {lC:List (Nat×Nat)} {items:List (AI×Nat)} (hi:mN is lC=some items) (h:gH P (Q .normal) items [] tm s):Sem P B nt (.par is lC) Q tm s:=
 Sem.par (Eo hi h)
def AI.free:AI→AI
 | .op d _ o=> .op d none o
 | .call d _ f xs=> .call d none f xs
 | .nil d _ n x=> .nil d none n x
 | .jg d _ t xs=> .jg d none t xs
def GL (P:Program) (g:D) (want:Bool) (i:AI) (b:Nat) (r:List (AI×Nat)) (K:Tm→St→Prop) (bQ:List St) (tm:Tm) (s:St):Prop:=
 match g with
 | .bool v=>(v=want→gH P K ((i,b)::r) bQ tm s)∧(v=(!want)→gH P K r (if gE i.kind then s::bQ else bQ) (tm.put i.dst (.tuple [])) s)
 | .tuple _=>gH P K r (if gE i.kind then s::bQ else bQ) (tm.put i.dst (.tuple [])) s
 | _=>False
def CL (P:Program) (f:Nat) (args:List D) (s:St) (K:D→St→Prop):Prop:=∃ d s',aE P f args s d s'∧K d s'
def KL (P:Program) (K:Tm→St→Prop) (r:List (AI×Nat)) (bQ:List St) (tm:Tm) (dst:Option Nat) (d:D) (s:St):Prop:=gH P K r bQ (tm.put dst d) s
def nW (i:AI) (tm:Tm) (d:D):List St→Prop
 | []=>True
 | s::r=>jL i tm s=some d∧nW i tm d r
theorem C8 {i:AI} {tm:Tm} {d:D} : ∀ {l:List St},nW i tm d l→∀ s∈l,jL i tm s=some d
 | [],_,s,h=>by cases h
 | a::l,h,s,hs=>by
  rcases List.mem_cons.1 hs with rfl | hs
  ·exact h.1
  ·exact C8 h.2 s hs
def PL (P:Program) (o:AO) (dst:Option Nat) (b:Nat) (r:List (AI×Nat)) (K:Tm→St→Prop) (bQ:List St) (tm:Tm) (s:St):Prop:=
 match aV o tm s with
 | some (d,_)=>nW (.op dst none o) tm d (bQ.take b)∧gH P K r bQ (tm.put dst d) s
 | none=>False
def ML (P:Program) (o:AO) (dst:Option Nat) (r:List (AI×Nat)) (K:Tm→St→Prop) (bQ:List St) (tm:Tm) (s:St):Prop:=
 match aV o tm s with
 | some (d,s')=>gH P K r (s::bQ) (tm.put dst d) s'
 | none=>False
def AO.core:AO→Bool
 | .alloc _=>true
 | .box _=>true
 | .uB .. =>true
 | .zI _=>true
 | .store .. =>true
 | .app .. =>true
 | .sC .. =>true
 | .zJ .. =>true
 | .zK .. =>true
 | .apps .. =>true
 | .tQ=>true
 | .yf .. =>true
 | _=>false
theorem sP (dst:Option Nat) (g:Option (Nat×Bool)) (o:AO):gE (AI.op dst g o).kind=o.core:=by
 cases dst <;> cases g <;> cases o <;> rfl
def OL (P:Program) (o:AO) (dst:Option Nat) (b:Nat) (r:List (AI×Nat)) (K:Tm→St→Prop) (bQ:List St) (tm:Tm) (s:St):Prop:=
 match o.core with
 | true=>ML P o dst r K bQ tm s
 | false=>PL P o dst b r K bQ tm s
theorem Ia {K:Tm→St→Prop} {dst:Option Nat} {o:AO} {b:Nat} {r:List (AI×Nat)} {bQ:List St} {tm:Tm} {s:St} (h:OL P o dst b r K bQ tm s) :
 gH P K ((.op dst none o,b)::r) bQ tm s:=by
 unfold OL at h
 simp only [gH,sP]
 cases hc:o.core with
 | true=>
  simp only [hc,ML]at h
  simp only []
  split at h
  ·rename_i d s' he
   exact⟨d,s',by simpa [sd,guarded]using he,h⟩
  ·exact h.elim
 | false=>
  simp only [hc,PL]at h
  simp only []
  split at h
  ·rename_i d s' he
   exact⟨d,by simp [jL,he],fun _=>C8 h.1,h.2⟩
  ·exact h.elim
theorem L8 {K:Tm→St→Prop} {dst:Option Nat} {f:Nat} {xs:List X} {b:Nat} {r:List (AI×Nat)} {bQ:List St} {tm:Tm} {s:St} (h:CL P f (xs.map (·.ev tm)) s (KL P K r (s::bQ) tm dst)) :
 gH P K ((.call dst none f xs,b)::r) bQ tm s:=by
 obtain⟨d,s',h1,h2⟩:=h
 exact⟨d,s',h1,h2⟩
theorem Y8 {K:Tm→St→Prop} {i:AI} {t:Nat} {w:Bool} {b:Nat} {r:List (AI×Nat)} {bQ:List St} {tm:Tm} {s:St} {j:AI} (hf:(∃ d o,i = .op d none o∧j = .op d (some (t,w)) o)∨(∃ d f xs,i = .call d none f xs∧j = .call d (some (t,w)) f xs))
 (hg:tm.get t = .bool w) (h:gH P K ((i,b)::r) bQ tm s):gH P K ((j,b)::r) bQ tm s:=by
 rcases hf with ⟨d,o,rfl,rfl⟩ | ⟨d,f,xs,rfl,rfl⟩
 ·simp only [gH,sP]at h ⊢
  cases hc:o.core <;> simp only [hc]at h ⊢
  ·obtain⟨x,h1,h2,h3⟩:=h
   refine⟨x,by simpa [jL,hg]using h1,fun hk s' oN=> ?_,h3⟩
   have BQ:(AI.op d none o).kind = .load:=by
    cases d <;> cases o <;> first | exact hk | (cases hc;done) | (cases hk;done)
   simpa [jL,hg]using h2 BQ s' oN
  ·obtain⟨x,s',h1,h2⟩:=h
   exact⟨x,s',by simpa [sd,guarded,hg]using h1,h2⟩
 ·obtain⟨x,s',h1,h2⟩:=h
  exact⟨x,s',by simpa [sd,guarded,hg]using h1,h2⟩
theorem Pr {K:Tm→St→Prop} {i:AI} {t:Nat} {w:Bool} {b:Nat} {r:List (AI×Nat)} {bQ:List St} {tm:Tm} {s:St} {j:AI} (hf:(∃ d o,i = .op d none o∧j = .op d (some (t,w)) o)∨(∃ d f xs,i = .call d none f xs∧j = .call d (some (t,w)) f xs))
 (hg:tm.get t = .bool (!w)∨∃ l,tm.get t = .tuple l) (h:gH P K r (if gE i.kind then s::bQ else bQ) (tm.put i.dst (.tuple [])) s):gH P K ((j,b)::r) bQ tm s:=by
 rcases hf with ⟨d,o,rfl,rfl⟩ | ⟨d,f,xs,rfl,rfl⟩
 ·simp only [gH,sP]at h ⊢
  cases hc:o.core <;> simp only [hc]at h ⊢
  ·refine⟨.tuple [], ?_,fun hk s' oN=> ?_,h⟩
   ·rcases hg with hg | ⟨l,hg⟩ <;> simp [jL,hg]
   ·rcases hg with hg | ⟨l,hg⟩ <;> simp [jL,hg]
  ·refine⟨.tuple [],s, ?_,h⟩
   rcases hg with hg | ⟨l,hg⟩ <;> simp [sd,guarded,hg]
 ·refine⟨.tuple [],s, ?_,h⟩
  rcases hg with hg | ⟨l,hg⟩ <;> simp [sd,guarded,hg]
theorem KU {K:Tm→St→Prop} {i j:AI} {t:Nat} {w:Bool} {b:Nat} {r:List (AI×Nat)} {bQ:List St} {tm:Tm} {s:St} (hf:(∃ d o,i = .op d none o∧j = .op d (some (t,w)) o)∨(∃ d f xs,i = .call d none f xs∧j = .call d (some (t,w)) f xs))
 (h:GL P (tm.get t) w i b r K bQ tm s):gH P K ((j,b)::r) bQ tm s:=by
 unfold GL at h
 split at h
 ·rename_i v hv
  by_cases e:v=w
  ·exact Y8 hf (by rw [hv,e]) (h.1 e)
  ·exact Pr hf (.inl (by rw [hv];cases v <;> cases w <;> simp_all)) (h.2 (by cases v <;> cases w <;> simp_all))
 ·rename_i l hl
  exact Pr hf (.inr ⟨l,hl⟩) h
 ·exact h.elim
theorem FI {K:Tm→St→Prop} {dst:Option Nat} {o:AO} {t:Nat} {w:Bool} {b:Nat} {r:List (AI×Nat)} {bQ:List St} {tm:Tm} {s:St} (h:GL P (tm.get t) w (.op dst none o) b r K bQ tm s) :
 gH P K ((.op dst (some (t,w)) o,b)::r) bQ tm s:=KU (.inl ⟨dst,o,rfl,rfl⟩) h
theorem J0 {K:Tm→St→Prop} {dst:Option Nat} {f:Nat} {xs:List X} {t:Nat} {w:Bool} {b:Nat} {r:List (AI×Nat)} {bQ:List St} {tm:Tm} {s:St} (h:GL P (tm.get t) w (.call dst none f xs) b r K bQ tm s) :
 gH P K ((.call dst (some (t,w)) f xs,b)::r) bQ tm s:=KU (.inr ⟨dst,f,xs,rfl,rfl⟩) h
theorem CU {f:Nat} {args:List D} {s:St} {d:D} {s':St} {K:D→St→Prop} (h:aE P f args s d s') (hk:K d s'):CL P f args s K:=⟨d,s',h,hk⟩
end
end Go.Abs

/-! Wp -/

namespace Go.Abs
theorem nd {α:Type} {a b:α} (h:a=b):a=b:=h
def GJ (g:D) (w:Bool) (A C:Prop):Prop:=
 match g with
 | .bool b=>(b=w→A)∧(b=(!w)→C)
 | .tuple _=>C
 | _=>False
class Two where
 a:Prop
 c:Prop
def CB (d:D) [b:Two] : Prop:=tY d b.a b.c
def GB (d:D) (w:Bool) [b:Two] : Prop:=GJ d w b.a b.c
def mO (g:Option (Nat×Bool)) (tm:Tm) (A C:Prop):Prop:=
 match g with
 | none=>A
 | some (t,w)=>GJ (tm.get t) w A C
def kf (P:Program):List AI→(Tm→St→Prop)→Tm→St→Prop
 | [],K,tm,s=>K tm s
 | .op dst g o::r,K,tm,s=>mO g tm (match aV o tm s with | some (d,s')=>kf P r K (tm.put dst d) s' | none=>False) (kf P r K (tm.put dst (.tuple [])) s)
 | .call dst g f xs::r,K,tm,s=>mO g tm (CL P f (xs.map (·.ev tm)) s fun d s'=>kf P r K (tm.put dst d) s') (kf P r K (tm.put dst (.tuple [])) s)
 | .nil dst g neg x::r,K,tm,s=>
  mO g tm (match x.ev tm with
   | .slice _ _ rows=>∀ b:Bool,(rows≠ []→b=false)→kf P r K (tm.put dst (.bool (if neg then !b else b))) s
   | _=>False) (kf P r K (tm.put dst (.tuple [])) s)
 | .jg dst g t xs::r,K,tm,s=>
  mO g tm (match tm.get t with
   | .gP f nu=>enters P f=true∧CL P f (xs.map (·.ev tm)++nu) s fun d s'=>kf P r K (tm.put dst d) s'
   | _=>False) (kf P r K (tm.put dst (.tuple [])) s)
theorem si {g:Option (Nat×Bool)} {tm:Tm} {A C A' C':Prop} (h:mO g tm A C) (ha:A→A') (hc:C→C'):guarded g tm A' C':=by
 unfold mO at h
 unfold guarded
 cases g with
 | none=>exact ha h
 | some p=>
  obtain⟨t,w⟩:=p
  simp only [GJ]at h ⊢
  split at h
  ·rename_i hb;try simp only [hb]
   exact⟨fun e=>ha (h.1 e),fun e=>hc (h.2 e)⟩
  ·rename_i hb;try simp only [hb]
   exact hc h
  ·exact h.elim
theorem n8 {P:Program} {K:Tm→St→Prop} : ∀ {is:List AI} {tm:Tm} {s:St},kf P is K tm s→iQ P is K tm s
 | [],tm,s,h=>h
 | .op dst g o::r,tm,s,h=>by
  refine si h (fun h=> ?_) n8
  split at h
  ·rename_i he;try simp only [he]
   exact n8 h
  ·exact h.elim
 | .call dst g f xs::r,tm,s,h=>si h (fun⟨d,s',h1,h2⟩=>h1.use (n8 h2)) n8
 | .nil dst g neg x::r,tm,s,h=>by
  refine si h (fun h=> ?_) n8
  split at h
  ·rename_i he;try simp only [he]
   exact fun b hb=>n8 (h b hb)
  ·exact h.elim
 | .jg dst g t xs::r,tm,s,h=>by
  refine si h (fun h=> ?_) n8
  split at h
  ·rename_i he;try simp only [he]
   obtain⟨h0,d,s',h1,h2⟩:=h
   exact⟨h0,h1.use (n8 h2)⟩
  ·exact h.elim
def gf (P:Program) (K:Tm→St→Prop):List (AI×Nat)→List St→Tm→St→Prop
 | [],_,tm,s=>K tm s
 | (.op dst g o,b)::r,bQ,tm,s=>
  match o.core with
  | true=>mO g tm (match aV o tm s with | some (d,s')=>gf P K r (s::bQ) (tm.put dst d) s' | none=>False) (gf P K r (s::bQ) (tm.put dst (.tuple [])) s)
  | false=>mO g tm (match aV o tm s with | some (d,_)=>nW (.op dst none o) tm d (bQ.take b)∧gf P K r bQ (tm.put dst d) s | none=>False) (gf P K r bQ (tm.put dst (.tuple [])) s)
 | (.call dst g f xs,_)::r,bQ,tm,s=>mO g tm (CL P f (xs.map (·.ev tm)) s fun d s'=>gf P K r (s::bQ) (tm.put dst d) s') (gf P K r (s::bQ) (tm.put dst (.tuple [])) s)
 | (.nil ..,_)::_,_,_,_=>False
 | (.jg ..,_)::_,_,_,_=>False
theorem Ah {P:Program} {t:Nat} {w:Bool} {tm:Tm} {i:AI} {b:Nat} {r:List (AI×Nat)} {K:Tm→St→Prop} {bQ:List St} {s:St} {A C:Prop} (h:mO (some (t,w)) tm A C) (ha:A→gH P K ((i,b)::r) bQ tm s)
 (hc:C→gH P K r (if gE i.kind then s::bQ else bQ) (tm.put i.dst (.tuple [])) s):GL P (tm.get t) w i b r K bQ tm s:=by
 simp only [mO,GJ]at h
 unfold GL
 split at h
 ·rename_i hb;try simp only [hb]
  exact⟨fun e=>ha (h.1 e),fun e=>hc (h.2 e)⟩
 ·rename_i hb;try simp only [hb]
  exact hc h
 ·exact h.elim
theorem l8 {P:Program} {K:Tm→St→Prop} : ∀ {l:List (AI×Nat)} {bQ:List St} {tm:Tm} {s:St},gf P K l bQ tm s→gH P K l bQ tm s
 | [],bQ,tm,s,h=>h
 | (.op dst g o,b)::r,bQ,tm,s,h=>by
  simp only [gf]at h
  cases hc:o.core with
  | true=>
   simp only [hc]at h
   have ha:(match aV o tm s with | some (d,s')=>gf P K r (s::bQ) (tm.put dst d) s' | none=>False)→gH P K ((.op dst none o,b)::r) bQ tm s:=by
    intro h
    refine Ia ?_
    simp only [OL,hc,ML]
    split at h
    ·rename_i he;try simp only [he]
     exact l8 h
    ·exact h.elim
   cases g with
   | none=>exact ha h
   | some p=>
    obtain⟨t,w⟩:=p
    refine FI (Ah h ha fun h=> ?_)
    simp only [sP,hc,if_true]
    exact l8 h
  | false=>
   simp only [hc]at h
   have ha:(match aV o tm s with | some (d,_)=>nW (.op dst none o) tm d (bQ.take b)∧gf P K r bQ (tm.put dst d) s | none=>False)→gH P K ((.op dst none o,b)::r) bQ tm s:=by
    intro h
    refine Ia ?_
    simp only [OL,hc,PL]
    split at h
    ·rename_i he;try simp only [he]
     exact⟨h.1,l8 h.2⟩
    ·exact h.elim
   cases g with
   | none=>exact ha h
   | some p=>
    obtain⟨t,w⟩:=p
    refine FI (Ah h ha fun h=> ?_)
    simp only [sP,hc]
    exact l8 h
 | (.call dst g f xs,b)::r,bQ,tm,s,h=>by
  simp only [gf]at h
  have ha:(CL P f (xs.map (·.ev tm)) s fun d s'=>gf P K r (s::bQ) (tm.put dst d) s')→gH P K ((.call dst none f xs,b)::r) bQ tm s:=
   fun⟨d,s',h1,h2⟩=>L8 ⟨d,s',h1,l8 h2⟩
  cases g with
  | none=>exact ha h
  | some p=>
   obtain⟨t,w⟩:=p
   exact J0 (Ah h ha fun h=>l8 h)
 | (.nil ..,_)::_,bQ,tm,s,h=>h.elim
 | (.jg ..,_)::_,bQ,tm,s,h=>h.elim
section
variable {P:Program} {B:fI} {nt:Nat}
def gU (P:Program) (B:fI) (nt:Nat):AC→(Exit→Tm→St→Prop)→Tm→St→Prop
 | .skip,Q,tm,s=>Q .normal tm s
 | .run is,Q,tm,s=>kf P is (Q .normal) tm s
 | .par is lC,Q,tm,s=>match mN is lC with | some l=>gf P (Q .normal) l [] tm s | none=>False
 | .seq a b,Q,tm,s=>gU P B nt a (lO (gU P B nt b Q) Q) tm s
 | .cond x a b,Q,tm,s=>tY (x.ev tm) (gU P B nt a Q tm s) (gU P B nt b Q tm s)
 | .block id a,Q,tm,s=>gU P B nt a (jP id Q) tm s
 | .loop a,Q,tm,s=>a8 P B nt a Q tm s
 | .exit id,Q,tm,s=>Q (.exit id) tm s
 | .scope a,Q,tm,s=>od P B nt a a Q tm s
 | .label _,Q,tm,s=>Q .normal tm s
 | .goto l,Q,tm,s=>Q (.goto l) tm s
 | .ret,Q,tm,s=>Q .ret tm s
theorem iA : ∀ {ac:AC} {Q:Exit→Tm→St→Prop} {tm:Tm} {s:St},gU P B nt ac Q tm s→Sem P B nt ac Q tm s:=by
 intro ac
 induction ac with
 | skip=>exact fun h=>Sem.skip h
 | run is=>exact fun h=>Sem.run (n8 h)
 | par is lC=>
  intro Q tm s h
  simp only [gU]at h
  split at h
  ·exact Sem.afS ‹_› (l8 h)
  ·exact h.elim
 | seq a b O2 O3=>
  intro Q tm s h
  refine Sem.seq ((O2 h).mono fun e tm s hq=> ?_)
  cases e with
  | normal=>exact O3 hq
  | _=>exact hq
 | cond x a b O2 O3=>
  intro Q tm s h
  refine Sem.acI ?_
  simp only [gU]at h
  unfold tY at h ⊢
  split at h
  ·exact⟨fun e=>O2 (h.1 e),fun e=>O3 (h.2 e)⟩
  ·exact h.elim
 | block id a ih=>exact fun h=>Sem.block (ih h)
 | loop a ih=>exact fun h=>Sem.loop h
 | exit id=>exact fun h=>Sem.exit h
 | scope a ih=>exact fun h=>Sem.scope h
 | label l=>exact fun h=>Sem.label h
 | goto l=>exact fun h=>Sem.goto h
 | ret=>exact fun h=>Sem.ret h
section
variable (Q:Exit→Tm→St→Prop) (N:Tm→St→Prop) (tm:Tm) (s:St) (a b:AC) (is:List AI) (x:X)
theorem Se:gU P B nt .skip Q tm s=Q .normal tm s:=nd rfl
theorem WZ:gU P B nt (.run is) Q tm s=kf P is (Q .normal) tm s:=nd rfl
theorem W0 (lC:List (Nat×Nat)):gU P B nt (.par is lC) Q tm s=match mN is lC with | some l=>gf P (Q .normal) l [] tm s | none=>False:=nd rfl
theorem W1:gU P B nt (.seq a b) Q tm s=gU P B nt a (lO (gU P B nt b Q) Q) tm s:=nd rfl
theorem Sf:gU P B nt (.cond x a b) Q tm s = @CB (x.ev tm) ⟨gU P B nt a Q tm s,gU P B nt b Q tm s⟩:=nd rfl
theorem Ps (id:Nat):gU P B nt (.block id a) Q tm s=gU P B nt a (jP id Q) tm s:=nd rfl
theorem Sg:gU P B nt (.loop a) Q tm s=a8 P B nt a Q tm s:=nd rfl
theorem Pu:gU P B nt (.scope a) Q tm s=od P B nt a a Q tm s:=nd rfl
theorem Si (id:Nat):gU P B nt (.exit id) Q tm s=Q (.exit id) tm s:=nd rfl
theorem Pv (id:Nat):gU P B nt (.label id) Q tm s=Q .normal tm s:=nd rfl
theorem Sj (id:Nat):gU P B nt (.goto id) Q tm s=Q (.goto id) tm s:=nd rfl
theorem W2:gU P B nt .ret Q tm s=Q .ret tm s:=nd rfl
theorem W3:lO N Q .normal tm s=N tm s:=nd rfl
theorem W4:lO N Q .ret tm s=Q .ret tm s:=nd rfl
theorem W5 (id:Nat):lO N Q (.exit id) tm s=Q (.exit id) tm s:=nd rfl
theorem W6 (id:Nat):lO N Q (.goto id) tm s=Q (.goto id) tm s:=nd rfl
theorem Sk (id:Nat):jP id Q .normal tm s=Q .normal tm s:=nd rfl
theorem Sl (id:Nat):jP id Q .ret tm s=Q .ret tm s:=nd rfl
theorem Sn (id l:Nat):jP id Q (.goto l) tm s=Q (.goto l) tm s:=nd rfl
theorem Sp (id i:Nat):jP id Q (.exit i) tm s=if i=id then Q .normal tm s else Q (.exit i) tm s:=nd rfl
end
theorem a8.sj {a:AC} {Q:Exit→Tm→St→Prop} {tm:Tm} {s:St} (h:gU P B nt a (lO (a8 P B nt a Q) Q) tm s):a8 P B nt a Q tm s:=a8.once (iA h)
theorem od.sj {a r:AC} {Q:Exit→Tm→St→Prop} {tm:Tm} {s:St} (h:gU P B nt r (jY P B nt a Q) tm s):od P B nt a r Q tm s:=od.once (iA h)
def tJ (tm:Tm) (n m:Nat):Tm→Prop
 | []=>True
 | (k,d)::r=>Wk ((tm.get k).fg n m) d∧tJ tm n m r
theorem tJ.get {tm:Tm} {n m:Nat} : ∀ {b7:Tm},tJ tm n m b7→∀ t,Wk ((tm.get t).fg n m) (b7.get t)
 | [],_,t=>Wk.junk _
 | (k,d)::r,h,t=>by
  simp only [Tm.get]
  split
  ·rename_i hk;subst hk;exact h.1
  ·exact tJ.get h.2 t
theorem Holds.re {Q:Exit→Tm→St→Prop} {tm b7:Tm} {s:St} {kI:List (List D)} {act:Act} {w:World} (n m:Nat) (hn:B.s.aG.length≤n) (hm:B.s.aH.length≤m) (ht:tJ tm n m b7) (ho:iF (s.cut n m).aG kI)
 (h:Holds B nt tm s act w):Holds B nt b7 ⟨kI,(s.cut n m).aH⟩ act w:=by
 obtain⟨M,e,r,hr,h1,h2⟩:=h
 obtain⟨r',le⟩:=(r.cut n m).Cg ho
 have e':=e.cut hn hm
 refine⟨M,e'.trans ⟨le,fun _ _ _ _=>rfl,fun o h1 h2=> ?_,fun t b c z hl e=> .inl ⟨hl,c,z,e⟩,fun _ _ h=>(h rfl).elim,Nat.le_refl _,rfl,rfl,rfl⟩,r',fun k=>((ht.get k) _ _ _ ((hr k).fg n m)).mono le,h1,h2⟩
 rw [← ho.len]at h2
 exact absurd h2 (Nat.not_lt.2 h1)
theorem a8.re {a:AC} {Q:Exit→Tm→St→Prop} {tm:Tm} {s:St} (b7:Tm) (kI:List (List D)) (n m:Nat) (hn:B.s.aG.length≤n) (hm:B.s.aH.length≤m) (ht:tJ tm n m b7) (ho:iF (s.cut n m).aG kI)
 (h:a8 P B nt a Q b7 ⟨kI,(s.cut n m).aH⟩):a8 P B nt a Q tm s:=
 fun c hc act w hh=>h c hc act w (hh.re (Q:=Q) n m hn hm ht ho)
theorem od.re {a r:AC} {Q:Exit→Tm→St→Prop} {tm:Tm} {s:St} (b7:Tm) (kI:List (List D)) (n m:Nat) (hn:B.s.aG.length≤n) (hm:B.s.aH.length≤m) (ht:tJ tm n m b7) (ho:iF (s.cut n m).aG kI)
 (h:od P B nt a r Q b7 ⟨kI,(s.cut n m).aH⟩):od P B nt a r Q tm s:=
 fun c rest hc hr act w hh=>h c rest hc hr act w (hh.re (Q:=Q) n m hn hm ht ho)
theorem a8.ind {ι:Type} {a:AC} {Q:Exit→Tm→St→Prop} (I:ι→Prop) (μ:ι→Nat) (TM:ι→Tm) (ST:ι→St)
 (step : ∀ i,I i→(∀ j,I j→μ j<μ i→a8 P B nt a Q (TM j) (ST j))→gU P B nt a (lO (a8 P B nt a Q) Q) (TM i) (ST i)) : ∀ i,I i→a8 P B nt a Q (TM i) (ST i):=by
 have key : ∀ n i,μ i<n→I i→a8 P B nt a Q (TM i) (ST i):=by
  intro n
  induction n with
  | zero=>intro i h;exact absurd h (Nat.not_lt_zero _)
  | succ n ih=>exact fun i h hi=>a8.sj (step i hi fun j hj hF=>ih j (by omega) hj)
 exact fun i hi=>key (μ i+1) i (Nat.lt_succ_self _) hi
theorem drop_cons {α:Type} {l rest:List α} {k:Nat} {x:α} (h:l.drop k=x::rest):l[k]? = some x∧l.drop (k+1)=rest∧decide ((k:Int)<(l.length:Int))=true∧k<l.length:=by
 have h1:l[k]? = some x:=by
  have:(l.drop k)[0]? = some x:=by rw [h];rfl
  simpa using this
 have h2:=(List.getElem?_eq_some_iff.1 h1).1
 refine⟨h1, ?_,by simpa using h2,h2⟩
 have:l.drop (k+1)=(l.drop k).drop 1:=by rw [List.drop_drop]
 rw [this,h];rfl
theorem drop_nil {α:Type} {l:List α} {k:Nat} (h:l.drop k = []):decide ((k:Int)<(l.length:Int))=false:=by
 have:=List.drop_eq_nil_iff.1 h
 simp;omega
theorem a8.jB {a:AC} {Q:Exit→Tm→St→Prop} {tm:Tm} {s:St} (t z':Nat) {z:Nat} (hw:tm.get t = .slice .full z [])
 (h:a8 P B nt a Q (tm.set t (.slice (.tok s.aH.length) z' [])) {s with aH:=s.aH++ [some 0]}):a8 P B nt a Q tm s:=by
 intro c hc act w ⟨M,e,r,ht,h1,h2⟩
 obtain⟨r',le⟩:=r.blank
 refine h c hc act w ⟨_,Ad e le,r',fun k=> ?_,h1,h2⟩
 rw [Tm.Bd]
 split
 ·rename_i hk;subst hk;have:=ht k;rw [hw]at this;exact this.own
 ·exact(ht k).mono le
theorem a8.uP {a:AC} {Q:Exit→Tm→St→Prop} {tm:Tm} {s:St} (o i z':Nat) {z:Nat} {cs:List D} (hc:s.aG[o]? = some cs) (hi:cs[i]? = some (.slice .full z []))
 (h:a8 P B nt a Q tm ⟨s.aG.set o (cs.set i (.slice (.tok s.aH.length) z' [])),s.aH++ [some 0]⟩):a8 P B nt a Q tm s:=by
 intro c YM act w hh
 obtain⟨M,e,r,ht,h1,h2⟩:=hh
 obtain⟨r',le⟩:=r.blank
 have le':Le M s (M.ff s.aH.length none) ⟨s.aG.set o (cs.set i (.slice (.tok s.aH.length) z' [])),s.aH++ [some 0]⟩:=⟨le.G,by simp,le.loc,le.t,le.tk⟩
 have Za:Le (M.ff s.aH.length none) {s with aH:=s.aH++ [some 0]} (M.ff s.aH.length none) ⟨s.aG.set o (cs.set i (.slice (.tok s.aH.length) z' [])),s.aH++ [some 0]⟩:=
  ⟨fun _ _ _ h=>h,by simp,fun _ _=>rfl,Nat.le_refl _,fun t n' _ e=>⟨n',e,Nat.le_refl _,fun _=>rfl⟩⟩
 have r2:Rel (M.ff s.aH.length none) ⟨s.aG.set o (cs.set i (.slice (.tok s.aH.length) z' [])),s.aH++ [some 0]⟩ w:=by
  refine⟨r'.comm,fun o' ds e=> ?_,fun o ho=>r'.k7 o (by simpa using ho),fun o o' ho np=>r'.inj o o' (by simpa using ho) (by simpa using np),r'.tok,
   fun t b c z o hv e ho=>r'.fL t b c z o hv e (by simpa using ho),r'.gq⟩
  simp only [List.getElem?_set]at e
  split at e
  ·rename_i ho
   subst ho
   split at e
   ·cases e
    obtain⟨vs,T,g1,g2,g3,g4⟩:=r.obj o cs hc
    refine⟨vs,T,g1,by simpa using g2,g3,fun j d v e1 e2=> ?_⟩
    rw [List.getElem?_set]at e1
    split at e1
    ·rename_i hj
     subst hj
     split at e1
     ·cases e1
      exact((g4 i _ v hi e2).own (z':=z')).mono Za
     ·cases e1
    ·exact(g4 j d v e1 e2).mono le'
   ·cases e
  ·obtain⟨vs,T,g1,g2,g3,g4⟩:=r'.obj o' ds e
   exact⟨vs,T,g1,g2,g3,fun i d v e1 e2=>(g4 i d v e1 e2).mono Za⟩
 have ee:Ext B.M B.s B.w (M.ff s.aH.length none) ⟨s.aG.set o (cs.set i (.slice (.tok s.aH.length) z' [])),s.aH++ [some 0]⟩ w:=by
  refine(Ad e le).trans ⟨Za,fun _ _ _ _=>rfl,fun o h1 h2=> ?_,fun t b c z hl e=> .inl ⟨hl,c,z,e⟩,fun _ _ h=>(h rfl).elim,Nat.le_refl _,rfl,rfl,rfl⟩
  simp at h2
  exact absurd h2 (Nat.not_lt.2 h1)
 exact h c YM act w ⟨_,ee,r2,fun k=>(ht k).mono le',h1,h2⟩
theorem cw {ac r:AC} {l:Nat} {Q:Exit→Tm→St→Prop} {tm:Tm} {s:St} (hf:sc ac l=some r) (h:gU P B nt r (jY P B nt ac Q) tm s):jY P B nt ac Q (.goto l) tm s:=⟨r,hf,od.sj h⟩
theorem Sq {ac r:AC} {l:Nat} {Q:Exit→Tm→St→Prop} {tm:Tm} {s:St} (hf:sc ac l=some r) (h:od P B nt ac r Q tm s):jY P B nt ac Q (.goto l) tm s:=⟨r,hf,h⟩
theorem Sem.kJ {a b:AC} {Q:Exit→Tm→St→Prop} {tm:Tm} {s:St} (h:gU P B nt a (lO (Sem P B nt b Q) Q) tm s):Sem P B nt (.seq a b) Q tm s:=Sem.seq (iA h)
theorem Sem.re {a:AC} {Q:Exit→Tm→St→Prop} {tm:Tm} {s:St} (b7:Tm) (kI:List (List D)) (n m:Nat) (hn:B.s.aG.length≤n) (hm:B.s.aH.length≤m) (ht:tJ tm n m b7) (ho:iF (s.cut n m).aG kI)
 (h:Sem P B nt a Q b7 ⟨kI,(s.cut n m).aH⟩):Sem P B nt a Q tm s:=
 fun c hc act w hh=>h c hc act w (hh.re (Q:=Q) n m hn hm ht ho)
def Has (P:Program) (f nt:Nat) (res:List (Nat×Option (Bool×Nat))) (body:AC):Prop:=∃ fn,P.funcs[f]? = some fn∧cF P fn=some ⟨nt,res,body⟩
theorem aE.go {f:FuncId} {res:List (Nat×Option (Bool×Nat))} {body:AC} {args:List D} {s:St} {d:D} {s':St} (h0:Has P f nt res body) (hl:Nat.ble args.length nt=true)
 (h : ∀ (B:fI) (Q:Exit→Tm→St→Prop),B.s=s→iS s.aG.length s.aH.length res d s'=Q→gU P B nt body Q (ou 0 args) s):aE P f args s d s':=by
 obtain⟨fn,hf,hc⟩:=h0
 exact aE.intro ⟨fn,hf,hc⟩ (Nat.le_of_ble_eq_true hl) fun B hB=>iA (h B _ hB rfl)
theorem aE.acL {f:FuncId} {args row lE:List D} {rows lh:List (List D)} {z z' k k':Nat} (h:aE P f (.ptr 0 0:: .slice (.tok 0) z rows::args) ⟨[row],[some k]⟩ (.slice (.tok 0) z' lh) ⟨[lE],[some k']⟩)
 (ha:D.bR 0 0 args=true) (hr:D.bR 0 0 row=true) (HN:D.bR 0 0 lE=true) (hw:D.ji 0 0 rows=true) (Pw:D.ji 0 0 lh=true)
 {s:St} {o t:Nat} (ho:s.aG[o]? = some row) (ht:s.aH[t]? = some (some k)):aE P f (.ptr o 0:: .slice (.tok t) z rows::args) s (.slice (.tok t) z' lh) ⟨s.aG.set o lE,s.aH.set t (some k')⟩:=by
 refine eU.frame [o] [t] h (by simp) (by simp) (by simpa using (List.getElem?_eq_some_iff.1 ho).1) (by simpa using (List.getElem?_eq_some_iff.1 ht).1) rfl (fun i o' ds e1 e2=> ?_) rfl (fun i t' e1=> ?_)
  (by simp [D.gA,D.dW,Tag.dW,fF _ _ _ ha,jz _ _ _ hw])
  (by simp [D.bR,D.ok,Tag.ok,iu (Nat.zero_le 1) (Nat.zero_le 1) _ ha,nB (Nat.zero_le 1) (Nat.zero_le 1) _ hw]) ?_
 ·cases i with
  | zero=>simp at e1 e2;subst e1;subst e2;exact⟨by rw [fF _ _ _ hr];exact ho,iu (Nat.zero_le 1) (Nat.zero_le 1) _ hr⟩
  | succ i=>simp at e1
 ·cases i with
  | zero=>simp at e1;subst e1;simp [ht]
  | succ i=>simp at e1
 ·rintro _ _ ⟨rfl,rfl⟩
  refine⟨by simp [D.back,D.dW,Tag.dW,ku,jz _ _ _ Pw], ?_⟩
  simp [St.back,ky,fF _ _ _ HN]
theorem aE.L9 {f:FuncId} {pre post:List D} {rows lh:List (List D)} {z z' k k':Nat} (h:aE P f (pre++ .slice (.tok 0) z rows::post) ⟨[],[some k]⟩ (.slice (.tok 0) z' lh) ⟨[],[some k']⟩)
 (hp:D.bR 0 0 pre=true) (ha:D.bR 0 0 post=true) (hw:D.ji 0 0 rows=true) (Pw:D.ji 0 0 lh=true)
 {s:St} {t:Nat} (ht:s.aH[t]? = some (some k)):aE P f (pre++ .slice (.tok t) z rows::post) s (.slice (.tok t) z' lh) ⟨s.aG,s.aH.set t (some k')⟩:=by
 refine eU.frame [] [t] h (by simp) (by simp) (by simp) (by simpa using (List.getElem?_eq_some_iff.1 ht).1) rfl (fun i o' ds e1 e2=>by simp at e1) rfl (fun i t' e1=> ?_)
  ?_ ?_ ?_
 ·cases i with
  | zero=>simp at e1;subst e1;simp [ht]
  | succ i=>simp at e1
 ·have h1:=fF [] [t] _ hp
  have h2:=fF [] [t] _ ha
  rw [fU]at h1 h2
  simp [fU,D.dW,Tag.dW,h1,h2,jz _ _ _ hw]
 ·have h1:=iu (n':=0) (m':=1) (Nat.le_refl 0) (Nat.zero_le 1) _ hp
  have h2:=iu (n':=0) (m':=1) (Nat.le_refl 0) (Nat.zero_le 1) _ ha
  rw [Aa]at h1 h2 ⊢
  simp only [List.length_nil,List.length_cons,List.all_append,h1,Bool.true_and,List.all_cons,h2,Bool.and_true,D.ok,Tag.ok,nB (Nat.zero_le 0) (Nat.zero_le 1) _ hw]
  rfl
 ·rintro _ _ ⟨rfl,rfl⟩
  refine⟨by simp [D.back,D.dW,Tag.dW,ku,jz _ _ _ Pw], ?_⟩
  simp [St.back,ky]
theorem afV (A C:Prop) : @CB (.bool true) ⟨A,C⟩=A:=by simp [CB,tY]
theorem afW (A C:Prop) : @CB (.bool false) ⟨A,C⟩=C:=by simp [CB,tY]
theorem Zb (b:Bool) (A C:Prop) : @CB (.bool (!b)) ⟨A,C⟩ = @CB (.bool b) ⟨C,A⟩:=by
 cases b <;> simp [CB,tY]
theorem Ib {b:Bool} {A C:Prop} (h1:b=true→A) (h2:b=false→C) : @CB (.bool b) ⟨A,C⟩:=⟨h1,h2⟩
theorem Zc {b:Bool} {A C:Prop} (h:b=true) (h1:b=true→A) : @CB (.bool b) ⟨A,C⟩:=Ib h1 (fun h'=>by rw [h]at h';cases h')
theorem Zd {b:Bool} {A C:Prop} (h:b=false) (h1:b=false→C) : @CB (.bool b) ⟨A,C⟩:=Ib (fun h'=>by rw [h]at h';cases h') h1
theorem acM {n m:Nat} {res:List (Nat×Option (Bool×Nat))} {d:D} {s':St} {tm:Tm} {s:St} {Q:Exit→Tm→St→Prop} (hQ:iS n m res d s'=Q)
 (h : ∃ l,au res tm s=some l∧Wk ((aw l).fg n m) d∧iF (s.cut n m).aG s'.aG∧(s.cut n m).aH=s'.aH):Q .ret tm s:=hQ ▸ h
theorem acN {n m:Nat} {res:List (Nat×Option (Bool×Nat))} {d:D} {s':St} {tm:Tm} {s:St} {Q:Exit→Tm→St→Prop} (hQ:iS n m res d s'=Q)
 (h : ∃ l,au res tm s=some l∧Wk ((aw l).fg n m) d∧iF (s.cut n m).aG s'.aG∧(s.cut n m).aH=s'.aH):Q .normal tm s:=hQ ▸ h
end
attribute [go_sem] Se WZ W0 W1 Sf Ps Sg Pu Si Pv Sj W2 W3 W4 W5 W6 Sk Sl Sn Sp
theorem Px : ∀ (tm:Tm) (s:St) (x:X),aV (AO.mv x) tm s=some (X.ev tm x,s):=
 fun tm s x=>nd (aV.eq_1 tm s x)
theorem Py : ∀ (tm:Tm) (s:St) (c a b:X),
 aV (AO.pick c a b) tm s =
  match X.ev tm c with
  | D.bool t=>some (if t=true then X.ev tm a else X.ev tm b,s)
  | x=>none:=
 fun tm s c a b=>nd (aV.eq_2 tm s c a b)
theorem Pz : ∀ (tm:Tm) (s:St) (zero:List D),
 aV (AO.alloc zero) tm s=some (D.ptr s.aG.length 0,{aG:=s.aG++ [zero],aH:=s.aH}):=
 fun tm s zero=>nd (aV.eq_3 tm s zero)
theorem PA : ∀ (tm:Tm) (s:St) (x:X),
 aV (AO.box x) tm s =
  match (X.ev tm x).row with
  | some r=>some (D.ptr s.aG.length 0,{aG:=s.aG++ [r],aH:=s.aH})
  | none=>none:=
 fun tm s x=>nd (aV.eq_4 tm s x)
theorem PB : ∀ (tm:Tm) (s:St) (zero:List D) (parts:List (Nat×Nat×X)),
 aV (AO.build zero parts) tm s =
  match qD zero (List.map (fun(p:Nat×Nat×X)=>(p.fst,p.snd.fst,X.ev tm p.snd.snd)) parts)with
  | some cs=>some (D.agg cs,s)
  | none=>none:=
 fun tm s zero parts=>nd (aV.eq_5 tm s zero parts)
theorem PC : ∀ (tm:Tm) (s:St) (zero:List D) (size n:Nat) (parts:List (Nat×X)),
 aV (AO.cG zero size n parts) tm s =
  match jN size (iR zero n) (List.map (fun(p:Nat×X)=>(p.fst,X.ev tm p.snd)) parts)with
  | some rows=>some (D.slice Tag.full size rows,s)
  | none=>none:=
 fun tm s zero size n parts=>nd (aV.eq_6 tm s zero size n parts)
theorem PD : ∀ (tm:Tm) (s:St) (zero:List D) (size n:Nat) (parts:List (Nat×X)),
 aV (AO.uB zero size n parts) tm s =
  match jN size (iR zero n) (List.map (fun(p:Nat×X)=>(p.fst,X.ev tm p.snd)) parts)with
  | some rows=>
   some (D.slice (Tag.tok s.aH.length) size rows,{aG:=s.aG,aH:=s.aH++ [some rows.length]})
  | none=>none:=
 fun tm s zero size n parts=>nd (aV.eq_7 tm s zero size n parts)
theorem PE : ∀ (tm:Tm) (s:St) (x:X),
 aV (AO.zI x) tm s =
  match X.ev tm x with
  | D.slice (Tag.tok t _) z rows=>
   if rows≠ []∧s.aH[t]? = some (some rows.length)then
    some (D.slice Tag.shared z rows,{aG:=s.aG,aH:=s.aH.set t none})
   else none
  | x=>none:=
 fun tm s x=>nd (aV.eq_8 tm s x)
theorem PF : ∀ (tm:Tm) (s:St) (x:X) (agg:Bool) (size:Nat),
 aV (AO.load x agg size) tm s =
  match X.ev tm x with
  | D.ptr o off=>
   match s.aG[o]? with
   | some cs=>
    match part cs off agg size with
    | some d=>some (d,s)
    | none=>none
   | none=>none
  | D.dU row off=>
   match part row off agg size with
   | some d=>some (d,s)
   | none=>none
  | x=>none:=
 fun tm s x agg size=>nd (aV.eq_9 tm s x agg size)
theorem Ma : ∀ (tm:Tm) (s:St) (p x:X) (size:Nat),
 aV (AO.store p x size) tm s =
  match X.ev tm p,(X.ev tm x).row with
  | D.ptr o off,some r=>
   match s.aG[o]? with
   | some cs=>
    if r.length=size∧off+size≤cs.length then
     some (D.tuple [],{aG:=s.aG.set o (jJ cs off r),aH:=s.aH})
    else none
   | none=>none
  | x,fD=>none:=
 fun tm s p x size=>nd (aV.eq_10 tm s p x size)
theorem Mb : ∀ (tm:Tm) (s:St) (x:X),
 aV (AO.dv x) tm s =
  match X.ev tm x with
  | D.ptr o off=>some (D.ptr o off,s)
  | D.dU row off=>some (D.dU row off,s)
  | x=>none:=
 fun tm s x=>nd (aV.eq_11 tm s x)
theorem Mc : ∀ (tm:Tm) (s:St) (op:BinOp) (x y:X),
 aV (AO.bin op x y) tm s =
  match wH op (X.ev tm x) (X.ev tm y)with
  | some d=>some (d,s)
  | none=>none:=
 fun tm s op x y=>nd (aV.eq_12 tm s op x y)
theorem Md : ∀ (tm:Tm) (s:St) (neg:Bool) (x y:X),
 aV (AO.ze neg x y) tm s =
  match X.ev tm x,X.ev tm y with
  | D.bool a,D.bool b=>some (D.bool (if neg=true then !a==b else a==b),s)
  | x,fD=>none:=
 fun tm s neg x y=>nd (aV.eq_13 tm s neg x y)
theorem Me : ∀ (tm:Tm) (s:St) (neg:Bool) (ks:List Nat) (x y:X),
 aV (AO.eqs neg ks x y) tm s =
  match X.ev tm x,X.ev tm y with
  | D.agg a,D.agg b=>
   match kX ks a b with
   | some e=>some (D.bool (if neg=true then !e else e),s)
   | none=>none
  | x,fD=>none:=
 fun tm s neg ks x y=>nd (aV.eq_14 tm s neg ks x y)
theorem Mf : ∀ (tm:Tm) (s:St) (neg:Bool) (x y:X),
 aV (AO.Fq neg x y) tm s =
  match X.ev tm x,X.ev tm y with
  | D.fB,D.fB=>some (D.bool !neg,s)
  | D.ptr o off,D.fB=>some (D.bool neg,s)
  | D.dU row off,D.fB=>some (D.bool neg,s)
  | x,fD=>none:=
 fun tm s neg x y=>nd (aV.eq_15 tm s neg x y)
theorem Mg : ∀ (tm:Tm) (s:St) (op:UnOp) (x:X),
 aV (AO.un op x) tm s =
  match HF op (X.ev tm x)with
  | some d=>some (d,s)
  | none=>none:=
 fun tm s op x=>nd (aV.eq_16 tm s op x)
theorem Mh : ∀ (tm:Tm) (s:St) (k:IntKind) (x:X),
 aV (AO.conv k x) tm s =
  match X.ev tm x with
  | D.int k_1 n=>some (D.int k (k.wrap n),s)
  | x=>none:=
 fun tm s k x=>nd (aV.eq_17 tm s k x)
theorem Mi : ∀ (tm:Tm) (s:St) (x:X),
 aV (AO.CK x) tm s =
  match X.ev tm x with
  | D.slice g size rows=>
   match n7 rows with
   | some b=>some (D.str b,s)
   | none=>none
  | x=>none:=
 fun tm s x=>nd (aV.eq_18 tm s x)
theorem Mj : ∀ (tm:Tm) (s:St) (x:X),
 aV (AO.xq x) tm s =
  match X.ev tm x with
  | D.str l=>some (D.slice Tag.shared 1 (List.map (fun(c:UInt8)=> [D.int IntKind.u8 ↑c.toNat]) l),s)
  | x=>none:=
 fun tm s x=>nd (aV.eq_19 tm s x)
theorem Mk : ∀ (tm:Tm) (s:St) (size:Nat) (x:X) (lo hi:Option X),
 aV (AO.HC size x lo hi) tm s =
  match X.ev tm x with
  | D.slice g z rows=>
   match zM (Option.map (fun(x:X)=>X.ev tm x) lo),
    zN (Option.map (fun(x:X)=>X.ev tm x) hi) rows.length with
   | some l,some h=>
    if(rows = []∨z=size)∧0≤l∧l≤h∧h≤ ↑rows.length then
     some
      (D.slice (if l=0 then g.cut (decide (h = ↑rows.length))else Tag.shared) z
       (List.drop l.toNat (List.take h.toNat rows)),
       s)
    else none
   | x,fD=>none
  | x=>none:=
 fun tm s size x lo hi=>nd (aV.eq_20 tm s size x lo hi)
theorem Ml : ∀ (tm:Tm) (s:St) (x:X) (lo hi:Option X),
 aV (AO.ye x lo hi) tm s =
  match X.ev tm x with
  | D.str t=>
   match zM (Option.map (fun(x:X)=>X.ev tm x) lo),zN (Option.map (fun(x:X)=>X.ev tm x) hi) t.length with
   | some l,some h=>
    if 0≤l∧l≤h∧h≤ ↑t.length then some (D.str (List.drop l.toNat (List.take h.toNat t)),s)else none
   | x,fD=>none
  | x=>none:=
 fun tm s x lo hi=>nd (aV.eq_21 tm s x lo hi)
theorem Mm : ∀ (tm:Tm) (s:St) (x:X) (off:Nat),
 aV (AO.aq x off) tm s =
  match X.ev tm x with
  | D.ptr o k=>some (D.ptr o (k+off),s)
  | D.dU row k=>some (D.dU row (k+off),s)
  | x=>none:=
 fun tm s x off=>nd (aV.eq_22 tm s x off)
theorem Mn : ∀ (tm:Tm) (s:St) (x:X) (off:Nat) (agg:Bool) (size:Nat),
 aV (AO.rz x off agg size) tm s =
  match X.ev tm x with
  | D.agg cs=>
   match part cs off agg size with
   | some d=>some (d,s)
   | none=>none
  | x=>none:=
 fun tm s x off agg size=>nd (aV.eq_23 tm s x off agg size)
theorem Mp : ∀ (tm:Tm) (s:St) (x i:X) (size:Nat),
 aV (AO.bA x i size) tm s =
  match X.ev tm x,X.ev tm i with
  | D.slice g z rows,D.int k n=>
   if 0≤n∧z=size then
    match rows[n.toNat]? with
    | some row=>some (D.dU row 0,s)
    | none=>none
   else none
  | x,fD=>none:=
 fun tm s x i size=>nd (aV.eq_24 tm s x i size)
theorem Mq : ∀ (tm:Tm) (s:St) (x i:X),
 aV (AO.oK x i) tm s =
  match X.ev tm x,X.ev tm i with
  | D.str t,D.int k n=>
   if 0≤n then
    match t[n.toNat]? with
    | some c=>some (D.int IntKind.u8 ↑c.toNat,s)
    | none=>none
   else none
  | x,fD=>none:=
 fun tm s x i=>nd (aV.eq_25 tm s x i)
theorem Mr : ∀ (tm:Tm) (s:St) (x:X) (i:Nat),
 aV (AO.ext x i) tm s =
  match X.ev tm x with
  | D.tuple ds=>
   match ds[i]? with
   | some d=>some (d,s)
   | none=>none
  | x=>none:=
 fun tm s x i=>nd (aV.eq_26 tm s x i)
theorem Ms : ∀ (tm:Tm) (s:St) (x:X),
 aV (AO.lB x) tm s =
  match X.ev tm x with
  | D.str t=>some (D.int IntKind.i64 ↑t.length,s)
  | x=>none:=
 fun tm s x=>nd (aV.eq_27 tm s x)
theorem Mt : ∀ (tm:Tm) (s:St) (x:X),
 aV (AO.len x) tm s =
  match X.ev tm x with
  | D.slice g size rows=>some (D.int IntKind.i64 ↑rows.length,s)
  | x=>none:=
 fun tm s x=>nd (aV.eq_28 tm s x)
theorem Mu : ∀ (tm:Tm) (s:St) (size bytes:Nat) (x y:X),
 aV (AO.app size bytes x y) tm s=gy size bytes (X.ev tm x) (X.ev tm y) s:=
 fun tm s size bytes x y=>nd (aV.eq_29 tm s size bytes x y)
theorem Mv : ∀ (tm:Tm) (s:St) (isMax:Bool) (x y:X),
 aV (AO.mm isMax x y) tm s =
  match X.ev tm x,X.ev tm y with
  | D.int k a,D.int k' b=>
   if k=k' then some (D.int k (if isMax=true then if b > a then b else a else if b<a then b else a),s)
   else none
  | x,fD=>none:=
 fun tm s isMax x y=>nd (aV.eq_30 tm s isMax x y)
theorem Mw (tm:Tm) (s:St) (r:List D) (T:TypeId):aV (AO.sC (.fB::r) T) tm s=some (.ptr s.aG.length 0,{aG:=s.aG++ [.fT T s.aG.length::r],aH:=s.aH}):=nd rfl
theorem Mx (tm:Tm) (s:St) (x:X) (T:TypeId):aV (AO.zJ x T) tm s =
 match (x.ev tm).row with
 | some (.fB::r)=>some (.ptr s.aG.length 0,{aG:=s.aG++ [.fT T s.aG.length::r],aH:=s.aH})
 | _=>none:=nd rfl
theorem My (tm:Tm) (s:St) (x y:X):aV (AO.apps x y) tm s =
 match y.ev tm with
 | .str l=>zO (x.ev tm) (.slice .shared 1 (l.map fun c=> [.int .u8 c.toNat])) s
 | _=>none:=nd rfl
theorem Mz (tm:Tm) (s:St) (x y:X):aV (AO.zK x y) tm s=zO (x.ev tm) (y.ev tm) s:=nd rfl
theorem MA (tm:Tm) (s:St) (f:Nat) (xs:List X):aV (AO.tP f xs) tm s=some (.gP f (xs.map fun x=>x.ev tm),s):=nd rfl
theorem MB (tm:Tm) (s:St):aV AO.tQ tm s=some (.gM s.aG.length,{aG:=s.aG++ [[]],aH:=s.aH}):=nd rfl
theorem MC (tm:Tm) (s:St) (m k v:X):aV (AO.yf m k v) tm s =
 match m.ev tm,k.ev tm,v.ev tm with
 | .gM o, .str key, .slice g z rows=>
  match s.aG[o]? with
  | some cs=>match wI key (.slice g z rows) cs with | some jy=>some (.tuple [],{aG:=s.aG.set o jy,aH:=s.aH}) | none=>none
  | none=>none
 | _,_,_=>none:=nd rfl
theorem MD (tm:Tm) (s:St) (m k:X) (zero:D):aV (AO.vH m k zero) tm s =
 match m.ev tm,k.ev tm with
 | .gM o, .str key=>
  match s.aG[o]? with
  | some cs=>match yg key zero cs with | some d=>some (d,s) | none=>none
  | none=>none
 | _,_=>none:=nd rfl
theorem Ic (f:Nat) (xs:List X):(AO.tP f xs).core=false:=nd rfl
theorem Ie:AO.tQ.core=true:=nd rfl
theorem Ig (m k v:X):(AO.yf m k v).core=true:=nd rfl
theorem Ih (m k:X) (zero:D):(AO.vH m k zero).core=false:=nd rfl
theorem PG (n m f:Nat) (cs:List D):D.fg n m (.gP f cs) = .gP f (D.il n m cs):=nd (by simp only [D.fg])
theorem PH (n m:Nat) (o:Nat):D.fg n m (.gM o)=if o<n then .gM o else .junk:=nd (by simp only [D.fg])
theorem ME (d:Option Nat) (g:Option (Nat×Bool)) (t:Nat) (xs:List X):(AI.jg d g t xs).dst=d:=nd rfl
theorem Ii (x y:X):(AO.zK x y).core=true:=nd rfl
theorem Ij (z:List D) (T:TypeId):(AO.sC z T).core=true:=nd rfl
theorem Ik (x:X) (T:TypeId):(AO.zJ x T).core=true:=nd rfl
theorem Il (x y:X):(AO.apps x y).core=true:=nd rfl
theorem PI (n m:Nat) (v:Value):D.fg n m (.val v) = .val v:=nd (by simp only [D.fg])
theorem PJ (n m:Nat) (T:TypeId) (o:Nat):D.fg n m (.fT T o)=if o<n then .fT T o else .junk:=nd (by simp only [D.fg])
theorem Sr : ∀ (tm:Tm) (t:Nat),X.ev tm (X.s t)=tm.get t:=
 fun tm t=>nd (X.ev.eq_1 tm t)
theorem Ss : ∀ (tm:Tm) (d:D),X.ev tm (X.k d)=d:=
 fun tm d=>nd (X.ev.eq_2 tm d)
theorem MF : ∀ (tm:Tm) (d:D) (t:Nat),tm.put (some t) d=tm.set t d:=
 fun tm d t=>nd (Tm.put.eq_1 tm d t)
theorem MG : ∀ (tm:Tm) (d:D),tm.put none d=tm:=
 fun tm d=>nd (Tm.put.eq_2 tm d)
theorem MH : ∀ (x:Nat) (fD:D),Tm.set [] x fD = [(x,fD)]:=
 fun x fD=>nd (Tm.set.eq_1 x fD)
theorem MI : ∀ (x:Nat) (fD:D) (k:Nat) (e:D) (r:List (Nat×D)),
 Tm.set ((k,e)::r) x fD=if k=x then(k,fD)::r else(k,e)::Tm.set r x fD:=
 fun x fD k e r=>nd (Tm.set.eq_2 x fD k e r)
theorem MJ : ∀ (x:Nat),Tm.get [] x=D.junk:=
 fun x=>nd (Tm.get.eq_1 x)
theorem MK : ∀ (x k:Nat) (d:D) (r:List (Nat×D)),Tm.get ((k,d)::r) x=if k=x then d else Tm.get r x:=
 fun x k d r=>nd (Tm.get.eq_2 x k d r)
theorem PK : ∀ (x:Nat),ou x [] = []:=
 fun x=>nd (ou.eq_1 x)
theorem PN : ∀ (x:Nat) (d:D) (r:List D),ou x (d::r)=(x,d)::ou (x+1) r:=
 fun x d r=>nd (ou.eq_2 x d r)
theorem MM : ∀ (d:Option Nat) (g:Option (Nat×Bool)) (o:AO),(AI.op d g o).dst=d:=
 fun d g o=>nd (AI.dst.eq_1 d g o)
theorem MN : ∀ (d:Option Nat) (g:Option (Nat×Bool)) (f:Nat) (xs:List X),(AI.call d g f xs).dst=d:=
 fun d g f xs=>nd (AI.dst.eq_2 d g f xs)
theorem MO : ∀ (d:Option Nat) (g:Option (Nat×Bool)) (neg:Bool) (fD:X),(AI.nil d g neg fD).dst=d:=
 fun d g neg fD=>nd (AI.dst.eq_3 d g neg fD)
theorem Sv : ∀ (cs:List D) (off size:Nat),
 part cs off true size=if off+size≤cs.length then some (D.agg (List.take size (List.drop off cs)))else none:=
 fun cs off size=>nd (part.eq_1 cs off size)
theorem Sw : ∀ (cs:List D) (off size:Nat),part cs off false size=cs[off]? :=
 fun cs off size=>nd (part.eq_2 cs off size)
theorem MP : ∀ (cs:List D) (off:Nat) (r:List D),
 jJ cs off r=List.take off cs++r++List.drop (off+r.length) cs:=
 fun cs off r=>nd (jJ.eq_1 cs off r)
theorem PO : ∀ (cells:List D),qD cells [] = some cells:=
 fun cells=>nd (qD.eq_1 cells)
theorem PQ : ∀ (cells:List D) (off size:Nat) (d:D) (rest:List (Nat×Nat×D)),
 qD cells ((off,size,d)::rest) =
  match d.row with
  | none=>none
  | some r=>if r.length=size∧off+size≤cells.length then qD (jJ cells off r) rest else none:=
 fun cells off size d rest=>nd (qD.eq_2 cells off size d rest)
theorem Io : ∀ (size:Nat) (rows:List (List D)),jN size rows [] = some rows:=
 fun size rows=>nd (jN.eq_1 size rows)
theorem Ip : ∀ (size:Nat) (rows:List (List D)) (i:Nat) (d:D) (rest:List (Nat×D)),
 jN size rows ((i,d)::rest) =
  match d.row with
  | none=>none
  | some r=>if r.length=size∧i<rows.length then jN size (rows.set i r) rest else none:=
 fun size rows i d rest=>nd (jN.eq_2 size rows i d rest)
theorem Iq : ∀ (zero:List D),iR zero 0 = []:=
 fun zero=>nd (iR.eq_1 zero)
theorem Ir : ∀ (zero:List D) (i:Nat),iR zero i.succ=zero::iR zero i:=
 fun zero i=>nd (iR.eq_2 zero i)
theorem Sx : ∀ (op:BinOp) (k:IntKind) (a:Int) (k':IntKind) (b:Int),
 wH op (D.int k a) (D.int k' b)=if k=k' then gb op k a b else none:=
 fun op k a k' b=>nd (wH.eq_1 op k a k' b)
theorem Sy : ∀ (op:BinOp) (a b:List UInt8),wH op (D.str a) (D.str b)=nO op a b:=
 fun op a b=>nd (wH.eq_2 op a b)
theorem MQ : ∀ (k:IntKind) (a b:Int),gb BinOp.add k a b=some (D.int k (k.wrap (a+b))):=
 fun k a b=>nd (gb.eq_1 k a b)
theorem MR : ∀ (k:IntKind) (a b:Int),gb BinOp.sub k a b=some (D.int k (k.wrap (a - b))):=
 fun k a b=>nd (gb.eq_2 k a b)
theorem MS : ∀ (k:IntKind) (a b:Int),gb BinOp.mul k a b=some (D.int k (k.wrap (a*b))):=
 fun k a b=>nd (gb.eq_3 k a b)
theorem MT : ∀ (k:IntKind) (a b:Int),
 gb BinOp.quo k a b=if b=0 then none else some (D.int k (k.wrap (a.tdiv b))):=
 fun k a b=>nd (gb.eq_4 k a b)
theorem MU : ∀ (k:IntKind) (a b:Int),gb BinOp.rem k a b=if b=0 then none else some (D.int k (a.tmod b)):=
 fun k a b=>nd (gb.eq_5 k a b)
theorem MV : ∀ (k:IntKind) (a b:Int),gb BinOp.eql k a b=some (D.bool (a==b)):=
 fun k a b=>nd (gb.eq_6 k a b)
theorem MW : ∀ (k:IntKind) (a b:Int),gb BinOp.neq k a b=some (D.bool (a != b)):=
 fun k a b=>nd (gb.eq_7 k a b)
theorem MX : ∀ (k:IntKind) (a b:Int),gb BinOp.lss k a b=some (D.bool (decide (a<b))):=
 fun k a b=>nd (gb.eq_8 k a b)
theorem MY : ∀ (k:IntKind) (a b:Int),gb BinOp.leq k a b=some (D.bool (decide (a≤b))):=
 fun k a b=>nd (gb.eq_9 k a b)
theorem J1 : ∀ (k:IntKind) (a b:Int),gb BinOp.gtr k a b=some (D.bool (decide (a > b))):=
 fun k a b=>nd (gb.eq_10 k a b)
theorem J2 : ∀ (k:IntKind) (a b:Int),gb BinOp.geq k a b=some (D.bool (decide (a≥b))):=
 fun k a b=>nd (gb.eq_11 k a b)
theorem MZ : ∀ (a b:List UInt8),
 nO BinOp.add a b=if a.length+b.length≤bc then some (D.str (a++b))else none:=
 fun a b=>nd (nO.eq_1 a b)
theorem M3 : ∀ (a b:List UInt8),nO BinOp.eql a b=some (D.bool (a==b)):=
 fun a b=>nd (nO.eq_2 a b)
theorem M4 : ∀ (a b:List UInt8),nO BinOp.neq a b=some (D.bool !a==b):=
 fun a b=>nd (nO.eq_3 a b)
theorem M5 : ∀ (a b:List UInt8),nO BinOp.lss a b=some (D.bool (bytesLess a b)):=
 fun a b=>nd (nO.eq_4 a b)
theorem W7 : ∀ (k:IntKind) (n:Int),HF UnOp.neg (D.int k n)=some (D.int k (k.wrap (0 - n))):=
 fun k n=>nd (HF.eq_1 k n)
theorem W8 : ∀ (b:Bool),HF UnOp.not (D.bool b)=some (D.bool !b):=
 fun b=>nd (HF.eq_2 b)
theorem M6 : ∀ (k:IntKind) (a:Int) (k':IntKind) (b:Int),
 mK 0 (D.int k a) (D.int k' b)=if k=k' then some (a==b)else none:=
 fun k a k' b=>nd (mK.eq_1 k a k' b)
theorem M7 : ∀ (a b:Bool),mK 1 (D.bool a) (D.bool b)=some (a==b):=
 fun a b=>nd (mK.eq_2 a b)
theorem M8 : ∀ (a b:List UInt8),mK 2 (D.str a) (D.str b)=some (a==b):=
 fun a b=>nd (mK.eq_3 a b)
theorem J3:kX [] [] [] = some true:=
 nd (kX.eq_1)
theorem J4 : ∀ (k:Nat) (ks:List Nat) (Vu:D) (xs:List D) (y:D) (ys:List D),
 kX (k::ks) (Vu::xs) (y::ys) =
  match mK k Vu y with
  | none=>none
  | some true=>kX ks xs ys
  | some false=>some false:=
 fun k ks Vu xs y ys=>nd (kX.eq_2 k ks Vu xs y ys)
theorem W9:zM none=some 0:=
 nd (zM.eq_1)
theorem Xa : ∀ (k:IntKind) (n:Int),zM (some (D.int k n))=some n:=
 fun k n=>nd (zM.eq_2 k n)
theorem Xb : ∀ (len:Nat),zN none len=some ↑len:=
 fun len=>nd (zN.eq_1 len)
theorem Xc : ∀ (len:Nat) (k:IntKind) (n:Int),zN (some (D.int k n)) len=some n:=
 fun len k n=>nd (zN.eq_2 len k n)
theorem J5 : ∀ (zero:List D),(AO.alloc zero).core=true:=
 fun zero=>nd (AO.core.eq_1 zero)
theorem J6 : ∀ (fD:X),(AO.box fD).core=true:=
 fun fD=>nd (AO.core.eq_2 fD)
theorem J7 : ∀ (zero:List D) (size n:Nat) (parts:List (Nat×X)),(AO.uB zero size n parts).core=true:=
 fun zero size n parts=>nd (AO.core.eq_3 zero size n parts)
theorem J8 : ∀ (fD:X),(AO.zI fD).core=true:=
 fun fD=>nd (AO.core.eq_4 fD)
theorem J9 : ∀ (p fD:X) (size:Nat),(AO.store p fD size).core=true:=
 fun p fD size=>nd (AO.core.eq_5 p fD size)
theorem Ka : ∀ (size bytes:Nat) (fD y:X),(AO.app size bytes fD y).core=true:=
 fun size bytes fD y=>nd (AO.core.eq_6 size bytes fD y)
theorem Kb : ∀ (val:Nat) (zero:List D),(AI.op (some val) none (AO.alloc zero)).kind=AK.alloc:=
 fun val zero=>nd (AI.kind.eq_1 val zero)
theorem Kc : ∀ (zero:List D),(AO.alloc zero).kind=AK.core:=
 fun zero=>nd (AO.kind.eq_1 zero)
theorem Ke : ∀ (fD:X),(AO.box fD).kind=AK.core:=
 fun fD=>nd (AO.kind.eq_2 fD)
theorem Kf : ∀ (zero:List D) (size n:Nat) (parts:List (Nat×X)),(AO.uB zero size n parts).kind=AK.core:=
 fun zero size n parts=>nd (AO.kind.eq_3 zero size n parts)
theorem Kg : ∀ (fD:X),(AO.zI fD).kind=AK.core:=
 fun fD=>nd (AO.kind.eq_4 fD)
theorem Kh : ∀ (p fD:X) (size:Nat),(AO.store p fD size).kind=AK.core:=
 fun p fD size=>nd (AO.kind.eq_5 p fD size)
theorem Ki : ∀ (size bytes:Nat) (fD y:X),(AO.app size bytes fD y).kind=AK.core:=
 fun size bytes fD y=>nd (AO.kind.eq_6 size bytes fD y)
theorem Kj : ∀ (fD:X) (agg:Bool) (size:Nat),(AO.load fD agg size).kind=AK.load:=
 fun _ _ _=>nd rfl
theorem M9:gE AK.core=true:=
 nd (gE.eq_1)
theorem Na:gE AK.alloc=true:=
 nd (gE.eq_2)
theorem Nb : ∀ (i:AI) (tm:Tm) (d:D),nW i tm d [] = True:=
 fun i tm d=>nd (nW.eq_1 i tm d)
theorem Nc : ∀ (i:AI) (tm:Tm) (d:D) (s:St) (r:List St),
 nW i tm d (s::r)=(jL i tm s=some d∧nW i tm d r):=
 fun i tm d s r=>nd (nW.eq_2 i tm d s r)
theorem Xd : ∀ (tm:Tm) (s:St) (dst:Option Nat) (o:AO),
 jL (AI.op dst none o) tm s=Option.map (fun(x:D×St)=>x.fst) (aV o tm s):=
 fun tm s dst o=>nd (jL.eq_1 tm s dst o)
theorem Xe : ∀ (tm:Tm) (s:St) (dst:Option Nat) (t:Nat) (want:Bool) (o:AO),
 jL (AI.op dst (some (t,want)) o) tm s =
  match tm.get t with
  | D.bool b=>if b=want then Option.map (fun(x:D×St)=>x.fst) (aV o tm s)else some (D.tuple [])
  | D.tuple vs=>some (D.tuple [])
  | x=>none:=
 fun tm s dst t want o=>nd (jL.eq_2 tm s dst t want o)
theorem Kk : ∀ (is:List AI),mN is [] = some []:=
 fun is=>nd (mN.eq_1 is)
theorem Kl : ∀ (is:List AI) (q b:Nat) (r:List (Nat×Nat)),
 mN is ((q,b)::r) =
  match is[q]?,mN is r with
  | some ai,some l=>some ((ai,b)::l)
  | x,fD=>none:=
 fun is q b r=>nd (mN.eq_2 is q b r)
theorem Xf : ∀ (tm:Tm) (n m:Nat),tJ tm n m [] = True:=
 fun tm n m=>nd (tJ.eq_1 tm n m)
theorem Xg : ∀ (tm:Tm) (n m k:Nat) (d:D) (r:List (Nat×D)),
 tJ tm n m ((k,d)::r)=(Wk (D.fg n m (tm.get k)) d∧tJ tm n m r):=
 fun tm n m k d r=>nd (tJ.eq_2 tm n m k d r)
theorem Sz : ∀ (n m o off:Nat),D.fg n m (D.ptr o off)=if o<n then D.ptr o off else D.junk:=
 fun n m o off=>nd (D.fg.eq_1 n m o off)
theorem SA : ∀ (n m:Nat) (row:List D) (off:Nat),D.fg n m (D.dU row off)=D.dU (D.il n m row) off:=
 fun n m row off=>nd (D.fg.eq_2 n m row off)
theorem SB : ∀ (n m:Nat) (g:Tag) (z:Nat) (rows:List (List D)),
 D.fg n m (D.slice g z rows)=D.slice (Tag.fg m g) z (D.kr n m rows):=
 fun n m g z rows=>nd (D.fg.eq_3 n m g z rows)
theorem SC : ∀ (n m:Nat) (cs:List D),D.fg n m (D.agg cs)=D.agg (D.il n m cs):=
 fun n m cs=>nd (D.fg.eq_4 n m cs)
theorem SD : ∀ (n m:Nat) (ds:List D),D.fg n m (D.tuple ds)=D.tuple (D.il n m ds):=
 fun n m ds=>nd (D.fg.eq_5 n m ds)
theorem SE : ∀ (n m:Nat),D.fg n m D.junk=D.junk:=
 fun n m=>nd (D.fg.eq_6 n m)
theorem SF : ∀ (n m:Nat) (k:IntKind) (fD:Int),D.fg n m (D.int k fD)=D.int k fD:=
 fun n m k fD=>nd (D.fg.eq_7 n m k fD)
theorem SG : ∀ (n m:Nat) (b:Bool),D.fg n m (D.bool b)=D.bool b:=
 fun n m b=>nd (D.fg.eq_8 n m b)
theorem SH : ∀ (n m:Nat) (l:List UInt8),D.fg n m (D.str l)=D.str l:=
 fun n m l=>nd (D.fg.eq_9 n m l)
theorem PR : ∀ (n m:Nat),D.fg n m D.fB=D.fB:=
 fun n m=>nd (D.fg.eq_10 n m)
theorem PS : ∀ (n m:Nat),D.il n m [] = []:=
 fun n m=>nd (D.il.eq_1 n m)
theorem PT : ∀ (n m:Nat) (d:D) (r:List D),D.il n m (d::r)=D.fg n m d::D.il n m r:=
 fun n m d r=>nd (D.il.eq_2 n m d r)
theorem PU : ∀ (n m:Nat),D.kr n m [] = []:=
 fun n m=>nd (D.kr.eq_1 n m)
theorem PV : ∀ (n m:Nat) (d:List D) (r:List (List D)),D.kr n m (d::r)=D.il n m d::D.kr n m r:=
 fun n m d r=>nd (D.kr.eq_2 n m d r)
theorem Nd : ∀ (m t:Nat) (y:Bool),Tag.fg m (Tag.tok t y)=if t<m then Tag.tok t y else Tag.shared:=
 fun _ _ _=>nd rfl
theorem Nf : ∀ (s:St) (n m:Nat),
 s.cut n m = {aG:=List.map (D.il n m) (List.take n s.aG),aH:=List.take m s.aH}:=
 fun s n m=>nd (St.cut.eq_1 s n m)
theorem SI : ∀ (d:D),aw [d] = d:=
 fun d=>nd (aw.eq_1 d)
theorem SJ (size bytes t:Nat) (rows:List (List D)) (g:Tag) (r:List D) (s:St):gy size bytes (.slice (.tok t) size rows) (.slice g size [r]) s =
 if(rows.length+1)*(bytes+1)≤bc∧s.aH[t]? = some (some rows.length)then some (.slice (.tok t) size (rows++ [r]),⟨s.aG,s.aH.set t (some (rows.length+1))⟩)else none:=by
 simp only [gy,List.length_singleton]
 by_cases h1:(rows.length+1)*(bytes+1)≤bc <;> by_cases h2:s.aH[t]? = some (some rows.length) <;> simp [h1,h2]
theorem Cj {size bytes t:Nat} {rows new:List (List D)} {g:Tag} {s:St} (h1:(rows.length+new.length)*(bytes+1)≤bc) (h2:s.aH[t]? = some (some rows.length)) :
 gy size bytes (.slice (.tok t) size rows) (.slice g size new) s=some (.slice (.tok t) size (rows++new),⟨s.aG,s.aH.set t (some (rows.length+new.length))⟩):=by
 cases new with
 | nil=>
  have:s.aH.set t (some rows.length)=s.aH:=by
   apply List.ext_getElem?
   intro i
   rw [List.getElem?_set]
   split
   ·rename_i hi;subst hi;rw [h2,if_pos (List.getElem?_eq_some_iff.1 h2).1]
   ·rfl
  simp only [List.length_nil,Nat.add_zero]at h1
  simp [gy,h1,this]
 | cons x l=>
  simp only [gy,h1,h2]
  simp
theorem PW (size bytes z:Nat) (g:Tag) (r:List D) (s:St):gy size bytes (.slice .full z []) (.slice g size [r]) s =
 if bytes+1≤bc then some (.slice (.tok s.aH.length) size [r],⟨s.aG,s.aH++ [some 1]⟩)else none:=by
 simp [gy]
theorem Xh {P:Program} {B:fI} {nt:Nat} (ac:AC) (Q:Exit→Tm→St→Prop) (tm:Tm) (s:St):jY P B nt ac Q .normal tm s=Q .normal tm s:=nd rfl
theorem Xi {P:Program} {B:fI} {nt:Nat} (ac:AC) (Q:Exit→Tm→St→Prop) (tm:Tm) (s:St):jY P B nt ac Q .ret tm s=Q .ret tm s:=nd rfl
theorem Xj {P:Program} {B:fI} {nt:Nat} (ac:AC) (Q:Exit→Tm→St→Prop) (tm:Tm) (s:St) (i:Nat):jY P B nt ac Q (.exit i) tm s=Q (.exit i) tm s:=nd rfl
theorem Xk (m:Nat):Tag.fg m .full = .full:=nd rfl
theorem PX (m:Nat):Tag.fg m .shared = .shared:=nd rfl
theorem acO {P:Program} (K:Tm→St→Prop) (tm:Tm) (s:St):kf P [] K tm s=K tm s:=nd rfl
theorem s_op {P:Program} (dst:Option Nat) (o:AO) (r:List AI) (K:Tm→St→Prop) (tm:Tm) (s:St) :
 kf P (.op dst none o::r) K tm s=(match aV o tm s with | some (d,s')=>kf P r K (tm.put dst d) s' | none=>False):=nd rfl
def KJ (P:Program) (r:List AI) (K:Tm→St→Prop) (tm:Tm) (dst:Option Nat) (d:D) (s:St):Prop:=kf P r K (tm.put dst d) s
theorem afY {P:Program} (r:List AI) (K:Tm→St→Prop) (tm:Tm) (dst:Option Nat) (d:D) (s:St):KJ P r K tm dst d s=kf P r K (tm.put dst d) s:=nd rfl
theorem s_call {P:Program} (dst:Option Nat) (f:Nat) (xs:List X) (r:List AI) (K:Tm→St→Prop) (tm:Tm) (s:St) :
 kf P (.call dst none f xs::r) K tm s=CL P f (xs.map (·.ev tm)) s (KJ P r K tm dst):=nd rfl
def NJ (P:Program) (dst:Option Nat) (neg:Bool) (x:D) (r:List AI) (K:Tm→St→Prop) (tm:Tm) (s:St):Prop:=
 match x with
 | .slice _ _ rows=>∀ b:Bool,(rows≠ []→b=false)→kf P r K (tm.put dst (.bool (if neg then !b else b))) s
 | _=>False
theorem Ze {P:Program} (dst:Option Nat) (neg:Bool) (x:X) (r:List AI) (K:Tm→St→Prop) (tm:Tm) (s:St) :
 kf P (.nil dst none neg x::r) K tm s=NJ P dst neg (x.ev tm) r K tm s:=nd rfl
theorem Xl {P:Program} (dst:Option Nat) (neg:Bool) (g:Tag) (z:Nat) (d:List D) (l:List (List D)) (r:List AI) (K:Tm→St→Prop) (tm:Tm) (s:St) :
 NJ P dst neg (.slice g z (d::l)) r K tm s=kf P r K (tm.put dst (.bool neg)) s:=by
 simp only [NJ,ne_eq,reduceCtorEq,not_false_eq_true,true_imp_iff,eq_iff_iff]
 refine⟨fun h=>by have:=h false rfl;cases neg <;> exact this,fun h b hb=> ?_⟩
 subst hb;cases neg <;> exact h
theorem Is {P:Program} {dst:Option Nat} {neg:Bool} {g:Tag} {z:Nat} {l:List (List D)} {r:List AI} {K:Tm→St→Prop} {tm:Tm} {s:St}
 (h1:l = []→kf P r K (tm.put dst (.bool (!neg))) s) (h2:kf P r K (tm.put dst (.bool neg)) s):NJ P dst neg (.slice g z l) r K tm s:=by
 intro b hb
 cases b with
 | false=>cases neg <;> exact h2
 | true=>
  have:l = []:=Decidable.byContradiction fun h=>by cases hb h
  cases neg <;> exact h1 this
theorem acQ {P:Program} (dst:Option Nat) (t:Nat) (w:Bool) (o:AO) (r:List AI) (K:Tm→St→Prop) (tm:Tm) (s:St) :
 kf P (.op dst (some (t,w)) o::r) K tm s = @GB (tm.get t) w ⟨(kf P (.op dst none o::r) K tm s),(kf P r K (tm.put dst (.tuple [])) s)⟩:=nd rfl
def CV (P:Program) (x:D) (acR:List D) (s:St) (K:D→St→Prop):Prop:=
 match x with
 | .gP f nu=>enters P f=true∧CL P f (acR++nu) s K
 | _=>False
theorem Xm {P:Program} (dst:Option Nat) (t:Nat) (xs:List X) (r:List AI) (K:Tm→St→Prop) (tm:Tm) (s:St) :
 kf P (.jg dst none t xs::r) K tm s=CV P (tm.get t) (xs.map (·.ev tm)) s (KJ P r K tm dst):=nd rfl
theorem CV.use {P:Program} {f:Nat} {nu acR:List D} {s s':St} {d:D} {K:D→St→Prop} (he:enters P f=true) (h:aE P f (acR++nu) s d s') (k:K d s'):CV P (.gP f nu) acR s K:=⟨he,d,s',h,k⟩
theorem SK {P:Program} (dst:Option Nat) (t:Nat) (w:Bool) (u:Nat) (xs:List X) (r:List AI) (K:Tm→St→Prop) (tm:Tm) (s:St) :
 kf P (.jg dst (some (t,w)) u xs::r) K tm s = @GB (tm.get t) w ⟨(kf P (.jg dst none u xs::r) K tm s),(kf P r K (tm.put dst (.tuple [])) s)⟩:=nd rfl
theorem Xn {P:Program} (dst:Option Nat) (t:Nat) (w:Bool) (f:Nat) (xs:List X) (r:List AI) (K:Tm→St→Prop) (tm:Tm) (s:St) :
 kf P (.call dst (some (t,w)) f xs::r) K tm s = @GB (tm.get t) w ⟨(kf P (.call dst none f xs::r) K tm s),(kf P r K (tm.put dst (.tuple [])) s)⟩:=nd rfl
theorem Zg {P:Program} (dst:Option Nat) (t:Nat) (w:Bool) (neg:Bool) (x:X) (r:List AI) (K:Tm→St→Prop) (tm:Tm) (s:St) :
 kf P (.nil dst (some (t,w)) neg x::r) K tm s = @GB (tm.get t) w ⟨(kf P (.nil dst none neg x::r) K tm s),(kf P r K (tm.put dst (.tuple [])) s)⟩:=nd rfl
theorem afZ (b:Bool) (A C:Prop) : @GB (.bool b) true ⟨A,C⟩ = @CB (.bool b) ⟨A,C⟩:=nd rfl
theorem af0 (b:Bool) (A C:Prop) : @GB (.bool b) false ⟨A,C⟩ = @CB (.bool b) ⟨C,A⟩:=by
 cases b <;> simp [GB,CB,GJ,tY]
theorem af1 (l:List D) (w:Bool) (A C:Prop) : @GB (.tuple l) w ⟨A,C⟩=C:=nd rfl
theorem acS {P:Program} {K:Tm→St→Prop} (bQ:List St) (tm:Tm) (s:St):gf P K [] bQ tm s=K tm s:=nd rfl
def OJ (P:Program) (o:AO) (dst:Option Nat) (b:Nat) (r:List (AI×Nat)) (K:Tm→St→Prop) (bQ:List St) (tm:Tm) (s:St):Bool→Prop
 | true=>match aV o tm s with | some (d,s')=>gf P K r (s::bQ) (tm.put dst d) s' | none=>False
 | false=>match aV o tm s with | some (d,_)=>nW (.op dst none o) tm d (bQ.take b)∧gf P K r bQ (tm.put dst d) s | none=>False
theorem af3 {P:Program} {K:Tm→St→Prop} (dst:Option Nat) (o:AO) (b:Nat) (r:List (AI×Nat)) (bQ:List St) (tm:Tm) (s:St) :
 gf P K ((.op dst none o,b)::r) bQ tm s=OJ P o dst b r K bQ tm s o.core:=by
 simp only [gf,mO]
 cases o.core <;> rfl
theorem af4 {P:Program} (o:AO) (dst:Option Nat) (b:Nat) (r:List (AI×Nat)) (K:Tm→St→Prop) (bQ:List St) (tm:Tm) (s:St) :
 OJ P o dst b r K bQ tm s true=match aV o tm s with | some (d,s')=>gf P K r (s::bQ) (tm.put dst d) s' | none=>False:=nd rfl
theorem af5 {P:Program} (o:AO) (dst:Option Nat) (b:Nat) (r:List (AI×Nat)) (K:Tm→St→Prop) (bQ:List St) (tm:Tm) (s:St) :
 OJ P o dst b r K bQ tm s false=match aV o tm s with | some (d,_)=>nW (.op dst none o) tm d (bQ.take b)∧gf P K r bQ (tm.put dst d) s | none=>False:=nd rfl
theorem acT {P:Program} {K:Tm→St→Prop} (dst:Option Nat) (t:Nat) (w:Bool) (o:AO) (b:Nat) (r:List (AI×Nat)) (bQ:List St) (tm:Tm) (s:St) :
 gf P K ((.op dst (some (t,w)) o,b)::r) bQ tm s = @GB (tm.get t) w ⟨(gf P K ((.op dst none o,b)::r) bQ tm s),(gf P K r (if o.core then s::bQ else bQ) (tm.put dst (.tuple [])) s)⟩:=by
 simp only [GB,gf,mO]
 cases o.core <;> rfl
def KG (P:Program) (K:Tm→St→Prop) (r:List (AI×Nat)) (bQ:List St) (tm:Tm) (dst:Option Nat) (d:D) (s:St):Prop:=gf P K r bQ (tm.put dst d) s
theorem af6 {P:Program} (K:Tm→St→Prop) (r:List (AI×Nat)) (bQ:List St) (tm:Tm) (dst:Option Nat) (d:D) (s:St):KG P K r bQ tm dst d s=gf P K r bQ (tm.put dst d) s:=nd rfl
theorem g_call {P:Program} {K:Tm→St→Prop} (dst:Option Nat) (f:Nat) (xs:List X) (b:Nat) (r:List (AI×Nat)) (bQ:List St) (tm:Tm) (s:St) :
 gf P K ((.call dst none f xs,b)::r) bQ tm s=CL P f (xs.map (·.ev tm)) s (KG P K r (s::bQ) tm dst):=nd rfl
theorem Xo {P:Program} {K:Tm→St→Prop} (dst:Option Nat) (t:Nat) (w:Bool) (f:Nat) (xs:List X) (b:Nat) (r:List (AI×Nat)) (bQ:List St) (tm:Tm) (s:St) :
 gf P K ((.call dst (some (t,w)) f xs,b)::r) bQ tm s = @GB (tm.get t) w ⟨(gf P K ((.call dst none f xs,b)::r) bQ tm s),(gf P K r (s::bQ) (tm.put dst (.tuple [])) s)⟩:=nd rfl
class Ok (p:Prop):Prop where
 out:p
instance:Ok True:=⟨trivial⟩
instance {p q:Prop} [Ok p] [Ok q] : Ok (p∧q):=⟨⟨Ok.out,Ok.out⟩⟩
instance {α:Type} (a:α):Ok (a=a):=⟨rfl⟩
instance (d:D):Ok (Wk d .junk):=⟨Wk.junk d⟩
instance {l l':List D} [Ok (mM l l')] : Ok (Wk (.tuple l) (.tuple l')):=⟨Wk.tuple Ok.out⟩
instance {l l':List D} [Ok (mM l l')] : Ok (Wk (.agg l) (.agg l')):=⟨Wk.agg Ok.out⟩
instance {g:Tag} {z:Nat} {l l':List (List D)} [Ok (iF l l')] : Ok (Wk (.slice g z l) (.slice g z l')):=⟨Wk.rows Ok.out⟩
instance {g:Tag} {z:Nat} {l l':List (List D)} [Ok (iF l l')] : Ok (Wk (.slice g z l) (.slice .shared z l')):=⟨Wk.slice Ok.out⟩
instance (z z':Nat):Ok (Wk (.slice .full z []) (.slice .full z' [])):=⟨Wk.afQ z z'⟩
instance (g:Tag) (z z':Nat):Ok (Wk (.slice g z []) (.slice .shared z' [])):=⟨Wk.nil g z z'⟩
instance (d:D):Ok (Wk d d):=⟨Wk.refl d⟩
instance:Ok (mM [] []):=⟨.nil⟩
instance {d d':D} {l l':List D} [Ok (Wk d d')] [Ok (mM l l')] : Ok (mM (d::l) (d'::l')):=⟨.cons Ok.out Ok.out⟩
instance (l:List D):Ok (mM l l):=⟨mM.refl l⟩
instance:Ok (iF [] []):=⟨.nil⟩
instance {d d':List D} {l l':List (List D)} [Ok (mM d d')] [Ok (iF l l')] : Ok (iF (d::l) (d'::l')):=⟨.cons Ok.out Ok.out⟩
instance {a a' b b':List (List D)} [Ok (iF a a')] [Ok (iF b b')] : Ok (iF (a++b) (a'++b')):=⟨iF.append Ok.out Ok.out⟩
instance (l:List (List D)):Ok (iF l l):=⟨iF.refl l⟩
theorem bs:(∀ b,(true || b)=true)∧(∀ b,(false || b)=b)∧(∀ b,(b || true)=true)∧(∀ b,(b || false)=b)∧(∀ b,(true && b)=b)∧(∀ b,(false && b)=false)∧(∀ b,(b && true)=b)∧(∀ b,(b && false)=false)∧
 (!true)=false∧(!false)=true∧(∀ b,(!!b)=b)∧((false=true)=False)∧(∀ (α β:Type) (a:α) (f:α→Option β),(some a).bind f=f a)∧
 (∀ (α β γ:Type) (x:Option α) (f:α→Option β) (g:β→Option γ),(x.bind f).bind g=x.bind fun y=>(f y).bind g):=
 ⟨Bool.true_or,Bool.false_or,Bool.or_true,Bool.or_false,Bool.true_and,Bool.false_and,Bool.and_true,Bool.and_false,rfl,rfl,Bool.not_not,by simp,fun _ _ _ _=>rfl,fun _ _ _ x f g=>Option.bind_assoc x f g⟩
attribute [go_sem] Zb afV afW acO s_op afY s_call Ze Xl acQ Xn Zg afZ af0 af1 acS af3 af4 af5 acT af6 g_call Xo AO.core AI.kind AO.kind gE
attribute [go_sem] Xm SK MA MB MC MD Ic Ie Ig Ih PG PH ME WX Sb
attribute [go_sem] Mz Ii Mw Mx My Ij Ik Il PI PJ WW Pq WS R7 WT R8 WU R9 Pp WV Sc L6 Sd
attribute [go_sem] Px Py Pz PA PB PC PD PE PF Ma Mb Mc Md Me Mf Mg Mh Mi Mj Mk Ml Mm Mn Mp Mq Mr Ms Mt Mu Mv Sr Ss MF MG MH MI MJ MK PK PN MM MN MO Sv Sw MP PO PQ Io Ip Iq Ir Sx Sy MQ MR MS MT MU MV MW MX MY J1 J2 MZ M3 M4 M5 W7 W8 M6 M7 M8 J3 J4 W9 Xa Xb Xc J5 J6 J7 J8 J9 Ka Kb Kc Ke Kf Kg Kh Ki Kj M9 Na Nb Nc Xd Xe Kk Kl Xf Xg Sz SA SB SC SD SE SF SG SH PR PS PT PU PV Nd Nf SI SJ PW Xk PX Xh Xi Xj
attribute [go_sem] List.map_cons List.map_nil List.getElem?_cons_zero List.getElem?_cons_succ List.length_cons List.length_nil List.set_cons_zero List.set_cons_succ List.take_succ_cons List.take_zero List.take_nil List.drop_succ_cons List.drop_zero List.drop_nil List.cons_append List.nil_append List.append_nil Nat.zero_add Nat.add_zero Option.map_some Option.map_none
attribute [go_sem] Bool.not_false Bool.not_true List.length_map List.getElem?_map Int.toNat_natCast Int.natCast_nonneg Int.toNat_zero and_self and_true true_and
attribute [go_sem_proc ↓] reduceIte
attribute [go_sem_proc] Int.reduceLE reduceCtorEq Nat.reduceEqDiff Nat.reduceLeDiff Nat.reduceAdd Nat.reduceMul Nat.reduceSub Nat.reduceLT
theorem bK {b:Bool} {A C:Prop} (h1:b=true→A) (h:b=true:=by assumption) : @CB (.bool b) ⟨A,C⟩:=Zc h h1
theorem bL {b:Bool} {A C:Prop} (h1:b=false→C) (h:b=false:=by assumption) : @CB (.bool b) ⟨A,C⟩:=Zd h h1
theorem bM {b:Bool} {A C:Prop} (h1:b=true→A) (h2:b=false→C) : @CB (.bool b) ⟨A,C⟩:=⟨h1,h2⟩
theorem aB {a b:Prop} (x:a) (y:b):a∧b:=⟨x,y⟩
theorem bu {α:Type _} (a b:α):(some a=some b)=(a=b):=Option.some.injEq a b
theorem bw {α:Sort _} {p:α→Prop} {a:α} : (∃ x,a=x∧p x)↔p a:=exists_eq_left'
theorem mr {n m:Nat} (h:Nat.ble n m=true):n≤m:=Nat.le_of_ble_eq_true h
theorem aC {n m:Nat} {res:List (Nat×Option (Bool×Nat))} {d:D} {s':St} {e:Exit} {tm:Tm} {s:St} {Q:Exit→Tm→St→Prop} (hQ:iS n m res d s'=Q) (h : ∃ l,au res tm s=some l∧Wk ((aw l).fg n m) d∧iF (s.cut n m).aG s'.aG∧(s.cut n m).aH=s'.aH) (he:e = .ret∨e = .normal:=by first | exact .inl rfl | exact .inr rfl):Q e tm s:=by cases he with | inl x=>cases x;exact acM hQ h | inr x=>cases x;exact acN hQ h
theorem Ai {p:Prop} (h:p:=by repeat' (first | exact Ok.out | with_reducible refine aB ?_ ?_ | (simp;done))):p:=h
theorem aU {p:Prop} (h:p:=by repeat' (first | exact Ok.out | with_reducible refine aB ?_ ?_)):p:=h
theorem nX {p:Prop} (h:p:=by(try cases h);simp only [au,aw,bu,bw,go_sem,hF,hP,hY,hZ];repeat' (first | exact Ok.out | with_reducible refine aB ?_ ?_ | (simp;done))):p:=h
theorem lX_ {p:Prop} (h:p:=by simp only [go_sem,hF,hP,hY,hZ];repeat' (first | exact Ok.out | with_reducible refine aB ?_ ?_)):p:=h
theorem cd {P:Program} {B:fI} {nt:Nat} {a:AC} {Q:Exit→Tm→St→Prop} {tm b7:Tm} {s:St} {kI:List (List D)} (n m:Nat) (h:a8 P B nt a Q b7 ⟨kI,(s.cut n m).aH⟩) (hn:B.s.aG.length≤n:=by rw [hB];exact mr rfl) (hm:B.s.aH.length≤m:=by rw [hB];exact mr rfl) (ht:tJ tm n m b7:=by exact lX_) (ho:iF (s.cut n m).aG kI:=by exact lX_):a8 P B nt a Q tm s:=a8.re b7 kI n m hn hm ht ho h
theorem ct {P:Program} {B:fI} {nt:Nat} {a:AC} {Q:Exit→Tm→St→Prop} {tm b7:Tm} {s:St} {kI:List (List D)} (n m:Nat) (ht:tJ tm n m b7) (ho:iF (s.cut n m).aG kI) (h:a8 P B nt a Q b7 ⟨kI,(s.cut n m).aH⟩) (hn:B.s.aG.length≤n:=by rw [hB];exact mr rfl) (hm:B.s.aH.length≤m:=by rw [hB];exact mr rfl):a8 P B nt a Q tm s:=a8.re b7 kI n m hn hm ht ho h
theorem bq:0<1∧0<1∧0<1∧0<1:=⟨Nat.zero_lt_one,Nat.zero_lt_one,Nat.zero_lt_one,Nat.zero_lt_one⟩
end Go.Abs

/-! Types -/

namespace Go.Abs
mutual
theorem Ng (n m:Nat) : ∀ d,D.ok 0 0 d=true→D.fg n m d=d
 | .junk,_=>by simp [D.fg]
 | .int k n,_=>by simp [D.fg]
 | .bool b,_=>by simp [D.fg]
 | .str l,_=>by simp [D.fg]
 | .fB,_=>by simp [D.fg]
 | .val v,_=>by simp [D.fg]
 | .fT T o,h=>by simp [D.ok]at h
 | .gM o,h=>by simp [D.ok]at h
 | .gP f cs,h=>by
  simp only [D.ok]at h
  simp only [D.fg,iG n m cs h]
 | .ptr o f,h=>by simp [D.ok]at h
 | .dU r f,h=>by
  simp only [D.ok]at h
  simp only [D.fg,iG n m r h]
 | .slice g z rows,h=>by
  simp only [D.ok,Bool.and_eq_true]at h
  simp only [D.fg,C9 n m rows h.2]
  cases g with
  | tok t y=>simp [Tag.ok]at h
  | full=>rfl
  | shared=>rfl
 | .agg cs,h=>by
  simp only [D.ok]at h
  simp only [D.fg,iG n m cs h]
 | .tuple cs,h=>by
  simp only [D.ok]at h
  simp only [D.fg,iG n m cs h]
theorem iG (n m:Nat) : ∀ l,D.bR 0 0 l=true→D.il n m l=l
 | [],_=>by simp [D.il]
 | d::r,h=>by
  simp only [D.bR,Bool.and_eq_true]at h
  simp only [D.il,Ng n m d h.1,iG n m r h.2]
theorem C9 (n m:Nat) : ∀ l,D.ji 0 0 l=true→D.kr n m l=l
 | [],_=>by simp [D.kr]
 | d::r,h=>by
  simp only [D.ji,Bool.and_eq_true]at h
  simp only [D.kr,iG n m d h.1,C9 n m r h.2]
end
theorem gQ {α:Type} {f:α→List D} (h : ∀ x,D.bR 0 0 (f x)=true) (l:List α):D.ji 0 0 (l.map f)=true:=by
 simp [C4,h]
theorem mP {α:Type} {f:α→List D} (h : ∀ x,D.bR 0 0 (f x)=true) (n m:Nat) (l:List α):D.kr n m (l.map f)=l.map f:=C9 n m _ (gQ h l)
theorem KV (n m:Nat) : ∀ a b,D.kr n m (a++b)=D.kr n m a++D.kr n m b
 | [],b=>by simp [D.kr]
 | x::a,b=>by simp [D.kr,KV n m a b]
abbrev aF:=List UInt8
structure cj where
 kind:Int
 text:aF
 n:Int
 pos:Int
deriving DecidableEq
structure Ex where
 op:Int
 n:Int
 name:aF
 kids:List Ex
structure Ar where
 ref:Bool
 name:aF
 x:Ex
structure Sm where
 id:Int
 kind:Int
 labels:List aF
 name:aF
 proc:aF
 x:Ex
 has:Bool
 args:List Ar
 aZ:List Sm
 aP:List Sm
structure Pm where
 name:aF
 ref:Bool
structure Pc where
 name:aF
 params:List Pm
 vars:List aF
 body:List Sm
 fin:List aF
structure Pg where
 globals:List aF
 procs:List Pc
def mw:Ex:=⟨0,0,[],[]⟩
def ar0:Ar:=⟨false,[],mw⟩
def Iu:Sm:=⟨0,0,[],[],[],mw,false,[],[],[]⟩
def Da:Pg:=⟨[],[]⟩
def encStr (s:aF):List D:= [.str s]
def eD (t:cj):List D:= [.int .i64 t.kind, .str t.text, .int .i64 t.n, .int .i64 t.pos]
def sl (z:Nat) (rows:List (List D)):D:= .slice .shared z rows
mutual
def bE:Ex→List D
 | ⟨op,n,name,kids⟩=> [.int .i64 op, .int .i64 n, .str name, .slice .shared 4 (uQ kids)]
def uQ:List Ex→List (List D)
 | []=> []
 | x::l=>bE x::uQ l
end
theorem FJ : ∀ l,uQ l=l.map bE
 | []=>by simp [uQ]
 | x::l=>by simp [uQ,FJ l]
theorem gV (x:Ex):bE x = [.int .i64 x.op, .int .i64 x.n, .str x.name, .slice .shared 4 (x.kids.map bE)]:=by
 cases x;simp [bE,FJ]
def dT (a:Ar):List D:= [.bool a.ref, .str a.name, .int .i64 a.x.op, .int .i64 a.x.n, .str a.x.name, .slice .shared 4 (a.x.kids.map bE)]
mutual
def bd:Sm→List D
 | ⟨id,kind,labels,name,proc,x,has,args,aZ,aP⟩=> [.int .i64 id, .int .i64 kind, .slice .shared 1 (labels.map encStr), .str name, .str proc,
  .int .i64 x.op, .int .i64 x.n, .str x.name, .slice .shared 4 (x.kids.map bE), .bool has, .slice .shared 6 (args.map dT), .slice .shared 13 (sQ aZ), .slice .shared 13 (sQ aP)]
def sQ:List Sm→List (List D)
 | []=> []
 | x::l=>bd x::sQ l
end
theorem FK : ∀ l,sQ l=l.map bd
 | []=>by simp [sQ]
 | x::l=>by simp [sQ,FK l]
theorem dm (s:Sm):bd s = [.int .i64 s.id, .int .i64 s.kind, .slice .shared 1 (s.labels.map encStr), .str s.name, .str s.proc,
 .int .i64 s.x.op, .int .i64 s.x.n, .str s.x.name, .slice .shared 4 (s.x.kids.map bE), .bool s.has, .slice .shared 6 (s.args.map dT), .slice .shared 13 (s.aZ.map bd), .slice .shared 13 (s.aP.map bd)]:=by
 cases s;simp [bd,FK]
def fQ (p:Pm):List D:= [.str p.name, .bool p.ref]
def cb (p:Pc):List D:= [.str p.name, .slice .shared 2 (p.params.map fQ), .slice .shared 1 (p.vars.map encStr), .slice .shared 13 (p.body.map bd), .slice .shared 1 (p.fin.map encStr)]
def bH (p:Pg):List D:= [.slice .shared 1 (p.globals.map encStr), .slice .shared 5 (p.procs.map cb)]
theorem Zh (x:cj):(eD x).length=4:=nd rfl
theorem Xp (x:cj):List.take 4 (eD x)=eD x:=nd rfl
theorem Xq (x:cj):List.drop 4 (eD x) = []:=nd rfl
theorem PY (x:cj):(eD x)[0]? = some (.int .i64 x.kind):=nd rfl
theorem PZ (x:cj):(eD x)[1]? = some (.str x.text):=nd rfl
theorem P0 (x:cj):(eD x)[2]? = some (.int .i64 x.n):=nd rfl
theorem P2 (x:cj):(eD x)[3]? = some (.int .i64 x.pos):=nd rfl
theorem acU (Db:Int) (Vv:aF) (n_:Int) (Zj:Int):eD ⟨Db,Vv,n_,Zj⟩ = [.int .i64 Db, .str Vv, .int .i64 n_, .int .i64 Zj]:=by simp only [eD]
theorem Vw (x:Ex):(bE x).length=4:=by simp only [gV];rfl
theorem Zk (x:Ex):List.take 4 (bE x)=bE x:=by simp only [gV];rfl
theorem Zl (x:Ex):List.drop 4 (bE x) = []:=by simp only [gV];rfl
theorem SL (x:Ex):(bE x)[0]? = some (.int .i64 x.op):=by simp only [gV];rfl
theorem SM (x:Ex):(bE x)[1]? = some (.int .i64 x.n):=by simp only [gV];rfl
theorem SN (x:Ex):(bE x)[2]? = some (.str x.name):=by simp only [gV];rfl
theorem SO (x:Ex):(bE x)[3]? = some (.slice .shared 4 (x.kids.map bE)):=by simp only [gV];rfl
theorem af7 (op_:Int) (n_:Int) (ow:aF) (Vx:List Ex):bE ⟨op_,n_,ow,Vx⟩ = [.int .i64 op_, .int .i64 n_, .str ow, .slice .shared 4 (Vx.map bE)]:=by simp only [gV]
theorem acV (x:Ar):(dT x).length=6:=nd rfl
theorem Zm (x:Ar):List.take 6 (dT x)=dT x:=nd rfl
theorem Zn (x:Ar):List.drop 6 (dT x) = []:=nd rfl
theorem SP (x:Ar):(dT x)[0]? = some (.bool x.ref):=nd rfl
theorem SQ (x:Ar):(dT x)[1]? = some (.str x.name):=nd rfl
theorem SS (x:Ar):(dT x)[2]? = some (.int .i64 x.x.op):=nd rfl
theorem SU (x:Ar):(dT x)[3]? = some (.int .i64 x.x.n):=nd rfl
theorem SV (x:Ar):(dT x)[4]? = some (.str x.x.name):=nd rfl
theorem SW (x:Ar):(dT x)[5]? = some (.slice .shared 4 (x.x.kids.map bE)):=nd rfl
theorem SX (x:Ar):List.take 4 (List.drop 2 (dT x))=bE x.x:=by simp only [dT,gV];rfl
theorem af8 (Iv:Bool) (ow:aF) (x_:Ex):dT ⟨Iv,ow,x_⟩ = [.bool Iv, .str ow, .int .i64 x_.op, .int .i64 x_.n, .str x_.name, .slice .shared 4 (x_.kids.map bE)]:=by simp only [dT]
theorem Hd (x:Sm):(bd x).length=13:=by simp only [dm];rfl
theorem Zo (x:Sm):List.take 13 (bd x)=bd x:=by simp only [dm];rfl
theorem Zp (x:Sm):List.drop 13 (bd x) = []:=by simp only [dm];rfl
theorem SY (x:Sm):(bd x)[0]? = some (.int .i64 x.id):=by simp only [dm];rfl
theorem SZ (x:Sm):(bd x)[1]? = some (.int .i64 x.kind):=by simp only [dm];rfl
theorem S1 (x:Sm):(bd x)[2]? = some (.slice .shared 1 (x.labels.map encStr)):=by simp only [dm];rfl
theorem S2 (x:Sm):(bd x)[3]? = some (.str x.name):=by simp only [dm];rfl
theorem S3 (x:Sm):(bd x)[4]? = some (.str x.proc):=by simp only [dm];rfl
theorem S4 (x:Sm):(bd x)[5]? = some (.int .i64 x.x.op):=by simp only [dm];rfl
theorem S5 (x:Sm):(bd x)[6]? = some (.int .i64 x.x.n):=by simp only [dm];rfl
theorem S6 (x:Sm):(bd x)[7]? = some (.str x.x.name):=by simp only [dm];rfl
theorem S7 (x:Sm):(bd x)[8]? = some (.slice .shared 4 (x.x.kids.map bE)):=by simp only [dm];rfl
theorem S8 (x:Sm):(bd x)[9]? = some (.bool x.has):=by simp only [dm];rfl
theorem P3 (x:Sm):(bd x)[10]? = some (.slice .shared 6 (x.args.map dT)):=by simp only [dm];rfl
theorem P4 (x:Sm):(bd x)[11]? = some (.slice .shared 13 (x.aZ.map bd)):=by simp only [dm];rfl
theorem P5 (x:Sm):(bd x)[12]? = some (.slice .shared 13 (x.aP.map bd)):=by simp only [dm];rfl
theorem S9 (x:Sm):List.take 4 (List.drop 5 (bd x))=bE x.x:=by simp only [dm,gV];rfl
theorem af9 (id_:Int) (Db:Int) (KW:List aF) (ow:aF) (Vy:aF) (x_:Ex) (Zq:Bool) (Vz:List Ar) (Zr:List Sm) (Zs:List Sm):bd ⟨id_,Db,KW,ow,Vy,x_,Zq,Vz,Zr,Zs⟩ = [.int .i64 id_, .int .i64 Db, .slice .shared 1 (KW.map encStr), .str ow, .str Vy, .int .i64 x_.op, .int .i64 x_.n, .str x_.name, .slice .shared 4 (x_.kids.map bE), .bool Zq, .slice .shared 6 (Vz.map dT), .slice .shared 13 (Zr.map bd), .slice .shared 13 (Zs.map bd)]:=by simp only [dm]
theorem acW (x:Pm):(fQ x).length=2:=nd rfl
theorem Zt (x:Pm):List.take 2 (fQ x)=fQ x:=nd rfl
theorem Zu (x:Pm):List.drop 2 (fQ x) = []:=nd rfl
theorem Ta (x:Pm):(fQ x)[0]? = some (.str x.name):=nd rfl
theorem Tb (x:Pm):(fQ x)[1]? = some (.bool x.ref):=nd rfl
theorem aga (ow:aF) (Iv:Bool):fQ ⟨ow,Iv⟩ = [.str ow, .bool Iv]:=by simp only [fQ]
theorem acX (x:Pc):(cb x).length=5:=nd rfl
theorem Zv (x:Pc):List.take 5 (cb x)=cb x:=nd rfl
theorem Zw (x:Pc):List.drop 5 (cb x) = []:=nd rfl
theorem Tc (x:Pc):(cb x)[0]? = some (.str x.name):=nd rfl
theorem Td (x:Pc):(cb x)[1]? = some (.slice .shared 2 (x.params.map fQ)):=nd rfl
theorem Te (x:Pc):(cb x)[2]? = some (.slice .shared 1 (x.vars.map encStr)):=nd rfl
theorem Tf (x:Pc):(cb x)[3]? = some (.slice .shared 13 (x.body.map bd)):=nd rfl
theorem Tg (x:Pc):(cb x)[4]? = some (.slice .shared 1 (x.fin.map encStr)):=nd rfl
theorem agb (ow:aF) (KX:List Pm) (VA:List aF) (VB:List Sm) (Zx:List aF):cb ⟨ow,KX,VA,VB,Zx⟩ = [.str ow, .slice .shared 2 (KX.map fQ), .slice .shared 1 (VA.map encStr), .slice .shared 13 (VB.map bd), .slice .shared 1 (Zx.map encStr)]:=by simp only [cb]
theorem acY (x:Pg):(bH x).length=2:=nd rfl
theorem Zy (x:Pg):List.take 2 (bH x)=bH x:=nd rfl
theorem Zz (x:Pg):List.drop 2 (bH x) = []:=nd rfl
theorem Ti (x:Pg):(bH x)[0]? = some (.slice .shared 1 (x.globals.map encStr)):=nd rfl
theorem Tj (x:Pg):(bH x)[1]? = some (.slice .shared 5 (x.procs.map cb)):=nd rfl
theorem agc (Iw:List aF) (P6:List Pc):bH ⟨Iw,P6⟩ = [.slice .shared 1 (Iw.map encStr), .slice .shared 5 (P6.map cb)]:=by simp only [bH]
attribute [go_sem] Zh Xp Xq PY PZ P0 P2 acU Vw Zk Zl SL SM SN SO af7 acV Zm Zn SP SQ SS SU SV SW SX af8 Hd Zo Zp SY SZ S1 S2 S3 S4 S5 S6 S7 S8 P3 P4 P5 S9 af9 acW Zt Zu Ta Tb aga acX Zv Zw Tc Td Te Tf Tg agb acY Zy Zz Ti Tj agc
theorem Dc (s:aF):D.bR 0 0 (encStr s)=true:=rfl
theorem He (t:cj):D.bR 0 0 (eD t)=true:=rfl
mutual
theorem gN : ∀ x,D.bR 0 0 (bE x)=true
 | ⟨op,n,name,kids⟩=>by simp [bE,D.bR,D.ok,Tag.ok,VC kids]
theorem VC : ∀ l,D.ji 0 0 (uQ l)=true
 | []=>rfl
 | x::l=>by simp [uQ,D.ji,gN x,VC l]
end
theorem Ix (a:Ar):D.bR 0 0 (dT a)=true:=by simp [dT,D.bR,D.ok,Tag.ok,gQ gN]
mutual
theorem l9 : ∀ x,D.bR 0 0 (bd x)=true
 | ⟨id,kind,labels,name,proc,x,has,args,aZ,aP⟩=>by simp [bd,D.bR,D.ok,Tag.ok,Nh aZ,Nh aP,gQ Dc,gQ gN,gQ Ix]
theorem Nh : ∀ l,D.ji 0 0 (sQ l)=true
 | []=>rfl
 | x::l=>by simp [sQ,D.ji,l9 x,Nh l]
end
theorem Ni (p:Pm):D.bR 0 0 (fQ p)=true:=rfl
theorem rM (p:Pc):D.bR 0 0 (cb p)=true:=by simp [cb,D.bR,D.ok,Tag.ok,gQ Ni,gQ Dc,gQ l9]
theorem fX (p:Pg):D.bR 0 0 (bH p)=true:=by simp [bH,D.bR,D.ok,Tag.ok,gQ Dc,gQ rM]
theorem ZA (n m:Nat) (x:cj):D.il n m (eD x)=eD x:=iG n m _ (He x)
theorem acZ (n m:Nat) (x:Ex):D.il n m (bE x)=bE x:=iG n m _ (gN x)
theorem ac0 (n m:Nat) (x:Ar):D.il n m (dT x)=dT x:=iG n m _ (Ix x)
theorem ac1 (n m:Nat) (x:Sm):D.il n m (bd x)=bd x:=iG n m _ (l9 x)
theorem ac2 (n m:Nat) (x:Pm):D.il n m (fQ x)=fQ x:=iG n m _ (Ni x)
theorem ac3 (n m:Nat) (x:Pc):D.il n m (cb x)=cb x:=iG n m _ (rM x)
theorem ac4 (n m:Nat) (x:Pg):D.il n m (bH x)=bH x:=iG n m _ (fX x)
attribute [go_sem] ZA acZ ac0 ac1 ac2 ac3 ac4
theorem dJ (l:List aF):D.ji 0 0 (l.map encStr)=true:=gQ Dc l
theorem Iy (l:List cj):D.ji 0 0 (l.map eD)=true:=gQ He l
theorem VD (l:List Ex):D.ji 0 0 (l.map bE)=true:=gQ gN l
theorem Hf (l:List Ar):D.ji 0 0 (l.map dT)=true:=gQ Ix l
theorem mF (l:List Sm):D.ji 0 0 (l.map bd)=true:=gQ l9 l
theorem Nj (l:List Pm):D.ji 0 0 (l.map fQ)=true:=gQ Ni l
theorem Hg (l:List Pc):D.ji 0 0 (l.map cb)=true:=gQ rM l
theorem P7 (n m:Nat) (l:List aF):D.kr n m (l.map encStr)=l.map encStr:=mP Dc n m l
theorem mQ (n m:Nat) (l:List cj):D.kr n m (l.map eD)=l.map eD:=mP He n m l
theorem ac5 (n m:Nat) (l:List Ex):D.kr n m (l.map bE)=l.map bE:=mP gN n m l
theorem ac6 (n m:Nat) (l:List Ar):D.kr n m (l.map dT)=l.map dT:=mP Ix n m l
theorem ac7 (n m:Nat) (l:List Sm):D.kr n m (l.map bd)=l.map bd:=mP l9 n m l
theorem ac8 (n m:Nat) (l:List Pm):D.kr n m (l.map fQ)=l.map fQ:=mP Ni n m l
theorem VE (n m:Nat) (l:List Pc):D.kr n m (l.map cb)=l.map cb:=mP rM n m l
theorem ZB (x:Ex) (r:List D):bE x++r = .int .i64 x.op:: .int .i64 x.n:: .str x.name:: .slice .shared 4 (x.kids.map bE)::r:=by rw [gV];rfl
theorem Xr (d:D) (x:Ex):d::bE x = [d, .int .i64 x.op, .int .i64 x.n, .str x.name, .slice .shared 4 (x.kids.map bE)]:=by rw [gV]
attribute [go_sem] ZB Xr
theorem ac9:((0:Nat):Int)=0:=nd rfl
theorem ada:((1:Nat):Int)=1:=nd rfl
theorem adb:((2:Nat):Int)=2:=nd rfl
attribute [go_sem] ac9 ada adb KV List.length_append List.map_append encStr mw ar0 Iu Da P7 mQ ac5 ac6 ac7 ac8 VE
theorem mx (a b:Nat):(if(b:Int) > (a:Int)then(b:Int)else(a:Int))=((max a b:Nat):Int):=by split <;> omega
theorem dc {x:Int} (h1 : -9223372036854775808≤x) (h2:x<9223372036854775808):IntKind.wrap .i64 x=x:=by
 rw [IntKind.wrap_i64];omega
@[go_sem] theorem az {n:Nat} (h:n<4611686018427387904):IntKind.wrap .i64 ((n:Int)+1)=((n+1:Nat):Int):=by
 rw [dc] <;> omega
def inc (n:Nat):Option Nat:=if n<4611686018427387904 then some (n+1)else none
theorem Tk {n k:Nat} (h:inc n=some k):IntKind.wrap .i64 ((n:Int)+1)=((n+1:Nat):Int)∧k=n+1:=by
 unfold inc at h
 split at h
 ·rename_i hn;cases h;exact⟨az hn,rfl⟩
 ·cases h
def Tl (n:Int):Option Int:=if -4611686018427387904<n∧n<4611686018427387904 then some (n+1)else none
theorem P8 {n k:Int} (h:Tl n=some k):IntKind.wrap .i64 (n+1)=n+1∧k=n+1:=by
 unfold Tl at h
 split at h
 ·rename_i hn;cases h;exact⟨dc (by omega) (by omega),rfl⟩
 ·cases h
@[go_sem] theorem ae8 {n:Nat} (h:n+1<4611686018427387904):IntKind.wrap .i64 ((n:Int)+1)=((n+1:Nat):Int):=by
 rw [dc] <;> omega
@[go_sem] theorem ae9 {n:Nat} (h:n<4611686018427387904):IntKind.wrap .i64 ((n:Int)+2)=((n+2:Nat):Int):=by
 rw [dc] <;> omega
def Ep {α:Type} (l:List α) (i:Nat):Option α:=if i<4611686018427387904 then l[i]? else none
theorem Aj {α:Type} {l:List α} {i:Nat} {x:α} (h:Ep l i=some x):i<4611686018427387904∧l[i]? = some x:=by
 unfold Ep at h
 split at h
 ·exact⟨‹_›,h⟩
 ·cases h
def push {α:Type} (k:Nat) (l:List α) (x:α):Option (List α):=if(l.length+1)*k≤bc then some (l++ [x])else none
theorem oX {α:Type} {k:Nat} {l l':List α} {x:α} (h:push k l x=some l'):(l.length+1)*k≤bc∧l'=l++ [x]:=by
 unfold push at h
 split at h
 ·cases h;exact⟨‹_›,rfl⟩
 ·cases h
end Go.Abs

/-! Mir -/

namespace Go.Abs
mutual
def Ex.size:Ex→Nat
 | ⟨_,_,_,kids⟩=>1+Ex.aS kids
def Ex.aS:List Ex→Nat
 | []=>0
 | x::l=>1+x.size+Ex.aS l
end
mutual
def Ex.depth:Ex→Nat
 | ⟨_,_,_,kids⟩=>Ex.gI kids+1
def Ex.gI:List Ex→Nat
 | []=>0
 | x::l=>max x.depth (Ex.gI l)
end
def Iz (x:Ex):Option Int:=if x.size<4611686018427387904 then some (x.depth:Int)else none
theorem Ex.bV {x:Ex} : ∀ {l:List Ex},x∈l→x.size<Ex.aS l
 | y::l,h=>by
  simp only [Ex.aS]
  rcases List.mem_cons.1 h with rfl | h
  ·omega
  ·have:=Ex.bV h;omega
theorem Ex.cZ : ∀ (l:List Ex),l.length≤Ex.aS l
 | []=>Nat.le_refl _
 | x::l=>by simp only [Ex.aS,List.length_cons];have:=Ex.cZ l;omega
theorem Ex.Nk : ∀ (n:Nat) (x:Ex),x.size≤n→x.depth≤x.size:=by
 intro n
 induction n with
 | zero=>intro x h;cases x;simp only [Ex.size]at h;omega
 | succ n ih=>
  rintro⟨op,m,name,kids⟩ h
  simp only [Ex.size,Ex.depth]at h ⊢
  have : ∀ l:List Ex,Ex.aS l≤n→Ex.gI l≤Ex.aS l:=by
   intro l
   induction l with
   | nil=>intro _;simp [Ex.gI]
   | cons x l P9=>
    intro h
    simp only [Ex.aS,Ex.gI]at h ⊢
    have:=ih x (by omega)
    have:=P9 (by omega)
    omega
  have:=this kids (by omega)
  omega
def nC (t:cj):Int×Int:=
 if t.kind != 4 then(0,0)
 else if t.text == [124,124]then(17,1)
 else if t.text == [38,38]then(16,2)
 else if t.text == [61,61]then(14,3)
 else if t.text == [33,61]then(15,3)
 else if t.text == [60]then(10,4)
 else if t.text == [60,61]then(11,4)
 else if t.text == [62]then(12,4)
 else if t.text == [62,61]then(13,4)
 else if t.text == [43]then(8,5)
 else if t.text == [45]then(9,5)
 else if t.text == [42]then(5,6)
 else if t.text == [47]then(6,6)
 else if t.text == [37]then(7,6)
 else(0,0)
structure Rd where
 l:List cj
 i:Nat
 code:Int
 qM:Int
 n:Nat
abbrev Rd.good (r:Rd):Bool:=r.code==0
def Rd.nD (r:Rd):Option cj:=(Ep r.l r.i).bind fun t=>if decide (0≤t.kind) && decide (t.kind≤4)then some t else none
theorem IA {r:Rd} {t:cj} (h:r.nD=some t):r.i<4611686018427387904∧r.l[r.i]? = some t∧0≤t.kind∧t.kind≤4:=by
 unfold Rd.nD at h
 rw [Option.bind_eq_some_iff]at h
 obtain⟨u,h1,h⟩:=h
 obtain⟨g1,g2⟩:=Aj h1
 by_cases hk:(decide (0≤u.kind) && decide (u.kind≤4))=true
 ·rw [if_pos hk]at h
  cases h
  simp only [Bool.and_eq_true,decide_eq_true_eq]at hk
  exact⟨g1,g2,hk.1,hk.2⟩
 ·rw [if_neg hk]at h;cases h
def Rd.bad (c:Int) (r:Rd):Option Rd:=if r.good then r.nD.bind fun t=>some {r with code:=c,qM:=t.pos}else some r
def Rd.is (text:aF) (r:Rd):Option Bool:=r.nD.bind fun t=>some ((t.kind==3 || t.kind==4) && t.text==text)
def Rd.take (text:aF) (r:Rd):Option (Bool×Rd):=
 if !r.good then some (false,r)else(r.is text).bind fun b=>if !b then some (false,r)else some (true,{r with i:=r.i+1})
def Rd.want (text:aF) (r:Rd):Option Rd:=(r.take text).bind fun p=>if !p.1 then p.2.bad 3 else some p.2
def Rd.name (room:Bool) (r:Rd):Option (aF×Rd):=
 r.nD.bind fun t=>if !r.good || t.kind != 1 then(r.bad 3).bind fun r=>some ([],r)else if !room then(r.bad 4).bind fun r=>some ([],r)else some (t.text,{r with i:=r.i+1})
def Rd.on (r:Rd):Rd:= {r with i:=r.i+1}
mutual
def Rd.one:Nat→Rd→Option (Ex×Rd)
 | 0,_=>none
 | n+1,r=>r.nD.bind fun t=>
  if !r.good then some (mw,r)
  else if t.kind==2 then some (⟨1,t.n,[],[]⟩,{r with i:=r.i+1})
  else if t.kind==1 then some (⟨2,0,t.text,[]⟩,{r with i:=r.i+1})
  else(r.take [40]).bind fun p=>
   if p.1 then(Rd.two n 1 p.2).bind fun x=>(x.2.want [41]).bind fun r=>some (x.1,r)
   else(p.2.take [45]).bind fun p=>
    if p.1 then(Rd.one n p.2).bind fun x=>some (⟨3,0,[],[x.1]⟩,x.2)
    else(p.2.take [33]).bind fun p=>
     if p.1 then(Rd.one n p.2).bind fun x=>some (⟨4,0,[],[x.1]⟩,x.2)
     else(p.2.bad 3).bind fun r=>some (mw,r)
def Rd.two:Nat→Int→Rd→Option (Ex×Rd)
 | 0,_,_=>none
 | n+1,least,r=>(Rd.one n r).bind fun x=>Rd.Ak n least x.1 x.2
def Rd.Ak:Nat→Int→Ex→Rd→Option (Ex×Rd)
 | 0,_,_,_=>none
 | n+1,least,x,r=>
  if r.good then r.nD.bind fun t=>
   if decide ((nC t).2<least) || (nC t).1==0 then some (x,r)
   else(Rd.two n ((nC t).2+1) {r with i:=r.i+1}).bind fun y=>Rd.Ak n least ⟨(nC t).1,0,[],[x,y.1]⟩ y.2
  else some (x,r)
end
def Rd.whole (n:Nat) (r:Rd):Option (Ex×Rd):=
 r.nD.bind fun t=>(Rd.two n 1 r).bind fun x=>
  if x.2.good then(Iz x.1).bind fun d=>if decide (d > 20)then some (x.1,{x.2 with code:=4,qM:=t.pos})else some (x.1,x.2)
  else some (x.1,x.2)
def Rd.names:Nat→List aF→Int→Rd→Option (List aF×Rd)
 | 0,_,_,_=>none
 | n+1,l,fJ,r=>
  if r.good then(r.name (decide ((l.length:Int)<fJ))).bind fun p=>(push 17 l p.1).bind fun l=>(p.2.take [44]).bind fun q=>
   if !q.1 then(q.2.want [59]).bind fun r=>some (l,r)else Rd.names n l fJ q.2
  else some (l,r)
def Rd.ahead (sign:aF) (r:Rd):Option Bool:=
 if r.good then r.nD.bind fun t=>if t.kind==1 then(Ep r.l (r.i+1)).bind fun u=>some (u.kind==4 && u.text==sign)else some false
 else some false
def Rd.labels:Nat→List aF→Rd→Option (List aF×Rd)
 | 0,_,_=>none
 | n+1,l,r=>(r.ahead [58]).bind fun b=>if b then r.nD.bind fun t=>(push 17 l t.text).bind fun l=>Rd.labels n l {r with i:=r.i+2}else some (l,r)
def Rd.IB (r:Rd):Option Bool:=
 r.nD.bind fun t=>some (if t.kind==1 then true else if t.kind != 3 then false
  else t.text == [105,102] || t.text == [119,104,105,108,101] || t.text == [98,114,101,97,107] || t.text == [99,111,110,116,105,110,117,101] || t.text == [114,101,116,117,114,110] || t.text == [103,111,116,111] || t.text == [114,101,97,100] || t.text == [112,114,105,110,116])
def Rd.yq (m:Nat):Nat→List Ar→Rd→Option (List Ar×Rd)
 | 0,_,_=>none
 | n+1,l,r=>
  if r.good then(r.take [114,101,102]).bind fun p=>
   if p.1 then(p.2.name true).bind fun x=>(push 81 l ⟨true,x.1,mw⟩).bind fun l=>(x.2.take [44]).bind fun c=>if !c.1 then some (l,c.2)else Rd.yq m n l c.2
   else(Rd.whole m p.2).bind fun x=>(push 81 l ⟨false,[],x.1⟩).bind fun l=>(x.2.take [44]).bind fun c=>if !c.1 then some (l,c.2)else Rd.yq m n l c.2
  else some (l,r)
def Rd.other (sign:aF) (r:Rd):Option Bool:=if r.good then(r.is sign).bind fun b=>some !b else some false
def Rd.call (m:Nat) (name proc:aF) (r:Rd):Option (Sm×Rd):=
 (r.want [40]).bind fun r=>(r.other [41]).bind fun b=>
  if b then(Rd.yq m m [] r).bind fun q=>(q.2.want [41]).bind fun r=>(r.want [59]).bind fun r=>some (⟨0,4,[],name,proc,mw,false,q.1,[],[]⟩,r)
  else(r.want [41]).bind fun r=>(r.want [59]).bind fun r=>some (⟨0,4,[],name,proc,mw,false,[],[],[]⟩,r)
def Rd.named (m:Nat) (r:Rd):Option (Sm×Rd):=
 (r.name true).bind fun x=>(x.2.is [40]).bind fun b=>
  if b then Rd.call m [] x.1 x.2
  else(x.2.want [61]).bind fun r=>(r.ahead [40]).bind fun b=>
   if b then(r.name true).bind fun y=>Rd.call m x.1 y.1 y.2
   else(Rd.whole m r).bind fun y=>(y.2.want [59]).bind fun r=>some (⟨0,1,[],x.1,[],y.1,false,[],[],[]⟩,r)
def Rd.plain (m:Nat) (word:aF) (r:Rd):Option (Sm×Rd):=
 if word == [98,114,101,97,107]then some (⟨0,7,[],[],[],mw,false,[],[],[]⟩,r)
 else if word == [99,111,110,116,105,110,117,101]then some (⟨0,8,[],[],[],mw,false,[],[],[]⟩,r)
 else if word == [114,101,116,117,114,110]then(r.is [59]).bind fun b=>
  if !b then(Rd.whole m r).bind fun x=>some (⟨0,9,[],[],[],x.1,true,[],[],[]⟩,x.2)else some (⟨0,9,[],[],[],mw,false,[],[],[]⟩,r)
 else if word == [103,111,116,111]then(r.name true).bind fun x=>some (⟨0,10,[],x.1,[],mw,false,[],[],[]⟩,x.2)
 else if word == [114,101,97,100]then(r.name true).bind fun x=>some (⟨0,2,[],x.1,[],mw,false,[],[],[]⟩,x.2)
 else if word == [112,114,105,110,116]then(Rd.whole m r).bind fun x=>some (⟨0,3,[],[],[],x.1,false,[],[],[]⟩,x.2)
 else some (Iu,r)
def Rd.head (m:Nat) (r:Rd):Option (Ex×Rd):=(r.want [40]).bind fun r=>(Rd.whole m r).bind fun x=>(x.2.want [41]).bind fun r=>some (x.1,r)
mutual
def Rd.rows (m:Nat):Nat→Int→Bool→Rd→Option ((List Sm×List aF)×Rd)
 | 0,_,_,_=>none
 | n+1,nest,body,r=>Rd.tZ m n nest body [] r
def Rd.tZ (m:Nat):Nat→Int→Bool→List Sm→Rd→Option ((List Sm×List aF)×Rd)
 | 0,_,_,_,_=>none
 | n+1,nest,body,out,r=>
  if r.good then(Rd.labels m [] r).bind fun l=>(l.2.is [125]).bind fun b=>
   if b && (body || (l.1.length:Int)==0)then some ((out,l.1),{l.2 with i:=l.2.i+1})
   else(Rd.stmt m n nest l.2).bind fun s=>(push 209 out {s.1 with labels:=l.1}).bind fun out=>Rd.tZ m n nest body out s.2
  else some (([],[]),r)
def Rd.stmt (m:Nat):Nat→Int→Rd→Option (Sm×Rd)
 | 0,_,_=>none
 | n+1,nest,r=>r.IB.bind fun b=>
  if !b then(r.bad 3).bind fun r=>some (Iu,r)
  else(inc r.n).bind fun k=>
   if decide ((k:Int) > 200) || decide (nest > 12)then(({r with n:=k} : Rd).bad 4).bind fun r=>some (Iu,r)
   else({r with n:=k} : Rd).nD.bind fun t=>
    if t.kind==1 then Rd.named m {r with n:=k}
    else if t.text == [105,102]then Rd.choice m n nest {r with n:=k,i:=r.i+1}
    else if t.text == [119,104,105,108,101]then(Rd.head m {r with n:=k,i:=r.i+1}).bind fun x=>(Rd.block m n nest x.2).bind fun b=>some (⟨0,6,[],[],[],x.1,false,[],b.1,[]⟩,b.2)
    else(Rd.plain m t.text {r with n:=k,i:=r.i+1}).bind fun s=>(s.2.want [59]).bind fun r=>some (s.1,r)
def Rd.block (m:Nat):Nat→Int→Rd→Option (List Sm×Rd)
 | 0,_,_=>none
 | n+1,nest,r=>(r.want [123]).bind fun r=>(Tl nest).bind fun k=>(Rd.rows m n k false r).bind fun p=>some (p.1.1,p.2)
def Rd.choice (m:Nat):Nat→Int→Rd→Option (Sm×Rd)
 | 0,_,_=>none
 | n+1,nest,r=>(Rd.head m r).bind fun x=>(Rd.block m n nest x.2).bind fun t=>(t.2.take [101,108,115,101]).bind fun q=>
  if q.1 then(Rd.block m n nest q.2).bind fun e=>some (⟨0,5,[],[],[],x.1,false,[],t.1,e.1⟩,e.2)
  else some (⟨0,5,[],[],[],x.1,false,[],t.1,[]⟩,q.2)
end
def Rd.params:Nat→List Pm→Rd→Option (List Pm×Rd)
 | 0,_,_=>none
 | n+1,l,r=>
  if r.good then(r.take [114,101,102]).bind fun q=>(q.2.name (decide ((l.length:Int)<8))).bind fun x=>(push 25 l ⟨x.1,q.1⟩).bind fun l=>(x.2.take [44]).bind fun c=>
   if !c.1 then some (l,c.2)else Rd.params n l c.2
  else some (l,r)
def Rd.vars (m:Nat):Nat→List aF→Rd→Option (List aF×Rd)
 | 0,_,_=>none
 | n+1,l,r=>(r.take [118,97,114]).bind fun q=>if q.1 then(Rd.names m l 16 q.2).bind fun x=>Rd.vars m n x.1 x.2 else some (l,q.2)
def Rd.yr (m:Nat) (name:aF) (ps:List Pm) (r:Rd):Option (Pc×Rd):=
 (Rd.vars m m [] r).bind fun v=>(Rd.rows m m 1 true v.2).bind fun b=>some (⟨name,ps,v.1,b.1.1,b.1.2⟩,b.2)
def Rd.proc (m:Nat) (r:Rd):Option (Pc×Rd):=
 (r.name true).bind fun x=>(x.2.want [40]).bind fun r=>(r.other [41]).bind fun b=>
  if b then(Rd.params m [] r).bind fun q=>(q.2.want [41]).bind fun r=>(r.want [123]).bind fun r=>Rd.yr m x.1 q.1 r
  else(r.want [41]).bind fun r=>(r.want [123]).bind fun r=>Rd.yr m x.1 [] r
def Rd.globals (m:Nat):Nat→List aF→Rd→Option (List aF×Rd)
 | 0,_,_=>none
 | n+1,l,r=>(r.take [103,108,111,98,97,108]).bind fun q=>if q.1 then(Rd.names m l 16 q.2).bind fun x=>Rd.globals m n x.1 x.2 else some (l,q.2)
def Rd.Qa (r:Rd):Option Bool:=if r.good then r.is [112,114,111,99]else some false
def Rd.IC (r:Rd):Option Bool:=if r.good then r.nD.bind fun t=>some (t.kind != 0)else some false
def Rd.procs (m:Nat):Nat→List Pc→Rd→Option (List Pc×Rd)
 | 0,_,_=>none
 | n+1,l,r=>r.Qa.bind fun b=>
  if b then
   if(l.length:Int)==16 then(r.bad 4).bind fun r=>some (l,r)
   else(Rd.proc m {r with i:=r.i+1}).bind fun x=>(push 113 l x.1).bind fun l=>Rd.procs m n l x.2
  else r.IC.bind fun b=>if b then(r.bad 3).bind fun r=>some (l,r)else some (l,r)
def Rd.program (m:Nat) (r:Rd):Option (Pg×Rd):=(Rd.globals m m [] r).bind fun g=>(Rd.procs m m [] g.2).bind fun q=>some (⟨g.1,q.1⟩,q.2)
mutual
def Ex.beq:Ex→Ex→Bool
 | ⟨op,n,name,kids⟩,⟨op',n',Nl,VF⟩=>if op != op' || n != n' || !(name==Nl) || (kids.length:Int) != (VF.length:Int)then false else Ex.pL kids VF
def Ex.pL:List Ex→List Ex→Bool
 | [],_=>true
 | _::_,[]=>true
 | x::l,y::l'=>if !Ex.beq x y then false else Ex.pL l l'
end
end Go.Abs

/-! MirTree -/

namespace Go.Abs
def Ar.aS:List Ar→Nat
 | []=>0
 | a::l=>1+a.x.size+Ar.aS l
mutual
def Sm.size:Sm→Nat
 | ⟨_,_,labels,_,_,x,_,args,aZ,aP⟩=>1+labels.length+x.size+Ar.aS args+Sm.aS aZ+Sm.aS aP
def Sm.aS:List Sm→Nat
 | []=>0
 | s::l=>1+s.size+Sm.aS l
end
def Pc.size (f:Pc):Nat:=1+f.params.length+f.vars.length+f.fin.length+Sm.aS f.body
def Pc.aS:List Pc→Nat
 | []=>0
 | f::l=>1+f.size+Pc.aS l
def Pg.size (p:Pg):Nat:=1+p.globals.length+Pc.aS p.procs
mutual
def Sm.num (b:Bool) (n:Nat):Sm→Sm×Nat
 | ⟨id,kind,labels,name,proc,x,has,args,aZ,aP⟩=>
  (⟨if b then((n+1:Nat):Int)else id,kind,labels,name,proc,x,has,args,(Sm.gB b (n+1) aZ).1,(Sm.gB b (Sm.gB b (n+1) aZ).2 aP).1⟩,(Sm.gB b (Sm.gB b (n+1) aZ).2 aP).2)
def Sm.gB (b:Bool) (n:Nat):List Sm→List Sm×Nat
 | []=>([],n)
 | s::l=>((Sm.num b n s).1::(Sm.gB b (Sm.num b n s).2 l).1,(Sm.gB b (Sm.num b n s).2 l).2)
end
def Pc.gB (n:Nat):List Pc→List Pc
 | []=> []
 | f::l=> {f with body:=(Sm.gB true n f.body).1}::Pc.gB (Sm.gB true n f.body).2 l
def Pg.number (p:Pg):Pg:= {p with procs:=Pc.gB 0 p.procs}
def Pg.Er (p:Pg):Option Pg:=if p.size<1073741824 then some p.number else none
mutual
theorem Sm.ZC (b:Bool) (n:Nat) : ∀ s:Sm,(Sm.num b n s).2≤n+s.size
 | ⟨id,kind,labels,name,proc,x,has,args,aZ,aP⟩=>by
  simp only [Sm.num,Sm.size]
  have h1:=Sm.uy b (n+1) aZ
  have h2:=Sm.uy b (Sm.gB b (n+1) aZ).2 aP
  omega
theorem Sm.uy (b:Bool) (n:Nat) : ∀ l:List Sm,(Sm.gB b n l).2≤n+Sm.aS l
 | []=>by simp [Sm.gB,Sm.aS]
 | s::l=>by
  simp only [Sm.gB,Sm.aS]
  have h1:=Sm.ZC b n s
  have h2:=Sm.uy b (Sm.num b n s).2 l
  omega
end
theorem Sm.cZ : ∀ (l:List Sm),l.length≤Sm.aS l
 | []=>Nat.le_refl _
 | x::l=>by simp only [Sm.aS,List.length_cons];have:=Sm.cZ l;omega
theorem Ar.cZ : ∀ (l:List Ar),l.length≤Ar.aS l
 | []=>Nat.le_refl _
 | x::l=>by simp only [Ar.aS,List.length_cons];have:=Ar.cZ l;omega
theorem Pc.cZ : ∀ (l:List Pc),l.length≤Pc.aS l
 | []=>Nat.le_refl _
 | x::l=>by simp only [Pc.aS,List.length_cons];have:=Pc.cZ l;omega
theorem Ar.bV {x:Ar} : ∀ {l:List Ar},x∈l→x.x.size<Ar.aS l
 | y::l,h=>by
  simp only [Ar.aS]
  rcases List.mem_cons.1 h with rfl | h
  ·omega
  ·have:=Ar.bV h;omega
theorem Sm.bV {x:Sm} : ∀ {l:List Sm},x∈l→x.size<Sm.aS l
 | y::l,h=>by
  simp only [Sm.aS]
  rcases List.mem_cons.1 h with rfl | h
  ·omega
  ·have:=Sm.bV h;omega
theorem Pc.bV {x:Pc} : ∀ {l:List Pc},x∈l→x.size<Pc.aS l
 | y::l,h=>by
  simp only [Pc.aS]
  rcases List.mem_cons.1 h with rfl | h
  ·omega
  ·have:=Pc.bV h;omega
end Go.Abs

/-! Cnt -/

namespace Go.Abs
mutual
def Sm.iI:Sm→Nat
 | ⟨_,_,_,_,_,_,_,_,aZ,aP⟩=>1+Sm.eI aZ+Sm.eI aP
def Sm.eI:List Sm→Nat
 | []=>0
 | s::l=>s.iI+Sm.eI l
end
end Go.Abs

/-! MirFlat -/

namespace Go.Abs
structure Im where
 s:Sm
 proc:Int
 up:Int
 next:Int
 loop:Int
mutual
def Im.one (proc up next loop:Int) (out:List Im):Sm→List Im
 | ⟨id,kind,labels,name,pc,x,has,args,aZ,aP⟩=>
  Im.rows proc ((out.length:Int)+1) (if kind==6 then(out.length:Int)+1 else next) (if kind==6 then(out.length:Int)+1 else loop)
   (Im.rows proc ((out.length:Int)+1) (if kind==6 then(out.length:Int)+1 else next) (if kind==6 then(out.length:Int)+1 else loop) (out++ [⟨⟨id,kind,labels,name,pc,x,has,args,aZ,aP⟩,proc,up,next,loop⟩]) aZ) aP
def Im.rows (proc up next loop:Int) (out:List Im):List Sm→List Im
 | []=>out
 | s::l=>Im.rows proc up next loop (Im.one proc up (if l.length=0 then next else(out.length:Int)+1+(s.iI:Int)) loop out s) l
end
theorem Im.ZD (proc up next loop:Int) (out:List Im) (s:Sm):Im.one proc up next loop out s =
 Im.rows proc ((out.length:Int)+1) (if s.kind==6 then(out.length:Int)+1 else next) (if s.kind==6 then(out.length:Int)+1 else loop)
  (Im.rows proc ((out.length:Int)+1) (if s.kind==6 then(out.length:Int)+1 else next) (if s.kind==6 then(out.length:Int)+1 else loop) (out++ [⟨s,proc,up,next,loop⟩]) s.aZ) s.aP:=by
 cases s;simp only [Im.one]
mutual
theorem Xs (proc up next loop:Int) (out:List Im) : ∀ s:Sm,(Im.one proc up next loop out s).length=out.length+s.iI
 | ⟨id,kind,labels,name,pc,x,has,args,aZ,aP⟩=>by
  simp only [Im.one,Sm.iI]
  rw [gC,gC]
  simp only [List.length_append,List.length_cons,List.length_nil];omega
theorem gC (proc up next loop:Int) (out:List Im) : ∀ l:List Sm,(Im.rows proc up next loop out l).length=out.length+Sm.eI l
 | []=>rfl
 | s::l=>by
  simp only [Im.rows,Sm.eI]
  rw [gC,Xs];omega
end
mutual
theorem Ck : ∀ s:Sm,s.iI≤s.size
 | ⟨_,_,labels,_,_,x,_,args,aZ,aP⟩=>by
  have:=kQ aZ;have:=kQ aP
  simp only [Sm.iI,Sm.size];omega
theorem kQ : ∀ l:List Sm,Sm.eI l≤Sm.aS l
 | []=>Nat.le_refl _
 | s::l=>by
  have:=Ck s;have:=kQ l
  simp only [Sm.eI,Sm.aS];omega
end
structure Sh where
 L:List Im
 lo:List Int
 hi:List Int
def Sh.go (i:Nat) (h:Sh):List Pc→Sh
 | []=>h
 | f::l=>Sh.go (i+1) ⟨Im.rows i 0 (-1) 0 h.L f.body,h.lo++ [(h.L.length:Int)+1],h.hi++ [((Im.rows i 0 (-1) 0 h.L f.body).length:Int)+1]⟩ l
def Pg.fz (p:Pg):Sh:=Sh.go 0 ⟨[],[],[]⟩ p.procs
end Go.Abs

/-! Nums -/

namespace Go.Abs
def uR:Nat:=3
def RC:Nat:=4
def Qb:Nat:=5
def Qc:Nat:=6
def RE:Nat:=7
def RF:Nat:=8
def RG:Nat:=9
def RH:Nat:=10
def RI:Nat:=11
def qN:Nat:=12
def wS:Nat:=13
def n9:Nat:=14
def ub:Nat:=15
def sk:Nat:=16
def uS:Nat:=17
def ade:Nat:=18
def uT:Nat:=19
def ab2:Nat:=20
def afa:Nat:=21
def uc:Nat:=22
def lG:Nat:=23
def qd:Nat:=24
def uU:Nat:=25
def s9:Nat:=26
def ta:Nat:=27
def nE:Nat:=28
def ab3:Nat:=29
def ab4:Nat:=30
def ab5:Nat:=31
def adf:Nat:=32
def uV:Nat:=33
def Yj:Nat:=34
def ab6:Nat:=35
def adg:Nat:=36
def ab7:Nat:=37
def qO:Nat:=38
def kg:Nat:=39
def ab8:Nat:=40
def Yk:Nat:=41
def ZE:Nat:=42
def ZF:Nat:=43
def tc:Nat:=44
def wT:Nat:=45
def ju:Nat:=46
def gh:Nat:=47
def kD:Nat:=48
def uW:Nat:=49
def uX:Nat:=50
def uY:Nat:=51
def qP:Nat:=52
def ZG:Nat:=53
def Xt:Nat:=54
def Es:Nat:=55
def mR:Nat:=56
def kh:Nat:=57
def iX:Nat:=58
def nY:Nat:=59
def lS:Nat:=60
def wU:Nat:=61
def fY:Nat:=62
def ox:Nat:=63
def cA:Nat:=64
def gJ:Nat:=65
def qe:Nat:=66
def uZ:Nat:=67
def qQ:Nat:=68
def pT:Nat:=69
def u5:Nat:=70
def qR:Nat:=71
def rN:Nat:=72
def Al:Nat:=73
def ma:Nat:=74
def qf:Nat:=75
def oY:Nat:=76
def vW:Nat:=77
def ud:Nat:=78
def Tn:Nat:=79
def ZH:Nat:=80
def Cl:Nat:=81
def td:Nat:=82
def kR:Nat:=83
def sn:Nat:=84
def adh:Nat:=85
def ki:Nat:=86
def VG:Nat:=87
def ab9:Nat:=88
def Xu:Nat:=89
def VH:Nat:=90
def yu:Nat:=91
def aca:Nat:=92
def acb:Nat:=93
def acd:Nat:=94
def qS:Nat:=95
def kS:Nat:=96
def uf:Nat:=97
def jQ:Nat:=98
def gW:Nat:=99
def k9:Nat:=100
def kj:Nat:=101
def wV:Nat:=102
def oy:Nat:=103
def tf:Nat:=104
def tg:Nat:=105
def u6:Nat:=106
def adi:Nat:=107
def Yl:Nat:=108
def Ym:Nat:=109
def ace:Nat:=110
def acf:Nat:=111
def Yn:Nat:=112
def Yo:Nat:=113
def Yp:Nat:=114
def ID:Nat:=115
def ti:Nat:=116
def jR:Nat:=117
def kK:Nat:=118
def qT:Nat:=119
def u7:Nat:=120
def u9:Nat:=121
def qU:Nat:=122
def tj:Nat:=123
def wW:Nat:=124
def mH:Nat:=125
def jk:Nat:=126
def jH:Nat:=127
def pU:Nat:=128
def yv:Nat:=129
def va:Nat:=130
def dE:Nat:=131
def jl:Nat:=132
def cT:Nat:=133
def fK:Nat:=134
def fi:Nat:=135
def og:Nat:=136
def dF:Nat:=137
def gR:Nat:=138
def la:Nat:=139
def kA:Nat:=140
def VI:Nat:=141
def mb:Nat:=142
def qV:Nat:=143
def ZI:Nat:=144
def adj:Nat:=145
def Xv:Nat:=146
def acg:Nat:=147
def mS:Nat:=148
def jf:Nat:=149
def yw:Nat:=150
def ach:Nat:=151
def rO:Nat:=152
def ZJ:Nat:=153
def ZK:Nat:=154
def Yq:Nat:=155
def Et:Nat:=156
def Yr:Nat:=157
def oZ:Nat:=158
def qW:Nat:=159
def tn:Nat:=160
def mc:Nat:=161
def qX:Nat:=162
def gK:Nat:=163
def oz:Nat:=164
def tp:Nat:=165
def gd:Nat:=166
def ll:Nat:=167
def Dd:Nat:=168
def VJ:Nat:=169
def eW:Nat:=170
def df:Nat:=171
def gD:Nat:=172
def me:Nat:=173
def mT:Nat:=174
def j8:Nat:=175
def VK:Nat:=176
def qY:Nat:=177
def vb:Nat:=178
def wX:Nat:=179
def sq:Nat:=180
def yx:Nat:=181
def aci:Nat:=182
def acj:Nat:=183
def tq:Nat:=184
def nZ:Nat:=185
def ack:Nat:=186
def ZL:Nat:=187
def acm:Nat:=188
def Gz:Nat:=189
def px:Nat:=190
def wY:Nat:=191
def iO:Nat:=192
def Am:Nat:=193
def CH:Nat:=194
def An:Nat:=195
def Bx:Nat:=196
def Bk:Nat:=197
def xp:Nat:=198
def RJ:Nat:=199
def zF:Nat:=200
def Cm:Nat:=201
def RK:Nat:=202
def RL:Nat:=203
def mU:Nat:=204
def oh:Nat:=205
def pV:Nat:=206
def pW:Nat:=207
def n3:Nat:=208
def vd:Nat:=209
def ve:Nat:=210
def adk:Nat:=211
def adl:Nat:=212
def acn:Nat:=213
def aco:Nat:=214
def vf:Nat:=215
def VL:Nat:=216
def Ys:Nat:=217
def Xw:Nat:=218
def pX:Nat:=219
def CI:Nat:=220
def JR:Nat:=221
def Km:Nat:=222
def zG:Nat:=223
def D7:Nat:=224
def Qd:Nat:=225
def mV:Nat:=226
def nF:Nat:=227
def mW:Nat:=228
def ln:Nat:=229
def jm:Nat:=230
def nG:Nat:=231
def Yt:Nat:=232
def ZM:Nat:=233
def GC:Nat:=234
def Eu:Nat:=235
def Xx:Nat:=236
def wZ:Nat:=237
def D8:Nat:=238
def lq:Nat:=239
def gi:Nat:=240
def Yu:Nat:=241
def iY:Nat:=242
def lH:Nat:=243
def kl:Nat:=244
def ug:Nat:=245
end Go.Abs

/-! Codes0 -/

namespace Go.Abs
abbrev AI.o (t:Nat) (a:AO):AI:= .op (some t) none a
abbrev AI.g (t c:Nat) (b:Bool) (a:AO):AI:= .op (some t) (some (c,b)) a
abbrev AI.c (t f:Nat) (l:List X):AI:= .call (some t) none f l
abbrev AI.d (t c:Nat) (b:Bool) (f:Nat) (l:List X):AI:= .call (some t) (some (c,b)) f l
abbrev AI.m (t:Nat) (x:X):AI:= .op (some t) none (.mv x)
abbrev aQ:X:= .s 0
abbrev aY:X:= .s 1
abbrev cQ:X:= .s 2
abbrev bF:X:= .s 3
abbrev cu:X:= .s 4
abbrev bh:X:= .s 5
abbrev bN:X:= .s 6
abbrev br:X:= .s 7
abbrev bP:X:= .s 8
abbrev b8:X:= .s 9
abbrev bS:X:= .s 10
abbrev bG:X:= .s 11
abbrev bZ:X:= .s 12
abbrev bT:X:= .s 13
abbrev bI:X:= .s 14
abbrev b9:X:= .s 15
abbrev bX:X:= .s 16
abbrev cy:X:= .s 17
abbrev cr:X:= .s 18
abbrev cD:X:= .s 19
abbrev cR:X:= .s 20
abbrev cM:X:= .s 21
abbrev c9:X:= .s 22
abbrev da:X:= .s 23
abbrev cU:X:= .s 24
abbrev cW:X:= .s 25
abbrev dP:X:= .s 26
abbrev dH:X:= .s 27
abbrev dY:X:= .s 28
abbrev ek:X:= .s 29
abbrev eY:X:= .s 30
abbrev eo:X:= .s 31
abbrev eZ:X:= .s 32
abbrev eJ:X:= .s 33
abbrev fb:X:= .s 34
abbrev fh:X:= .s 35
abbrev fm:X:= .s 36
abbrev fy:X:= .s 37
abbrev fR:X:= .s 38
abbrev fM:X:= .s 39
abbrev gj:X:= .s 40
abbrev ga:X:= .s 41
abbrev gO:X:= .s 42
abbrev gX:X:= .s 43
abbrev ic:X:= .s 44
abbrev iT:X:= .s 45
abbrev iU:X:= .s 46
abbrev jc:X:= .s 47
abbrev iw:X:= .s 48
abbrev iJ:X:= .s 49
abbrev jn:X:= .s 50
abbrev jd:X:= .s 51
abbrev jC:X:= .s 52
abbrev jD:X:= .s 53
abbrev jS:X:= .s 54
abbrev jT:X:= .s 55
abbrev lb:X:= .s 56
abbrev kL:X:= .s 57
abbrev ld:X:= .s 58
abbrev km:X:= .s 59
abbrev nH:X:= .s 60
abbrev oi:X:= .s 61
abbrev o3:X:= .s 62
abbrev nI:X:= .s 63
abbrev pM:X:= .s 64
abbrev rP:X:= .s 65
abbrev tr:X:= .s 66
abbrev rQ:X:= .s 67
abbrev rR:X:= .s 68
abbrev vg:X:= .s 69
abbrev tt:X:= .s 70
abbrev yy:X:= .s 71
abbrev w7:X:= .s 72
abbrev yz:X:= .s 73
abbrev w8:X:= .s 74
abbrev yA:X:= .s 75
abbrev tu:X:= .s 76
abbrev yB:X:= .s 77
abbrev w9:X:= .s 78
abbrev Cn:X:= .s 79
abbrev yC:X:= .s 80
abbrev Co:X:= .s 81
abbrev Ao:X:= .s 82
abbrev Cp:X:= .s 83
abbrev Ap:X:= .s 84
abbrev Ev:X:= .s 85
abbrev Ew:X:= .s 86
abbrev Ey:X:= .s 87
abbrev Ez:X:= .s 88
abbrev EA:X:= .s 89
abbrev EB:X:= .s 90
abbrev EC:X:= .s 91
abbrev ED:X:= .s 92
abbrev IE:X:= .s 93
abbrev IF:X:= .s 94
abbrev IG:X:= .s 95
abbrev Nn:X:= .s 96
abbrev No:X:= .s 97
abbrev Np:X:= .s 98
abbrev Nq:X:= .s 99
abbrev Hh:X:= .s 100
abbrev Hi:X:= .s 101
abbrev Hj:X:= .s 102
abbrev Hk:X:= .s 103
abbrev Hl:X:= .s 104
abbrev Hm:X:= .s 105
abbrev Hn:X:= .s 106
abbrev Ho:X:= .s 107
abbrev Hp:X:= .s 108
abbrev Hq:X:= .s 109
abbrev Nr:X:= .s 110
abbrev Ns:X:= .s 111
abbrev Nt:X:= .s 112
abbrev Nu:X:= .s 113
abbrev Nv:X:= .s 114
abbrev Nw:X:= .s 115
abbrev Nx:X:= .s 116
abbrev Ny:X:= .s 117
abbrev Nz:X:= .s 118
abbrev NA:X:= .s 119
abbrev NB:X:= .s 120
abbrev NC:X:= .s 121
abbrev ND:X:= .s 122
abbrev VM:X:= .s 123
abbrev VN:X:= .s 124
abbrev VO:X:= .s 125
abbrev VP:X:= .s 126
abbrev VQ:X:= .s 127
abbrev VR:X:= .s 128
abbrev VS:X:= .s 129
abbrev VT:X:= .s 130
abbrev VU:X:= .s 131
abbrev NF:X:= .s 132
abbrev VV:X:= .s 133
abbrev VW:X:= .s 134
abbrev VX:X:= .s 135
abbrev VY:X:= .s 136
abbrev VZ:X:= .s 137
abbrev V0:X:= .s 138
abbrev V1:X:= .s 139
abbrev V2:X:= .s 140
abbrev V3:X:= .s 141
abbrev V4:X:= .s 142
abbrev NG:X:= .s 143
abbrev V5:X:= .s 144
abbrev Hr:X:= .s 145
abbrev V6:X:= .s 146
abbrev V7:X:= .s 147
abbrev V8:X:= .s 148
abbrev V9:X:= .s 149
abbrev Wa:X:= .s 150
abbrev Wb:X:= .s 151
abbrev adn:X:= .s 152
abbrev ado:X:= .s 153
abbrev adp:X:= .s 154
abbrev adq:X:= .s 155
abbrev adr:X:= .s 156
abbrev ads:X:= .s 157
abbrev adt:X:= .s 158
abbrev adu:X:= .s 159
abbrev adv:X:= .s 160
abbrev adw:X:= .s 161
abbrev adx:X:= .s 162
abbrev ady:X:= .s 163
abbrev adz:X:= .s 164
abbrev adA:X:= .s 165
abbrev adB:X:= .s 166
abbrev adC:X:= .s 167
abbrev adD:X:= .s 168
abbrev adE:X:= .s 169
abbrev adF:X:= .s 170
abbrev adG:X:= .s 171
abbrev adH:X:= .s 172
abbrev adI:X:= .s 173
abbrev adJ:X:= .s 174
abbrev adK:X:= .s 175
abbrev adL:X:= .s 176
abbrev adM:X:= .s 177
abbrev Q04:AC:= .cond cu (.seq (.run [.o 2 (.mv (.k (.bool false)))]) .ret) .skip
abbrev Q09:AC:= .cond br (.seq (.run [.o 2 (.mv (.k (.bool true)))]) .ret) .skip
abbrev Q0B:AC:= .par [.o 8 (.load aY true 2), .c 9 n9 [bP], .o 10 (.load aY true 2), .c 11 ub [bS], .o 12 (.eqs false [0,0] b8 bG), .m 13 bZ, .g 14 13 true (.load aY true 2), .d 15 13 true sk [bI], .g 16 13 true (.load aY true 2), .d 17 13 true uS [bX], .g 18 13 true (.ze false b9 cy), .o 19 (.pick bT cr (.k (.bool false))), .m 2 cD] [(0,0),(1,0),(2,1),(3,0),(4,0),(5,0),(6,0),(7,0),(8,1),(9,0),(10,0),(11,0),(12,0)]
abbrev Q0F:AC:= .seq (.run [.o 1 (.box aQ), .o 2 (.mv (.k (.bool false)))]) (.seq (.seq (.run [.c 3 qN [], .o 4 (.un .not bF)]) Q04) (.seq (.seq (.run [.o 5 (.load aY true 2), .c 6 wS [bh], .o 7 (.un .not bN)]) Q09) (.seq Q0B .ret)))
abbrev Q0K:AC:= .seq (.run [.c 4 tc [], .c 5 uT [cu], .m 3 bh, .o 6 (.ext bF 0), .o 7 (.ext bF 1), .o 1 (.alloc [(.slice .full 0 []),(.slice .full 0 [])]), .o 2 (.alloc [(.int .i64 0),(.int .i64 0)]), .op none none (.store aY bN 2), .op none none (.store cQ br 2)]) (.seq (.run [.c 8 wT [], .c 9 sk [bP], .m 10 b8, .g 11 10 true (.aq cQ 0), .g 12 10 true (.load bG false 1), .g 13 10 true (.bin .eql bZ (.k (.int .i64 0))), .o 14 (.pick bS bT (.k (.bool false))), .m 15 bI, .g 16 15 true (.load aY true 2), .d 17 15 true uV [bX], .g 18 15 true (.bin .eql cy (.k (.int .i64 8))), .o 19 (.pick b9 cr (.k (.bool false))), .m 20 cD, .g 21 20 true (.build [(.slice .full 0 []),(.slice .full 0 [])] []), .d 22 20 true n9 [cM], .g 23 20 true (.rz c9 0 false 1), .g 24 20 true (.bin .eql da (.k (.int .i64 5))), .o 25 (.pick cR cU (.k (.bool false))), .m 0 cW]) .ret)
abbrev Q0L:AC:= .seq (.run [.o 0 (.mv (.k (.bool false)))]) Q0K
abbrev Q0T:AC:= .par [.o 26 (.aq bh 4), .o 27 (.load dP false 1), .o 28 (.aq bh 2), .o 29 (.load dY false 1), .o 30 (.aq bh 0), .o 31 (.load eY false 1), .m 32 bF, .c 33 gh [eo,eZ], .c 34 ju [ek,eJ], .c 35 ju [dH,fb], .m 3 fh] [(4,0),(5,0),(6,0),(7,0),(2,0),(3,1),(8,0),(0,0),(1,2),(9,0),(10,0)]
abbrev Q12:AC:= .seq (.seq (.run [.m 36 bN, .o 37 (.aq bh 1), .o 38 (.load fy false 1), .o 39 (.len fR), .o 40 (.bin .lss fm fM), .m 41 gj, .g 42 41 true (.mv bF), .g 43 41 true (.bin .leq gO (.k (.int .i64 20000))), .o 44 (.pick ga gX (.k (.bool false)))]) (.cond ic .skip (.exit 2))) (.seq (.block 3 (.run [.o 47 (.aq bh 1), .o 48 (.load jc false 1), .m 49 bN, .o 50 (.bA iw iJ 2), .o 51 (.aq jn 0), .o 52 (.load jd false 1), .m 53 bF, .c 54 gh [jC,jD], .m 3 jS])) (.run [.m 45 bN, .o 46 (.bin .add iT (.k (.int .i64 1))), .m 6 iU]))
abbrev Q17:AC:= .seq (.seq (.run [.o 6 (.mv (.k (.int .i64 0)))]) (.block 2 (.loop Q12))) (.run [.o 55 (.aq bh 3), .o 56 (.load jT false 1), .m 57 bF, .c 58 kD [lb,kL], .m 3 ld])
abbrev Q1C:AC:= .seq (.block 1 (.seq (.run [.o 21 (.aq aY 1), .o 22 (.load cM false 1), .m 23 cu, .o 24 (.bA c9 da 5), .o 25 (.load cU true 5), .o 5 (.alloc [(.str []),(.slice .full 0 []),(.slice .full 0 []),(.slice .full 0 []),(.slice .full 0 [])]), .op none none (.store bh cW 5)]) (.seq Q0T Q17))) (.run [.m 19 cu, .o 20 (.bin .add cD (.k (.int .i64 1))), .m 4 cR])
abbrev Q1D:AC:= .seq (.seq (.run [.m 10 cu, .o 11 (.aq aY 1), .o 12 (.load bG false 1), .o 13 (.len bZ), .o 14 (.bin .lss bS bT), .m 15 bI, .g 16 15 true (.mv bF), .g 17 15 true (.bin .leq bX (.k (.int .i64 20000))), .o 18 (.pick b9 cy (.k (.bool false)))]) (.cond cr .skip (.exit 0))) Q1C
abbrev Q1J:AC:= .seq (.seq (.run [.o 4 (.mv (.k (.int .i64 0)))]) (.block 0 (.loop Q1D))) (.seq (.run [.m 59 bF, .o 60 (.bin .leq km (.k (.int .i64 20000))), .m 2 nH]) .ret)
abbrev Q1L:AC:= .seq (.run [.o 1 (.box aQ), .o 2 (.mv (.k (.bool false)))]) (.seq (.run [.o 7 (.aq aY 0), .o 8 (.load br false 1), .c 9 ju [bP,(.k (.int .i64 0))], .m 3 b8]) Q1J)
abbrev Q1P:AC:= .seq (.run [(.o 7 (.build [(.int .i64 0),(.int .i64 0)] [(0,(1,(.k (.int .i64 1))))])), .op none none (.store cQ br 2)]) .ret
abbrev Q27:AC:= .seq (.seq (.run [.o 20 (.aq bF 0), .o 21 (.load cR false 1), .o 22 (.bin .eql cM (.k (.int .i64 0)))]) (.cond c9 (.run [.o 23 (.load aY true 2), .c 24 s9 [da], .op none none (.store bF cU 2)]) .skip)) (.seq (.run [.o 25 (.load bF true 2), .op none none (.store cQ cW 2)]) .ret)
abbrev Q28:AC:= .seq (.seq (.run [.o 15 (.aq bF 0), .o 16 (.load b9 false 1), .o 17 (.bin .eql bX (.k (.int .i64 0)))]) (.cond cy (.run [.o 18 (.load aY true 2), .c 19 uU [cr], .op none none (.store bF cD 2)]) .skip)) Q27
abbrev Q29:AC:= .seq (.seq (.run [.o 10 (.aq bF 0), .o 11 (.load bS false 1), .o 12 (.bin .eql bG (.k (.int .i64 0)))]) (.cond bZ (.run [.o 13 (.load aY true 2), .c 14 qd [bT], .op none none (.store bF bI 2)]) .skip)) Q28
abbrev Q2C:AC:= .seq (.run [.o 1 (.box aQ), .o 2 (.alloc [(.int .i64 0),(.int .i64 0)])]) (.seq (.seq (.run [.o 4 (.load aY true 2), .c 5 uc [cu], .o 6 (.un .not bh)]) (.cond bN Q1P .skip)) (.seq (.run [.o 8 (.load aY true 2), .c 9 lG [bP], .o 3 (.alloc [(.int .i64 0),(.int .i64 0)]), .op none none (.store bF b8 2)]) Q29))
abbrev Q2T:AC:= .seq (.seq (.run [.o 16 (.aq bF 0), .o 17 (.load bX false 1), .o 18 (.bin .eql cy (.k (.int .i64 0)))]) (.cond cr (.run [.o 19 (.load aY true 2), .c 20 qP [cD], .op none none (.store bF cR 2)]) .skip)) (.seq (.run [.o 21 (.load bF true 2), .op none none (.store cQ cM 2)]) .ret)
abbrev Q2U:AC:= .seq (.seq (.run [.o 11 (.aq bF 0), .o 12 (.load bG false 1), .o 13 (.bin .eql bZ (.k (.int .i64 0)))]) (.cond bT (.run [.o 14 (.load aY true 2), .c 15 uY [bI], .op none none (.store bF b9 2)]) .skip)) Q2T
abbrev Q2V:AC:= .seq (.seq (.run [.o 6 (.aq bF 0), .o 7 (.load bN false 1), .o 8 (.bin .eql br (.k (.int .i64 0)))]) (.cond bP (.run [.o 9 (.load aY true 2), .c 10 uX [b8], .op none none (.store bF bS 2)]) .skip)) Q2U
abbrev Q2X:AC:= .seq (.run [.o 1 (.box aQ), .o 2 (.alloc [(.int .i64 0),(.int .i64 0)])]) (.seq (.run [.o 4 (.load aY true 2), .c 5 uW [cu], .o 3 (.alloc [(.int .i64 0),(.int .i64 0)]), .op none none (.store bF bh 2)]) Q2V)
abbrev Q31:AC:= .seq (.run [.o 1 (.box aQ), .o 2 (.mv (.k (.bool false)))]) (.seq (.run [.o 3 (.load aY true 2), .c 4 n9 [bF], .o 5 (.rz cu 0 false 1), .o 6 (.bin .eql bh (.k (.int .i64 0))), .m 2 bN]) .ret)
abbrev Q35:AC:= .seq (.run [.o 1 (.box aQ), .o 2 (.mv (.k (.bool false)))]) (.seq (.run [.o 3 (.load aY true 2), .c 4 ub [bF], .o 5 (.rz cu 0 false 1), .o 6 (.bin .eql bh (.k (.int .i64 0))), .m 2 bN]) .ret)
abbrev Q3D:AC:= .par [.o 19 (.build [(.slice .full 0 []),(.slice .full 0 [])] []), .o 20 (.load bh true 2), .op none none (.store cQ cD 2), .op none none (.store bF cR 2)] [(0,0),(2,0),(1,1),(3,0)]
abbrev Q3J:AC:= .seq (.seq (.run [.o 16 (.aq bh 0), .o 17 (.load bX false 1), .o 18 (.bin .neq cy (.k (.int .i64 0)))]) (.cond cr (.seq Q3D .ret) .skip)) (.seq (.run [.o 21 (.load cu true 2), .o 22 (.build [(.int .i64 0),(.int .i64 0)] []), .op none none (.store cQ cM 2), .op none none (.store bF c9 2)]) .ret)
abbrev Q3K:AC:= .seq (.seq (.run [.o 11 (.aq bh 0), .o 12 (.load bG false 1), .o 13 (.bin .eql bZ (.k (.int .i64 0)))]) (.cond bT (.run [.o 14 (.load cu true 2), .c 15 n9 [bI], .op none none (.store bh b9 2)]) .skip)) Q3J
abbrev Q3M:AC:= .seq (.run [.o 2 (.alloc [(.slice .full 0 []),(.slice .full 0 [])]), .o 3 (.alloc [(.int .i64 0),(.int .i64 0)])]) (.seq (.run [.m 7 aQ, .c 8 ta [br], .m 6 bP, .o 9 (.ext bN 0), .o 10 (.ext bN 1), .o 4 (.alloc [(.slice .full 0 []),(.slice .full 0 [])]), .o 5 (.alloc [(.int .i64 0),(.int .i64 0)]), .op none none (.store cu b8 2), .op none none (.store bh bS 2)]) Q3K)
abbrev Q3R:AC:= .cond da (.seq (.run [.o 2 (.mv (.k (.bool false)))]) .ret) .skip
abbrev Q3Y:AC:= .run [.o 33 (.aq bh 1), .o 34 (.load eJ false 1), .o 35 (.len fb), .o 36 (.bin .gtr fh (.k (.int .i64 8))), .m 37 fm, .g 38 37 false (.aq bh 2), .g 39 37 false (.load fR false 1), .g 40 37 false (.len fM), .g 41 37 false (.bin .gtr gj (.k (.int .i64 16))), .o 42 (.pick fy (.k (.bool true)) ga), .m 43 gO, .g 44 43 false (.aq bh 0), .g 45 43 false (.load ic false 1), .d 46 43 false nE [iT], .g 47 43 false (.un .not iU), .o 48 (.pick gX (.k (.bool true)) jc), .m 49 iw, .g 50 49 false (.aq bh 2), .g 51 49 false (.load jn false 1), .d 52 49 false mR [jd], .g 53 49 false (.un .not jC), .o 54 (.pick iJ (.k (.bool true)) jD), .m 55 jS, .g 56 55 false (.aq bh 4), .g 57 55 false (.load lb false 1), .d 58 55 false mR [kL], .g 59 55 false (.un .not ld), .o 60 (.pick jT (.k (.bool true)) km)]
abbrev Q41:AC:= .cond nH (.seq (.run [.o 2 (.mv (.k (.bool false)))]) .ret) .skip
abbrev Q4A:AC:= .cond yy (.seq (.run [.o 2 (.mv (.k (.bool false)))]) .ret) .skip
abbrev Q4F:AC:= .seq (.block 3 (.seq (.run [.o 66 (.bA o3 pM 2), .o 67 (.load tr true 2), .o 7 (.alloc [(.str []),(.bool false)]), .op none none (.store br rQ 2)]) (.seq (.run [.o 68 (.aq br 0), .o 69 (.load rR false 1), .c 70 nE [vg], .o 71 (.un .not tt)]) Q4A))) (.run [.o 72 (.bin .add pM (.k (.int .i64 1))), .m 64 w7])
abbrev Q4J:AC:= .block 2 (.loop (.seq (.run [.o 65 (.bin .lss pM nI)]) (.seq (.cond rP .skip (.exit 2)) Q4F)))
abbrev Q4O:AC:= .cond yB (.seq (.run [.o 2 (.mv (.k (.bool false)))]) .ret) .skip
abbrev Q4Q:AC:= .seq (.seq (.run [.o 61 (.aq bh 1), .o 62 (.load oi false 1), .o 63 (.len o3), .o 64 (.mv (.k (.int .i64 0)))]) Q4J) (.seq (.run [.m 73 bF, .o 74 (.aq bh 3), .o 75 (.load w8 false 1), .c 76 kh [yz,yA,(.k (.int .i64 1))], .o 77 (.un .not tu)]) Q4O)
abbrev Q4V:AC:= .seq (.block 1 (.seq (.run [.o 31 (.bA dH ek 5), .o 32 (.load eo true 5), .o 5 (.alloc [(.str []),(.slice .full 0 []),(.slice .full 0 []),(.slice .full 0 []),(.slice .full 0 [])]), .op none none (.store bh eZ 5)]) (.seq (.seq Q3Y Q41) Q4Q))) (.run [.o 78 (.bin .add ek (.k (.int .i64 1))), .m 29 w9])
abbrev Q4Z:AC:= .block 0 (.loop (.seq (.run [.o 30 (.bin .lss ek dY)]) (.seq (.cond eY .skip (.exit 0)) Q4V)))
abbrev Q53:AC:= .seq (.seq (.run [.o 26 (.aq aY 1), .o 27 (.load dP false 1), .o 28 (.len dH), .o 29 (.mv (.k (.int .i64 0)))]) Q4Z) (.seq (.run [.o 2 (.mv (.k (.bool true)))]) .ret)
abbrev Q55:AC:= .seq (.seq (.run [.o 8 (.aq aY 0), .o 9 (.load bP false 1), .o 10 (.len b8), .o 11 (.bin .gtr bS (.k (.int .i64 16))), .m 12 bG, .g 13 12 false (.aq aY 1), .g 14 12 false (.load bT false 1), .g 15 12 false (.len bI), .g 16 12 false (.bin .gtr b9 (.k (.int .i64 16))), .o 17 (.pick bZ (.k (.bool true)) bX), .m 18 cy, .g 19 18 false (.aq aY 0), .g 20 18 false (.load cD false 1), .d 21 18 false mR [cR], .g 22 18 false (.un .not cM), .o 23 (.pick cr (.k (.bool true)) c9)]) Q3R) (.seq (.run [.o 24 (.build [(.int .i64 0)] []), .o 25 (.box cU), .m 3 cW]) Q53)
abbrev Q56:AC:= .seq (.run [.o 1 (.box aQ), .o 2 (.mv (.k (.bool false)))]) Q55
abbrev Q5A:AC:= .seq (.run [(.o 16 (.build [(.int .i64 0),(.int .i64 0)] [(0,(1,(.k (.int .i64 1))))])), .op none none (.store cQ bX 2)]) .ret
abbrev Q5M:AC:= .seq (.block 1 (.seq (.run [.o 22 (.bA cr cR 5), .o 23 (.load c9 true 5), .o 5 (.alloc [(.str []),(.slice .full 0 []),(.slice .full 0 []),(.slice .full 0 []),(.slice .full 0 [])]), .op none none (.store bh da 5)]) (.run [.m 24 bF, .o 25 (.aq bh 0), .o 26 (.load cW false 1), .o 27 (.cG [(.str [])] 1 1 [(0,dP)]), .o 28 (.app 1 16 cU dH), .m 3 dY]))) (.run [.o 29 (.bin .add cR (.k (.int .i64 1))), .m 20 ek])
abbrev Q5Q:AC:= .block 0 (.loop (.seq (.run [.o 21 (.bin .lss cR cD)]) (.seq (.cond cM .skip (.exit 0)) Q5M)))
abbrev Q5V:AC:= .seq (.run [(.o 53 (.build [(.int .i64 0),(.int .i64 0)] [(0,(1,(.k (.int .i64 5))))])), .op none none (.store cQ jD 2)]) .ret
abbrev Q66:AC:= .seq (.run [(.o 73 (.build [(.int .i64 0),(.int .i64 0)] [(0,(1,(.k (.int .i64 5))))])), .op none none (.store cQ yz 2)]) .ret
abbrev Q6F:AC:= .seq (.run [.o 89 (.aq bZ 0), .o 90 (.aq EA 0), .o 91 (.load EB false 1),(.o 92 (.build [(.int .i64 0),(.int .i64 0)] [(0,(1,(.k (.int .i64 5)))),(1,(1,EC))])), .op none none (.store cQ ED 2)]) .ret
abbrev Q6L:AC:= .seq (.block 5 (.seq (.run [.o 80 (.bA tu w9 17), .o 81 (.load yC true 17), .o 12 (.alloc [(.int .i64 0),(.int .i64 0),(.slice .full 0 []),(.str []),(.str []),(.int .i64 0),(.int .i64 0),(.str []),(.slice .full 0 []),(.bool false),(.slice .full 0 []),(.slice .full 0 []),(.slice .full 0 []),(.int .i64 0),(.int .i64 0),(.int .i64 0),(.int .i64 0)]), .op none none (.store bZ Co 17)]) (.seq (.run [.o 82 (.load aY true 2), .o 83 (.load b8 true 5), .m 84 bF, .o 85 (.aq bZ 0), .o 86 (.load Ev true 13), .c 87 qe [Ao,Cp,Ap,Ew], .o 88 (.un .not Ey)]) (.cond Ez Q6F .skip)))) (.run [.o 93 (.bin .add w9 (.k (.int .i64 1))), .m 78 IE])
abbrev Q6P:AC:= .block 4 (.loop (.seq (.run [.o 79 (.bin .lss w9 yB)]) (.seq (.cond Cn .skip (.exit 4)) Q6L)))
abbrev Q6R:AC:= .seq (.seq (.run [.m 66 bS, .c 67 nY [tr], .m 68 rQ, .g 69 68 false (.mv bS), .g 70 68 false (.tP 63 [aY]), .d 71 68 false fY [vg,tt], .o 72 (.pick rR (.k (.bool true)) yy)]) (.cond w7 Q66 .skip)) (.seq (.run [.m 74 br, .m 75 bP, .c 76 gJ [w8,yA], .o 77 (.len tu), .o 78 (.mv (.k (.int .i64 0)))]) Q6P)
abbrev Q6W:AC:= .seq (.block 3 (.seq (.run [.m 61 km, .o 62 (.bA kL km 5), .o 63 (.load o3 true 5), .o 9 (.alloc [(.str []),(.slice .full 0 []),(.slice .full 0 []),(.slice .full 0 []),(.slice .full 0 [])]), .m 8 oi, .op none none (.store b8 nI 5)]) (.seq (.run [.o 64 (.load b8 true 5), .c 65 wU [pM], .m 10 rP]) Q6R))) (.run [.o 94 (.bin .add km (.k (.int .i64 1))), .m 59 IF])
abbrev Q70:AC:= .block 2 (.loop (.seq (.run [.o 60 (.bin .lss km ld)]) (.seq (.cond nH .skip (.exit 2)) Q6W)))
abbrev Q74:AC:= .seq (.seq (.run [.o 56 (.aq aY 1), .o 57 (.load lb false 1), .o 58 (.len kL), .o 59 (.mv (.k (.int .i64 0)))]) Q70) (.seq (.run [.o 95 (.build [(.int .i64 0),(.int .i64 0)] []), .op none none (.store cQ IG 2)]) .ret)
abbrev Q76:AC:= .seq (.seq (.run [.o 32 (.aq aY 0), .o 33 (.load eZ false 1), .c 34 nY [eJ], .m 35 fb, .g 36 35 false (.mv bF), .d 37 35 false nY [fm], .o 38 (.pick fh (.k (.bool true)) fy), .m 39 fR, .g 40 39 false (.mv bN), .g 41 39 false (.bin .lss gj (.k (.int .i64 0))), .o 42 (.pick fM (.k (.bool true)) ga), .m 43 gO, .g 44 43 false (.aq aY 1), .g 45 43 false (.load ic false 1), .g 46 43 false (.mv bN), .g 47 43 false (.bA iT iU 5), .g 48 43 false (.aq jc 1), .g 49 43 false (.load iw false 1), .g 50 43 false (.len iJ), .g 51 43 false (.bin .gtr jn (.k (.int .i64 0))), .o 52 (.pick gX (.k (.bool true)) jd)]) (.cond jC Q5V .skip)) (.seq (.run [.o 54 (.load aY true 2), .c 55 lS [jS], .m 7 jT]) Q74)
abbrev Q78:AC:= .seq (.seq (.run [.o 17 (.aq aY 1), .o 18 (.load cy false 1), .o 19 (.len cr), .o 20 (.mv (.k (.int .i64 0)))]) Q5Q) (.seq (.run [.m 30 bF,(.c 31 iX [eY,(.k (.str [109,97,105,110]))]), .m 6 eo]) Q76)
abbrev Q7A:AC:= .seq (.seq (.run [.o 13 (.load aY true 2), .c 14 uc [bT], .o 15 (.un .not bI)]) (.cond b9 Q5A .skip)) (.seq (.run [.o 3 (.mv (.k (.slice .full 0 [])))]) Q78)
abbrev Q7B:AC:= .seq (.run [.o 1 (.box aQ), .o 2 (.alloc [(.int .i64 0),(.int .i64 0)])]) Q7A
abbrev Q7F:AC:= .seq (.run [(.o 9 (.build [(.int .i64 0),(.int .i64 0)] [(0,(1,(.k (.int .i64 1))))])), .op none none (.store cQ b8 2)]) .ret
abbrev Q7O:AC:= .seq (.run [.o 31 (.aq cu 0), .o 32 (.aq eo 0), .o 33 (.load eZ false 1),(.o 34 (.build [(.int .i64 0),(.int .i64 0)] [(0,(1,(.k (.int .i64 6)))),(1,(1,eJ))])), .op none none (.store cQ fb 2)]) .ret
abbrev Q7R:AC:= .seq (.run [.o 18 (.bA bI bX 17), .o 19 (.load cr true 17), .o 4 (.alloc [(.int .i64 0),(.int .i64 0),(.slice .full 0 []),(.str []),(.str []),(.int .i64 0),(.int .i64 0),(.str []),(.slice .full 0 []),(.bool false),(.slice .full 0 []),(.slice .full 0 []),(.slice .full 0 []),(.int .i64 0),(.int .i64 0),(.int .i64 0),(.int .i64 0)]), .op none none (.store cu cD 17)]) (.seq (.run [.o 20 (.aq cu 0), .o 21 (.aq cR 1), .o 22 (.load cM false 1), .o 23 (.bin .eql c9 (.k (.int .i64 4))), .m 24 da, .g 25 24 true (.load aY true 2), .g 26 24 true (.aq cu 0), .g 27 24 true (.load dP true 13), .d 28 24 true uZ [cW,dH], .g 29 24 true (.un .not dY), .o 30 (.pick cU ek (.k (.bool false)))]) (.cond eY Q7O .skip))
abbrev Q7V:AC:= .seq (.cond cy .skip (.exit 0)) (.seq (.block 1 Q7R) (.run [.o 35 (.bin .add bX (.k (.int .i64 1))), .m 16 fh]))
abbrev Q7Z:AC:= .seq (.run [.o 10 (.load aY true 2), .c 11 lS [bS], .o 12 (.dv bG), .o 13 (.aq bZ 2), .o 14 (.load bT false 1), .o 15 (.len bI), .o 16 (.mv (.k (.int .i64 0)))]) (.block 0 (.loop (.seq (.run [.o 17 (.bin .lss bX b9)]) Q7V)))
abbrev Q83:AC:= .seq (.seq (.run [.o 5 (.load aY true 2), .c 6 lG [bh], .o 7 (.rz bN 0 false 1), .o 8 (.bin .neq br (.k (.int .i64 0)))]) (.cond bP Q7F .skip)) (.seq Q7Z (.seq (.run [.o 36 (.build [(.int .i64 0),(.int .i64 0)] []), .op none none (.store cQ fm 2)]) .ret))
abbrev Q84:AC:= .seq (.run [.o 1 (.box aQ), .o 2 (.alloc [(.int .i64 0),(.int .i64 0)])]) Q83
abbrev Q89:AC:= .seq (.run [(.o 14 (.build [(.int .i64 0),(.int .i64 0)] [(0,(1,(.k (.int .i64 1))))])), .op none none (.store cQ bI 2)]) .ret
abbrev Q8P:AC:= .seq (.run [.o 47 (.aq b8 0), .o 48 (.aq jc 0), .o 49 (.load iw false 1),(.o 50 (.build [(.int .i64 0),(.int .i64 0)] [(0,(1,(.k (.int .i64 7)))),(1,(1,iJ))])), .op none none (.store cQ jn 2)]) .ret
abbrev Q8S:AC:= .seq (.run [.m 32 bN, .o 33 (.aq b8 0), .o 34 (.aq eJ 2), .o 35 (.load fb false 1), .c 36 pT [eZ,fh], .m 31 fm, .o 37 (.ext eo 0), .o 38 (.ext eo 1), .m 6 fy, .m 7 fR]) (.seq (.run [.m 39 br, .o 40 (.un .not fM), .m 41 gj, .g 42 41 false (.mv bF), .g 43 41 false (.load b8 true 17), .d 44 41 false u5 [gO,gX], .g 45 41 false (.un .not ic), .o 46 (.pick ga (.k (.bool true)) iT)]) (.cond iU Q8P .skip))
abbrev Q8W:AC:= .seq (.block 3 (.seq (.run [.o 29 (.bA cW dH 17), .o 30 (.load ek true 17), .o 9 (.alloc [(.int .i64 0),(.int .i64 0),(.slice .full 0 []),(.str []),(.str []),(.int .i64 0),(.int .i64 0),(.str []),(.slice .full 0 []),(.bool false),(.slice .full 0 []),(.slice .full 0 []),(.slice .full 0 []),(.int .i64 0),(.int .i64 0),(.int .i64 0),(.int .i64 0)]), .op none none (.store b8 eY 17)]) Q8S)) (.run [.o 51 (.bin .add dH (.k (.int .i64 1))), .m 27 jd])
abbrev Q90:AC:= .block 2 (.loop (.seq (.run [.o 28 (.bin .lss dH dP)]) (.seq (.cond dY .skip (.exit 2)) Q8W)))
abbrev Q95:AC:= .seq (.run [(.o 61 (.build [(.int .i64 0),(.int .i64 0)] [(0,(1,(.k (.int .i64 7))))])), .op none none (.store cQ oi 2)]) .ret
abbrev Q99:AC:= .seq (.seq (.run [.m 23 bF, .m 24 cu, .c 25 gJ [da,cU], .o 26 (.len cW), .o 27 (.mv (.k (.int .i64 0)))]) Q90) (.seq (.run [.m 53 bN, .o 54 (.aq bh 4), .o 55 (.load jS false 1), .c 56 pT [jD,jT], .m 52 lb, .o 57 (.ext jC 0), .o 58 (.ext jC 1), .m 7 ld]) (.seq (.run [.m 59 br, .o 60 (.un .not km)]) (.cond nH Q95 .skip)))
abbrev Q9B:AC:= .seq (.run [.o 6 (.mv (.k (.slice .full 0 [])))]) (.seq (.run [.o 7 (.mv (.k (.bool true)))]) Q99)
abbrev Q9F:AC:= .seq (.block 1 (.seq (.run [.m 20 cr, .o 21 (.bA bX cr 5), .o 22 (.load cM true 5), .o 5 (.alloc [(.str []),(.slice .full 0 []),(.slice .full 0 []),(.slice .full 0 []),(.slice .full 0 [])]), .m 4 cR, .op none none (.store bh c9 5)]) Q9B)) (.run [.o 62 (.bin .add cr (.k (.int .i64 1))), .m 18 o3])
abbrev Q9J:AC:= .block 0 (.loop (.seq (.run [.o 19 (.bin .lss cr cy)]) (.seq (.cond cD .skip (.exit 0)) Q9F)))
abbrev Q9N:AC:= .seq (.seq (.run [.o 15 (.aq aY 1), .o 16 (.load b9 false 1), .o 17 (.len bX), .o 18 (.mv (.k (.int .i64 0)))]) Q9J) (.seq (.run [.o 63 (.build [(.int .i64 0),(.int .i64 0)] []), .op none none (.store cQ nI 2)]) .ret)
abbrev Q9P:AC:= .seq (.run [.o 10 (.load aY true 2), .c 11 qQ [bS], .m 3 bG]) (.seq (.seq (.run [.m 12 bF, .o 13 (.Fq false bZ (.k .fB))]) (.cond bT Q89 .skip)) Q9N)
abbrev Q9Q:AC:= .seq (.run [.o 1 (.box aQ), .o 2 (.alloc [(.int .i64 0),(.int .i64 0)])]) Q9P
abbrev Q9U:AC:= .seq (.run [(.o 12 (.build [(.int .i64 0),(.int .i64 0)] [(0,(1,(.k (.int .i64 1))))])), .op none none (.store cQ bZ 2)]) .ret
abbrev QA2:AC:= .par [.m 21 bF, .o 22 (.aq bh 0), .o 23 (.load c9 false 1), .o 24 (.load aY true 2), .o 25 (.aq bh 0), .o 26 (.load cW false 1), .c 27 qR [cU,dP], .op none none (.yf cM da dH)] [(3,0),(4,0),(5,0),(6,0),(0,0),(1,0),(2,1),(7,0)]
abbrev QA6:AC:= .seq (.block 1 (.seq (.run [.o 19 (.bA b9 cy 5), .o 20 (.load cD true 5), .o 5 (.alloc [(.str []),(.slice .full 0 []),(.slice .full 0 []),(.slice .full 0 []),(.slice .full 0 [])]), .op none none (.store bh cR 5)]) QA2)) (.run [.o 28 (.bin .add cy (.k (.int .i64 1))), .m 17 dY])
abbrev QAA:AC:= .block 0 (.loop (.seq (.run [.o 18 (.bin .lss cy bX)]) (.seq (.cond cr .skip (.exit 0)) QA6)))
abbrev QAI:AC:= .seq (.run [.o 54 (.aq br 0), .o 55 (.aq jS 0), .o 56 (.load jT false 1),(.o 57 (.build [(.int .i64 0),(.int .i64 0)] [(0,(1,(.k (.int .i64 8)))),(1,(1,lb))])), .op none none (.store cQ kL 2)]) .ret
abbrev QAL:AC:= .seq (.run [.o 37 (.bA eJ fh 17), .o 38 (.load fy true 17), .o 7 (.alloc [(.int .i64 0),(.int .i64 0),(.slice .full 0 []),(.str []),(.str []),(.int .i64 0),(.int .i64 0),(.str []),(.slice .full 0 []),(.bool false),(.slice .full 0 []),(.slice .full 0 []),(.slice .full 0 []),(.int .i64 0),(.int .i64 0),(.int .i64 0),(.int .i64 0)]), .op none none (.store br fR 17)]) (.seq (.run [.o 39 (.aq br 0), .o 40 (.aq fM 1), .o 41 (.load gj false 1), .o 42 (.bin .eql ga (.k (.int .i64 4))), .m 43 gO, .g 44 43 true (.aq br 0), .g 45 43 true (.load ic true 13), .g 46 43 true (.mv bF), .g 47 43 true (.aq br 0), .g 48 43 true (.aq jc 4), .g 49 43 true (.load iw false 1), .g 50 43 true (.vH iU iJ (.slice .full 0 [])), .d 51 43 true rN [iT,jn], .g 52 43 true (.un .not jd), .o 53 (.pick gX jC (.k (.bool false)))]) (.cond jD QAI .skip))
abbrev QAP:AC:= .seq (.cond fm .skip (.exit 2)) (.seq (.block 3 QAL) (.run [.o 58 (.bin .add fh (.k (.int .i64 1))), .m 35 ld]))
abbrev QAT:AC:= .seq (.run [.o 29 (.load aY true 2), .c 30 lS [ek], .o 31 (.dv eY), .o 32 (.aq eo 2), .o 33 (.load eZ false 1), .o 34 (.len eJ), .o 35 (.mv (.k (.int .i64 0)))]) (.block 2 (.loop (.seq (.run [.o 36 (.bin .lss fh fb)]) QAP)))
abbrev QAX:AC:= .seq (.seq (.run [.o 14 (.aq aY 1), .o 15 (.load bI false 1), .o 16 (.len b9), .o 17 (.mv (.k (.int .i64 0)))]) QAA) (.seq QAT (.seq (.run [.o 59 (.build [(.int .i64 0),(.int .i64 0)] []), .op none none (.store cQ km 2)]) .ret))
abbrev QAZ:AC:= .seq (.seq (.run [.o 8 (.load aY true 2), .c 9 qd [bP], .o 10 (.rz b8 0 false 1), .o 11 (.bin .neq bS (.k (.int .i64 0)))]) (.cond bG Q9U .skip)) (.seq (.run [.op (some 13) none .tQ, .m 3 bT]) QAX)
abbrev QB0:AC:= .seq (.run [.o 1 (.box aQ), .o 2 (.alloc [(.int .i64 0),(.int .i64 0)])]) QAZ
abbrev QB4:AC:= .par [.o 16 (.build [(.slice .full 0 []),(.slice .full 0 [])] []), .o 17 (.load bh true 2), .op none none (.store cQ bX 2), .op none none (.store bF cy 2)] [(0,0),(2,0),(1,1),(3,0)]
abbrev QBB:AC:= .par [.o 29 (.build [(.slice .full 0 []),(.slice .full 0 [])] []), .m 30 bN, .o 31 (.dv eY), .o 32 (.aq eo 2), .o 33 (.load eZ true 2), .op none none (.store cQ ek 2), .op none none (.store bF eJ 2)] [(0,0),(5,0),(1,0),(2,0),(3,0),(4,1),(6,0)]
abbrev QBH:AC:= .seq (.seq (.run [.m 23 bN, .o 24 (.dv da), .o 25 (.aq cU 2), .o 26 (.aq cW 0), .o 27 (.load dP false 1), .o 28 (.bin .neq dH (.k (.int .i64 0)))]) (.cond dY (.seq QBB .ret) .skip)) (.seq (.run [.o 34 (.load br true 2), .c 35 qf [fb], .o 36 (.build [(.int .i64 0),(.int .i64 0)] []), .op none none (.store cQ fh 2), .op none none (.store bF fm 2)]) .ret)
abbrev QBK:AC:= .seq (.seq (.run [.o 13 (.aq bh 0), .o 14 (.load bT false 1), .o 15 (.bin .neq bI (.k (.int .i64 0)))]) (.cond b9 (.seq QB4 .ret) .skip)) (.seq (.run [.m 18 cu, .o 19 (.build [(.slice .full 0 []),(.int .i64 0),(.int .i64 0),(.int .i64 0),(.int .i64 0)] [(0,(1,cr))]), .o 20 (.box cD), .m 6 cR]) (.seq (.run [.m 21 bN, .c 22 ma [cM], .o 7 (.alloc [(.slice .full 0 []),(.slice .full 0 [])]), .op none none (.store br c9 2)]) QBH))
abbrev QBM:AC:= .seq (.run [.o 2 (.alloc [(.slice .full 0 []),(.slice .full 0 [])]), .o 3 (.alloc [(.int .i64 0),(.int .i64 0)])]) (.seq (.run [.m 9 aQ, .c 10 Al [b8], .m 8 bS, .o 11 (.ext bP 0), .o 12 (.ext bP 1), .o 5 (.alloc [(.int .i64 0),(.int .i64 0)]), .m 4 bG, .op none none (.store bh bZ 2)]) QBK)
abbrev QBR:AC:= .cond bX (.seq (.run [.o 2 (.mv (.k (.bool false)))]) .ret) .skip
abbrev QBV:AC:= .seq (.seq (.run [.m 3 aQ, .o 4 (.lB bF), .o 5 (.bin .lss cu (.k (.int .i64 1))), .m 6 bh, .g 7 6 false (.mv aQ), .g 8 6 false (.lB br), .g 9 6 false (.bin .gtr bP (.k (.int .i64 8))), .o 10 (.pick bN (.k (.bool true)) b8), .m 11 bS, .g 12 11 false (.mv aQ), .g 13 11 false (.oK bZ (.k (.int .i64 0))), .d 14 11 false oY [bT], .g 15 11 false (.un .not bI), .o 16 (.pick bG (.k (.bool true)) b9)]) QBR) (.seq (.run [.m 17 aQ, .c 18 vW [cy,(.k (.int .i64 0))], .m 19 aQ, .o 20 (.lB cD), .o 21 (.bin .eql cr cR), .m 22 cM, .g 23 22 true (.mv aQ), .d 24 22 true ud [da], .g 25 22 true (.un .not cU), .o 26 (.pick c9 cW (.k (.bool false))), .m 2 dP]) .ret)
abbrev QBW:AC:= .seq (.run [.o 2 (.mv (.k (.bool false)))]) QBV
abbrev QC7:AC:= .seq (.block 1 (.seq (.run [.o 11 (.bA br b8 5), .o 12 (.load bG true 5), .o 5 (.alloc [(.str []),(.slice .full 0 []),(.slice .full 0 []),(.slice .full 0 []),(.slice .full 0 [])]), .op none none (.store bh bZ 5)]) (.run [.m 13 bF, .o 14 (.aq bh 3), .o 15 (.load bI false 1), .c 16 ki [b9], .o 17 (.bin .add bT bX), .m 3 cy]))) (.run [.o 18 (.bin .add b8 (.k (.int .i64 1))), .m 9 cr])
abbrev QCB:AC:= .block 0 (.loop (.seq (.run [.o 10 (.bin .lss b8 bP)]) (.seq (.cond bS .skip (.exit 0)) QC7)))
abbrev QCF:AC:= .seq (.seq (.run [.o 6 (.aq aY 1), .o 7 (.load bN false 1), .o 8 (.len br), .o 9 (.mv (.k (.int .i64 0)))]) QCB) (.seq (.run [.m 19 bF, .m 2 cD]) .ret)
abbrev QCH:AC:= .seq (.run [.o 1 (.box aQ), .o 2 (.mv (.k (.int .i64 0)))]) (.seq (.run [.o 3 (.mv (.k (.int .i64 0)))]) QCF)
abbrev QCU:AC:= .seq (.run [.m 13 bF, .o 14 (.load bh true 5), .c 15 kR [bI], .o 16 (.app 16 232 bT b9), .m 3 bX]) (.seq (.run [.m 17 bF, .o 18 (.len cy), .o 19 (.bin .gtr cr (.k (.int .i64 200)))]) (.cond cD (.seq (.run [.m 20 bF, .m 2 cR]) .ret) .skip))
abbrev QCY:AC:= .seq (.block 1 (.seq (.run [.o 11 (.bA br b8 5), .o 12 (.load bG true 5), .o 5 (.alloc [(.str []),(.slice .full 0 []),(.slice .full 0 []),(.slice .full 0 []),(.slice .full 0 [])]), .op none none (.store bh bZ 5)]) QCU)) (.run [.o 21 (.bin .add b8 (.k (.int .i64 1))), .m 9 cM])
abbrev QD2:AC:= .block 0 (.loop (.seq (.run [.o 10 (.bin .lss b8 bP)]) (.seq (.cond bS .skip (.exit 0)) QCY)))
abbrev QD6:AC:= .seq (.seq (.run [.o 6 (.aq aY 1), .o 7 (.load bN false 1), .o 8 (.len br), .o 9 (.mv (.k (.int .i64 0)))]) QD2) (.seq (.run [.m 22 bF, .m 2 c9]) .ret)
abbrev QD8:AC:= .seq (.run [.o 1 (.box aQ), .o 2 (.mv (.k (.slice .full 0 [])))]) (.seq (.run [.o 3 (.mv (.k (.slice .full 0 [])))]) QD6)
abbrev QDH:AC:= .cond bX (.seq (.run [.o 4 (.mv (.k (.bool true)))]) .ret) .skip
abbrev QDM:AC:= .seq (.block 1 (.seq (.run [.m 10 bP, .m 5 bS]) (.seq (.run [.m 11 aQ, .m 12 bh, .o 13 (.bA bG bZ 1), .o 14 (.load bT false 1), .m 15 aY, .o 16 (.bin .eql bI b9)]) QDH))) (.run [.o 17 (.bin .add bP (.k (.int .i64 1))), .m 8 cy])
abbrev QDQ:AC:= .block 0 (.loop (.seq (.run [.o 9 (.bin .lss bP br)]) (.seq (.cond b8 .skip (.exit 0)) QDM)))
abbrev QDU:AC:= .seq (.seq (.run [.m 6 aQ, .o 7 (.len bN), .o 8 (.mv (.k (.int .i64 0)))]) QDQ) (.seq (.run [.o 4 (.mv (.k (.bool false)))]) .ret)
abbrev QDV:AC:= .seq (.run [.o 4 (.mv (.k (.bool false)))]) QDU
end Go.Abs

/-! Have0 -/

namespace Go.Abs
open Go.Proofs
theorem sR:Has Tryz.prog uR 20 [(2,none)] Q0F:=⟨Tryz.f3,by kernel_rfl,by kernel_rfl⟩
theorem By:Has Tryz.prog qN 26 [(0,none)] Q0L:=⟨Tryz.f12,by kernel_rfl,by kernel_rfl⟩
theorem GD:Has Tryz.prog wS 61 [(2,none)] Q1L:=⟨Tryz.f13,by kernel_rfl,by kernel_rfl⟩
theorem n4:Has Tryz.prog n9 26 [(2,(some (true,2)))] Q2C:=⟨Tryz.f14,by kernel_rfl,by kernel_rfl⟩
theorem qZ:Has Tryz.prog ub 22 [(2,(some (true,2)))] Q2X:=⟨Tryz.f15,by kernel_rfl,by kernel_rfl⟩
theorem GF:Has Tryz.prog sk 7 [(2,none)] Q31:=⟨Tryz.f16,by kernel_rfl,by kernel_rfl⟩
theorem EE:Has Tryz.prog uS 7 [(2,none)] Q35:=⟨Tryz.f17,by kernel_rfl,by kernel_rfl⟩
theorem rS:Has Tryz.prog uT 23 [(2,(some (true,2))),(3,(some (true,2)))] Q3M:=⟨Tryz.f19,by kernel_rfl,by kernel_rfl⟩
theorem II:Has Tryz.prog uc 79 [(2,none)] Q56:=⟨Tryz.f22,by kernel_rfl,by kernel_rfl⟩
theorem vX:Has Tryz.prog lG 96 [(2,(some (true,2)))] Q7B:=⟨Tryz.f23,by kernel_rfl,by kernel_rfl⟩
theorem vY:Has Tryz.prog qd 37 [(2,(some (true,2)))] Q84:=⟨Tryz.f24,by kernel_rfl,by kernel_rfl⟩
theorem xF:Has Tryz.prog uU 64 [(2,(some (true,2)))] Q9Q:=⟨Tryz.f25,by kernel_rfl,by kernel_rfl⟩
theorem vZ:Has Tryz.prog s9 60 [(2,(some (true,2)))] QB0:=⟨Tryz.f26,by kernel_rfl,by kernel_rfl⟩
theorem De:Has Tryz.prog ta 37 [(2,(some (true,2))),(3,(some (true,2)))] QBM:=⟨Tryz.f27,by kernel_rfl,by kernel_rfl⟩
theorem mX:Has Tryz.prog nE 27 [(2,none)] QBW:=⟨Tryz.f28,by kernel_rfl,by kernel_rfl⟩
theorem EF:Has Tryz.prog uV 20 [(2,none)] QCH:=⟨Tryz.f33,by kernel_rfl,by kernel_rfl⟩
theorem IJ:Has Tryz.prog qO 23 [(2,none)] QD8:=⟨Tryz.f38,by kernel_rfl,by kernel_rfl⟩
theorem Kn:Has Tryz.prog kg 18 [(4,none)] QDV:=⟨Tryz.f39,by kernel_rfl,by kernel_rfl⟩
end Go.Abs

/-! Codes1 -/

namespace Go.Abs
abbrev QDX:AC:= .run [.o 0 (.mv (.k (.str [103,108,111,98,97,108,32,103,59,10,112,114,111,99,32,109,97,105,110,40,41,32,123,10,32,118,97,114,32,118,59,10,32,118,32,61,32,50,59,10,32,103,32,61,32,112,40,51,44,32,114,101,102,32,118,41,59,10,32,112,114,105,110,116,32,118,59,10,32,112,114,105,110,116,32,103,59,10,125,10,112,114,111,99,32,112,40,120,44,32,114,101,102,32,121,41,32,123,10,32,121,32,61,32,121,32,43,32,120,59,10,32,105,102,32,40,121,32,62,32,57,41,32,123,10,32,32,103,111,116,111,32,101,59,10,32,125,10,32,114,101,116,117,114,110,32,121,59,10,101,58,32,125,10])))]
abbrev QDZ:AC:= .seq (.run [.o 0 (.mv (.k (.str [])))]) (.seq QDX .ret)
abbrev QE1:AC:= .run [(.o 3 (.cG [(.str [])] 1 1 [(0,(.k (.str [118])))])), .c 4 qS [(.k (.int .i64 2))],(.o 5 (.build [(.int .i64 0),(.int .i64 0),(.slice .full 0 []),(.str []),(.str []),(.int .i64 0),(.int .i64 0),(.str []),(.slice .full 0 []),(.bool false),(.slice .full 0 []),(.slice .full 0 []),(.slice .full 0 [])] [(0,(1,(.k (.int .i64 1)))),(1,(1,(.k (.int .i64 1)))),(3,(1,(.k (.str [118])))),(5,(4,cu))])), .c 6 qS [(.k (.int .i64 3))], .o 7 (.build [(.bool false),(.str []),(.int .i64 0),(.int .i64 0),(.str []),(.slice .full 0 [])] [(2,(4,bN))]),(.o 8 (.build [(.bool false),(.str []),(.int .i64 0),(.int .i64 0),(.str []),(.slice .full 0 [])] [(0,(1,(.k (.bool true)))),(1,(1,(.k (.str [118]))))])), .o 9 (.cG [(.bool false),(.str []),(.int .i64 0),(.int .i64 0),(.str []),(.slice .full 0 [])] 6 2 [(0,br),(1,bP)]),(.o 10 (.build [(.int .i64 0),(.int .i64 0),(.slice .full 0 []),(.str []),(.str []),(.int .i64 0),(.int .i64 0),(.str []),(.slice .full 0 []),(.bool false),(.slice .full 0 []),(.slice .full 0 []),(.slice .full 0 [])] [(0,(1,(.k (.int .i64 2)))),(1,(1,(.k (.int .i64 4)))),(3,(1,(.k (.str [103])))),(4,(1,(.k (.str [112])))),(10,(1,b8))])),(.c 11 kS [(.k (.str [118]))]),(.o 12 (.build [(.int .i64 0),(.int .i64 0),(.slice .full 0 []),(.str []),(.str []),(.int .i64 0),(.int .i64 0),(.str []),(.slice .full 0 []),(.bool false),(.slice .full 0 []),(.slice .full 0 []),(.slice .full 0 [])] [(0,(1,(.k (.int .i64 3)))),(1,(1,(.k (.int .i64 3)))),(5,(4,bG))])),(.c 13 kS [(.k (.str [103]))]),(.o 14 (.build [(.int .i64 0),(.int .i64 0),(.slice .full 0 []),(.str []),(.str []),(.int .i64 0),(.int .i64 0),(.str []),(.slice .full 0 []),(.bool false),(.slice .full 0 []),(.slice .full 0 []),(.slice .full 0 [])] [(0,(1,(.k (.int .i64 4)))),(1,(1,(.k (.int .i64 3)))),(5,(4,bT))])), .o 15 (.cG [(.int .i64 0),(.int .i64 0),(.slice .full 0 []),(.str []),(.str []),(.int .i64 0),(.int .i64 0),(.str []),(.slice .full 0 []),(.bool false),(.slice .full 0 []),(.slice .full 0 []),(.slice .full 0 [])] 13 4 [(0,bh),(1,bS),(2,bZ),(3,bI)]),(.o 16 (.build [(.str []),(.slice .full 0 []),(.slice .full 0 []),(.slice .full 0 []),(.slice .full 0 [])] [(0,(1,(.k (.str [109,97,105,110])))),(2,(1,bF)),(3,(1,b9))])), .o 1 (.alloc [(.str []),(.slice .full 0 []),(.slice .full 0 []),(.slice .full 0 []),(.slice .full 0 [])]), .op none none (.store aY bX 5)]
abbrev QE2:AC:= .run [(.o 17 (.build [(.str []),(.bool false)] [(0,(1,(.k (.str [120]))))])),(.o 18 (.build [(.str []),(.bool false)] [(0,(1,(.k (.str [121])))),(1,(1,(.k (.bool true))))])), .o 19 (.cG [(.str []),(.bool false)] 2 2 [(0,cy),(1,cr)]),(.o 20 (.cG [(.str [])] 1 1 [(0,(.k (.str [101])))])),(.c 21 kS [(.k (.str [121]))]),(.c 22 kS [(.k (.str [120]))]), .c 23 uf [(.k (.int .i64 8)),cM,c9],(.o 24 (.build [(.int .i64 0),(.int .i64 0),(.slice .full 0 []),(.str []),(.str []),(.int .i64 0),(.int .i64 0),(.str []),(.slice .full 0 []),(.bool false),(.slice .full 0 []),(.slice .full 0 []),(.slice .full 0 [])] [(0,(1,(.k (.int .i64 5)))),(1,(1,(.k (.int .i64 1)))),(3,(1,(.k (.str [121])))),(5,(4,da))])),(.c 25 kS [(.k (.str [121]))]), .c 26 qS [(.k (.int .i64 9))], .c 27 uf [(.k (.int .i64 12)),cW,dP],(.o 28 (.build [(.int .i64 0),(.int .i64 0),(.slice .full 0 []),(.str []),(.str []),(.int .i64 0),(.int .i64 0),(.str []),(.slice .full 0 []),(.bool false),(.slice .full 0 []),(.slice .full 0 []),(.slice .full 0 [])] [(0,(1,(.k (.int .i64 7)))),(1,(1,(.k (.int .i64 10)))),(3,(1,(.k (.str [101]))))])), .o 29 (.cG [(.int .i64 0),(.int .i64 0),(.slice .full 0 []),(.str []),(.str []),(.int .i64 0),(.int .i64 0),(.str []),(.slice .full 0 []),(.bool false),(.slice .full 0 []),(.slice .full 0 []),(.slice .full 0 [])] 13 1 [(0,dY)]),(.o 30 (.build [(.int .i64 0),(.int .i64 0),(.slice .full 0 []),(.str []),(.str []),(.int .i64 0),(.int .i64 0),(.str []),(.slice .full 0 []),(.bool false),(.slice .full 0 []),(.slice .full 0 []),(.slice .full 0 [])] [(0,(1,(.k (.int .i64 6)))),(1,(1,(.k (.int .i64 5)))),(5,(4,dH)),(11,(1,ek))])),(.c 31 kS [(.k (.str [121]))]),(.o 32 (.build [(.int .i64 0),(.int .i64 0),(.slice .full 0 []),(.str []),(.str []),(.int .i64 0),(.int .i64 0),(.str []),(.slice .full 0 []),(.bool false),(.slice .full 0 []),(.slice .full 0 []),(.slice .full 0 [])] [(0,(1,(.k (.int .i64 8)))),(1,(1,(.k (.int .i64 9)))),(9,(1,(.k (.bool true)))),(5,(4,eo))])), .o 33 (.cG [(.int .i64 0),(.int .i64 0),(.slice .full 0 []),(.str []),(.str []),(.int .i64 0),(.int .i64 0),(.str []),(.slice .full 0 []),(.bool false),(.slice .full 0 []),(.slice .full 0 []),(.slice .full 0 [])] 13 3 [(0,cU),(1,eY),(2,eZ)]),(.o 34 (.build [(.str []),(.slice .full 0 []),(.slice .full 0 []),(.slice .full 0 []),(.slice .full 0 [])] [(0,(1,(.k (.str [112])))),(1,(1,cD)),(4,(1,cR)),(3,(1,eJ))])), .o 2 (.alloc [(.str []),(.slice .full 0 []),(.slice .full 0 []),(.slice .full 0 []),(.slice .full 0 [])]), .op none none (.store cQ fb 5)]
abbrev QE4:AC:= .seq (.run [(.o 35 (.cG [(.str [])] 1 1 [(0,(.k (.str [103])))])), .o 36 (.load aY true 5), .o 37 (.load cQ true 5), .o 38 (.cG [(.str []),(.slice .full 0 []),(.slice .full 0 []),(.slice .full 0 []),(.slice .full 0 [])] 5 2 [(0,fm),(1,fy)]), .o 39 (.build [(.slice .full 0 []),(.slice .full 0 [])] [(0,(1,fh)),(1,(1,fR))]), .op none none (.store aQ fM 2)]) .ret
abbrev QE7:AC:= .seq (.run [.o 0 (.alloc [(.slice .full 0 []),(.slice .full 0 [])])]) (.seq QE1 (.seq QE2 QE4))
abbrev QEH:AC:= .seq (.seq (.run [.m 6 bh, .m 7 aQ, .o 8 (.len br), .o 9 (.bin .lss bN bP), .m 10 b8, .g 11 10 true (.mv aY), .g 12 10 true (.bin .leq bG (.k (.int .i64 20000))), .o 13 (.pick bS bZ (.k (.bool false)))]) (.cond bT .skip (.exit 0))) (.seq (.block 1 (.run [.m 16 aQ, .m 17 bh, .o 18 (.bA bX cy 1), .o 19 (.load cr false 1), .m 20 aY, .c 21 gh [cD,cR], .m 1 cM])) (.run [.m 14 bh, .o 15 (.bin .add bI (.k (.int .i64 1))), .m 5 b9]))
abbrev QEN:AC:= .seq (.seq (.run [.o 5 (.mv (.k (.int .i64 0)))]) (.block 0 (.loop QEH))) (.seq (.run [.m 22 aY, .m 4 c9]) .ret)
abbrev QEO:AC:= .seq (.run [.o 4 (.mv (.k (.int .i64 0)))]) QEN
abbrev QET:AC:= .cond bT (.seq (.run [.o 4 (.mv (.k (.int .i64 20001)))]) .ret) .skip
abbrev QEX:AC:= .seq (.seq (.run [.m 5 aY, .o 6 (.bin .gtr bh (.k (.int .i64 20000))), .m 7 bN, .g 8 7 false (.mv aQ), .g 9 7 false (.lB bP), .g 10 7 false (.mv aY), .g 11 7 false (.bin .sub (.k (.int .i64 20000)) bS), .g 12 7 false (.bin .geq b8 bG), .o 13 (.pick br (.k (.bool true)) bZ)]) QET) (.seq (.run [.m 14 aY, .o 15 (.bin .add bI (.k (.int .i64 1))), .m 16 aQ, .o 17 (.lB bX), .o 18 (.bin .add b9 cy), .m 4 cr]) .ret)
abbrev QEY:AC:= .seq (.run [.o 4 (.mv (.k (.int .i64 0)))]) QEX
abbrev QF5:AC:= .par [.o 22 (.aq bN 4), .o 23 (.load c9 false 1), .o 24 (.aq bN 3), .o 25 (.load cU false 1), .o 26 (.aq bN 2), .o 27 (.load dP false 1), .o 28 (.aq bN 5), .o 29 (.load dY true 4), .m 30 aY, .c 31 jQ [ek,eY], .c 32 ju [dH,eo], .c 33 gh [cW,eZ], .c 34 gh [da,eJ], .m 1 fb] [(6,0),(7,0),(8,0),(9,0),(4,0),(5,1),(10,0),(2,0),(3,2),(11,0),(0,0),(1,3),(12,0),(13,0)]
abbrev QFA:AC:= .par [.o 46 (.aq bN 10), .o 47 (.load iU false 1), .m 48 br, .o 49 (.bA jc iw 6), .o 50 (.aq iJ 1), .o 51 (.load jn false 1), .o 52 (.aq bN 10), .o 53 (.load jC false 1), .m 54 br, .o 55 (.bA jD jS 6), .o 56 (.aq jT 2), .o 57 (.load lb true 4), .m 58 aY, .c 59 jQ [kL,ld], .c 60 gh [jd,km], .m 1 nH] [(6,0),(7,0),(8,0),(9,0),(10,0),(11,0),(12,0),(13,0),(0,0),(1,1),(2,0),(3,0),(4,0),(5,1),(14,0),(15,0)]
abbrev QFE:AC:= .seq (.seq (.run [.m 35 br, .o 36 (.aq bN 10), .o 37 (.load fm false 1), .o 38 (.len fy), .o 39 (.bin .lss fh fR), .m 40 fM, .g 41 40 true (.mv aY), .g 42 40 true (.bin .leq ga (.k (.int .i64 20000))), .o 43 (.pick gj gO (.k (.bool false)))]) (.cond gX .skip (.exit 2))) (.seq (.block 3 QFA) (.run [.m 44 br, .o 45 (.bin .add ic (.k (.int .i64 1))), .m 7 iT]))
abbrev QFI:AC:= .par [.o 61 (.aq bN 12), .o 62 (.load oi false 1), .o 63 (.aq bN 11), .o 64 (.load nI false 1), .m 65 aY, .c 66 kD [pM,rP], .c 67 kD [o3,tr], .m 1 rQ] [(2,0),(3,0),(4,0),(5,0),(0,0),(1,1),(6,0),(7,0)]
abbrev QFJ:AC:= .seq (.seq (.run [.o 7 (.mv (.k (.int .i64 0)))]) (.block 2 (.loop QFE))) QFI
abbrev QFO:AC:= .seq (.block 1 (.seq (.run [.m 18 aQ, .m 19 bh, .o 20 (.bA cr cD 13), .o 21 (.load cR true 13), .o 6 (.alloc [(.int .i64 0),(.int .i64 0),(.slice .full 0 []),(.str []),(.str []),(.int .i64 0),(.int .i64 0),(.str []),(.slice .full 0 []),(.bool false),(.slice .full 0 []),(.slice .full 0 []),(.slice .full 0 [])]), .op none none (.store bN cM 13)]) (.seq QF5 QFJ))) (.run [.m 16 bh, .o 17 (.bin .add bX (.k (.int .i64 1))), .m 5 cy])
abbrev QFP:AC:= .seq (.seq (.run [.m 8 bh, .m 9 aQ, .o 10 (.len b8), .o 11 (.bin .lss bP bS), .m 12 bG, .g 13 12 true (.mv aY), .g 14 12 true (.bin .leq bT (.k (.int .i64 20000))), .o 15 (.pick bZ bI (.k (.bool false)))]) (.cond b9 .skip (.exit 0))) QFO
abbrev QFV:AC:= .seq (.seq (.run [.o 5 (.mv (.k (.int .i64 0)))]) (.block 0 (.loop QFP))) (.seq (.run [.m 68 aY, .m 4 rR]) .ret)
abbrev QFW:AC:= .seq (.run [.o 4 (.mv (.k (.int .i64 0)))]) QFV
abbrev QG2:AC:= .seq (.run [.o 14 (.load aY true 2), .c 15 yu [bI], .o 16 (.un .not b9)]) (.cond bX (.seq (.run [.c 17 gW [(.k (.int .i64 1)),(.k (.int .i64 0))], .op none none (.store cQ cy 2)]) .ret) .skip)
abbrev QGC:AC:= .seq (.block 1 (.seq (.run [.o 23 (.bA cD cM 5), .o 24 (.load da true 5), .o 5 (.alloc [(.str []),(.slice .full 0 []),(.slice .full 0 []),(.slice .full 0 []),(.slice .full 0 [])]), .op none none (.store bh cU 5)]) (.run [.m 25 bF, .o 26 (.aq bh 0), .o 27 (.load dP false 1), .o 28 (.cG [(.str [])] 1 1 [(0,dH)]), .o 29 (.app 1 16 cW dY), .m 3 ek]))) (.run [.o 30 (.bin .add cM (.k (.int .i64 1))), .m 21 eY])
abbrev QGG:AC:= .block 0 (.loop (.seq (.run [.o 22 (.bin .lss cM cR)]) (.seq (.cond c9 .skip (.exit 0)) QGC)))
abbrev QGN:AC:= .seq (.run [.o 36 (.aq aY 0), .o 37 (.load fm false 1), .c 38 kj [fy], .m 39 fR, .g 40 39 false (.mv bF), .d 41 39 false kj [gj], .o 42 (.pick fM (.k (.bool true)) ga), .m 43 gO, .g 44 43 false (.mv br), .g 45 43 false (.un .not ic), .o 46 (.pick gX (.k (.bool true)) iT), .m 47 iU, .g 48 47 false (.aq bN 1), .g 49 47 false (.load iw false 1), .g 50 47 false (.len iJ), .g 51 47 false (.bin .gtr jn (.k (.int .i64 0))), .o 52 (.pick jc (.k (.bool true)) jd)]) (.cond jC (.seq (.run [.c 53 gW [(.k (.int .i64 5)),(.k (.int .i64 0))], .op none none (.store cQ jD 2)]) .ret) .skip)
abbrev QGS:AC:= .par [.o 61 (.cG [(.str [])] 1 0 []), .o 62 (.aq aY 0), .o 63 (.load o3 false 1), .o 64 (.app 1 16 oi nI), .o 65 (.load b8 true 5), .c 66 td [rP], .o 67 (.app 1 16 pM tr), .o 68 (.aq b8 2), .o 69 (.load rR false 1), .o 70 (.app 1 16 rQ vg), .c 71 kj [tt]] [(0,0),(1,0),(2,0),(3,0),(4,1),(5,0),(6,0),(7,0),(8,3),(9,0),(10,0)]
abbrev QGW:AC:= .seq QGS (.cond yy (.seq (.run [.c 72 gW [(.k (.int .i64 5)),(.k (.int .i64 0))], .op none none (.store cQ w7 2)]) .ret) .skip)
abbrev QH9:AC:= .seq (.run [.o 88 (.load aY true 2), .o 89 (.load b8 true 5), .m 90 bT, .c 91 wV [Ez,EA,EB], .o 92 (.bin .eql EC (.k (.int .i64 0)))]) (.cond ED (.seq (.run [.o 93 (.aq bG 0), .o 94 (.aq IE 0), .o 95 (.load IF false 1), .c 96 gW [(.k (.int .i64 5)),IG], .op none none (.store cQ Nn 2)]) .ret) .skip)
abbrev QHE:AC:= .seq (.cond Ev .skip (.exit 6)) (.seq (.block 7 (.seq (.run [.o 86 (.bA Ao Ap 1), .o 87 (.load Ew false 1), .m 13 Ey]) QH9)) (.run [.o 97 (.bin .add Ap (.k (.int .i64 1))), .m 84 No]))
abbrev QHI:AC:= .seq (.run [.o 80 (.aq bG 0), .o 81 (.load yC true 13), .c 82 sn [Co], .o 83 (.len Ao), .o 84 (.mv (.k (.int .i64 0)))]) (.block 6 (.loop (.seq (.run [.o 85 (.bin .lss Ap Cp)]) QHE)))
abbrev QHN:AC:= .seq (.run [.o 98 (.aq bG 0), .o 99 (.aq Np 1), .o 100 (.load Nq false 1), .o 101 (.bin .eql Hh (.k (.int .i64 4))), .m 102 Hi, .g 103 102 true (.aq bG 0), .g 104 102 true (.aq Hk 4), .g 105 102 true (.load Hl false 1), .g 106 102 true (.bin .eql Hm (.k (.str [109,97,105,110]))), .g 107 102 true (.mv Hn), .g 108 107 false (.mv bF), .g 109 107 false (.aq bG 0), .g 110 107 false (.aq Hq 4), .g 111 107 false (.load Nr false 1), .d 112 107 false kg [Hp,Ns], .g 113 107 false (.un .not Nt), .g 114 102 true (.pick Ho (.k (.bool true)) Nu), .o 115 (.pick Hj Nv (.k (.bool false)))]) (.cond Nw (.seq (.run [.o 116 (.aq bG 0), .o 117 (.aq Nx 0), .o 118 (.load Ny false 1), .c 119 gW [(.k (.int .i64 5)),Nz], .op none none (.store cQ NA 2)]) .ret) .skip)
abbrev QHS:AC:= .seq (.block 5 (.seq (.run [.o 78 (.bA w8 tu 16), .o 79 (.load w9 true 16), .o 11 (.alloc [(.int .i64 0),(.int .i64 0),(.slice .full 0 []),(.str []),(.str []),(.int .i64 0),(.int .i64 0),(.str []),(.slice .full 0 []),(.bool false),(.slice .full 0 []),(.slice .full 0 []),(.slice .full 0 []),(.int .i64 0),(.int .i64 0),(.bool false)]), .op none none (.store bG Cn 16)]) (.seq QHI QHN))) (.run [.o 120 (.bin .add tu (.k (.int .i64 1))), .m 76 NB])
abbrev QHW:AC:= .block 4 (.loop (.seq (.run [.o 77 (.bin .lss tu yA)]) (.seq (.cond yB .skip (.exit 4)) QHS)))
abbrev QHY:AC:= .seq QGW (.seq (.run [.o 73 (.load b8 true 5), .c 74 kR [yz], .o 75 (.len w8), .o 76 (.mv (.k (.int .i64 0)))]) QHW)
abbrev QI2:AC:= .seq (.block 3 (.seq (.run [.o 59 (.bA jT kL 5), .o 60 (.load km true 5), .o 9 (.alloc [(.str []),(.slice .full 0 []),(.slice .full 0 []),(.slice .full 0 []),(.slice .full 0 [])]), .op none none (.store b8 nH 5)]) QHY)) (.run [.o 121 (.bin .add kL (.k (.int .i64 1))), .m 57 NC])
abbrev QI6:AC:= .block 2 (.loop (.seq (.run [.o 58 (.bin .lss kL lb)]) (.seq (.cond ld .skip (.exit 2)) QI2)))
abbrev QIA:AC:= .seq (.seq (.run [.o 54 (.aq aY 1), .o 55 (.load jS false 1), .o 56 (.len jT), .o 57 (.mv (.k (.int .i64 0)))]) QI6) (.seq (.run [.o 122 (.build [(.int .i64 0),(.int .i64 0)] []), .op none none (.store cQ ND 2)]) .ret)
abbrev QID:AC:= .seq (.seq (.run [.o 18 (.aq aY 1), .o 19 (.load cr false 1), .o 20 (.len cD), .o 21 (.mv (.k (.int .i64 0)))]) QGG) (.seq (.run [.o 32 (.load aY true 2),(.c 33 k9 [eZ,(.k (.str [109,97,105,110]))]), .m 31 eJ, .o 34 (.ext eo 0), .o 35 (.ext eo 1), .o 6 (.alloc [(.str []),(.slice .full 0 []),(.slice .full 0 []),(.slice .full 0 []),(.slice .full 0 [])]), .op none none (.store bN fb 5), .m 7 fh]) (.seq QGN QIA))
abbrev QIF:AC:= .seq QG2 (.seq (.run [.o 3 (.mv (.k (.slice .full 0 [])))]) QID)
abbrev QIG:AC:= .seq (.run [.o 1 (.box aQ), .o 2 (.alloc [(.int .i64 0),(.int .i64 0)])]) QIF
abbrev QIQ:AC:= .seq (.run [.o 12 (.aq cu 0), .o 13 (.aq bZ 1), .o 14 (.load bT false 1), .o 15 (.bin .eql bI (.k (.int .i64 4))), .m 16 b9, .g 17 16 true (.load aY true 2), .g 18 16 true (.aq cu 0), .g 19 16 true (.load cr true 13), .d 20 16 true oy [cy,cD], .g 21 16 true (.un .not cR), .o 22 (.pick bX cM (.k (.bool false)))]) (.cond c9 (.seq (.run [.o 23 (.aq cu 0), .o 24 (.aq da 0), .o 25 (.load cU false 1), .c 26 gW [(.k (.int .i64 6)),cW], .op none none (.store cQ dP 2)]) .ret) .skip)
abbrev QIU:AC:= .seq (.block 1 (.seq (.run [.o 10 (.bA bN bP 16), .o 11 (.load bS true 16), .o 4 (.alloc [(.int .i64 0),(.int .i64 0),(.slice .full 0 []),(.str []),(.str []),(.int .i64 0),(.int .i64 0),(.str []),(.slice .full 0 []),(.bool false),(.slice .full 0 []),(.slice .full 0 []),(.slice .full 0 []),(.int .i64 0),(.int .i64 0),(.bool false)]), .op none none (.store cu bG 16)]) QIQ)) (.run [.o 27 (.bin .add bP (.k (.int .i64 1))), .m 8 dH])
abbrev QIY:AC:= .block 0 (.loop (.seq (.run [.o 9 (.bin .lss bP br)]) (.seq (.cond b8 .skip (.exit 0)) QIU)))
abbrev QJ2:AC:= .seq (.seq (.run [.o 5 (.load aY true 2), .c 6 qO [bh], .o 7 (.len bN), .o 8 (.mv (.k (.int .i64 0)))]) QIY) (.seq (.run [.o 28 (.build [(.int .i64 0),(.int .i64 0)] []), .op none none (.store cQ dY 2)]) .ret)
abbrev QJ3:AC:= .seq (.run [.o 1 (.box aQ), .o 2 (.alloc [(.int .i64 0),(.int .i64 0)])]) QJ2
abbrev QJL:AC:= .cond gX (.seq (.run [.m 45 bN, .o 46 (.aq bP 0), .o 47 (.aq iU 0), .o 48 (.load jc false 1), .c 49 tf [iT,iw], .m 44 iJ, .o 50 (.ext ic 0), .o 51 (.ext ic 1), .m 10 jn, .m 11 jd]) (.run [.m 52 b8, .m 53 jC, .g 54 53 false (.mv bG), .g 55 53 false (.un .not jS), .o 56 (.pick jD (.k (.bool true)) jT), .m 9 lb])) .skip
abbrev QJN:AC:= .par [.o 57 (.aq bP 0), .o 58 (.aq kL 1), .o 59 (.load ld false 1), .o 60 (.bin .eql km (.k (.int .i64 10))), .m 61 nH, .g 62 61 true (.load cu true 5), .d 63 61 true tg [o3], .g 64 61 true (.aq bP 0), .g 65 61 true (.aq pM 3), .g 66 61 true (.load rP false 1), .d 67 61 true kg [nI,tr], .g 68 61 true (.un .not rQ), .o 69 (.pick oi rR (.k (.bool false)))] [(0,0),(1,0),(2,0),(3,0),(4,0),(5,0),(6,0),(7,0),(8,0),(9,1),(10,0),(11,0),(12,0)]
abbrev QJQ:AC:= .seq QJN (.cond vg (.run [.o 9 (.mv (.k (.bool true)))]) .skip)
abbrev QJV:AC:= .seq (.run [.m 70 b8]) (.cond tt (.seq (.run [.o 71 (.aq bP 0), .o 72 (.aq yy 0), .o 73 (.load w7 false 1), .c 74 gW [(.k (.int .i64 7)),yz], .op none none (.store cQ w8 2)]) .ret) .skip)
abbrev QJX:AC:= .seq (.seq (.run [.o 34 (.aq bP 0), .o 35 (.aq fb 1), .o 36 (.load fh false 1), .o 37 (.bin .eql fm (.k (.int .i64 7))), .m 38 fy, .g 39 38 false (.aq bP 0), .g 40 38 false (.aq fM 1), .g 41 38 false (.load gj false 1), .g 42 38 false (.bin .eql ga (.k (.int .i64 8))), .o 43 (.pick fR (.k (.bool true)) gO)]) QJL) (.seq QJQ QJV)
abbrev QK3:AC:= .seq (.block 3 (.seq (.run [.o 25 (.bA cM da 16), .o 26 (.load cW true 16), .o 8 (.alloc [(.int .i64 0),(.int .i64 0),(.slice .full 0 []),(.str []),(.str []),(.int .i64 0),(.int .i64 0),(.str []),(.slice .full 0 []),(.bool false),(.slice .full 0 []),(.slice .full 0 []),(.slice .full 0 []),(.int .i64 0),(.int .i64 0),(.bool false)]), .op none none (.store bP dP 16)]) (.seq (.run [.m 27 bh, .o 28 (.aq bP 0), .o 29 (.aq dY 2), .o 30 (.load ek false 1), .o 31 (.app 1 16 dH eY), .m 5 eo]) (.seq (.run [.m 32 bh, .c 33 kj [eZ], .m 9 eJ]) QJX)))) (.run [.o 75 (.bin .add da (.k (.int .i64 1))), .m 23 yA])
abbrev QK7:AC:= .block 2 (.loop (.seq (.run [.o 24 (.bin .lss da c9)]) (.seq (.cond cU .skip (.exit 2)) QK3)))
abbrev QKD:AC:= .seq (.run [.m 76 bh, .o 77 (.aq cu 4), .o 78 (.load yB false 1), .o 79 (.app 1 16 tu w9), .c 80 kj [Cn]]) (.cond yC (.seq (.run [.c 81 gW [(.k (.int .i64 7)),(.k (.int .i64 0))], .op none none (.store cQ Co 2)]) .ret) .skip)
abbrev QKE:AC:= .seq (.seq (.run [.m 21 bN, .o 22 (.len cM), .o 23 (.mv (.k (.int .i64 0)))]) QK7) QKD
abbrev QKH:AC:= .seq (.run [.o 17 (.bA bT b9 5), .o 18 (.load cy true 5), .o 4 (.alloc [(.str []),(.slice .full 0 []),(.slice .full 0 []),(.slice .full 0 []),(.slice .full 0 [])]), .op none none (.store cu cr 5)]) (.seq (.run [.o 5 (.mv (.k (.slice .full 0 [])))]) (.seq (.run [.o 19 (.load cu true 5), .c 20 kR [cD], .m 6 cR]) QKE))
abbrev QKL:AC:= .seq (.cond bX .skip (.exit 0)) (.seq (.block 1 QKH) (.run [.o 82 (.bin .add b9 (.k (.int .i64 1))), .m 15 Ao]))
abbrev QKP:AC:= .seq (.run [.o 12 (.aq aY 1), .o 13 (.load bZ false 1), .o 14 (.len bT), .o 15 (.mv (.k (.int .i64 0)))]) (.block 0 (.loop (.seq (.run [.o 16 (.bin .lss b9 bI)]) QKL)))
abbrev QKT:AC:= .seq (.run [.o 1 (.box aQ), .o 2 (.alloc [(.int .i64 0),(.int .i64 0)])]) (.seq QKP (.seq (.run [.o 83 (.build [(.int .i64 0),(.int .i64 0)] []), .op none none (.store cQ Cp 2)]) .ret))
abbrev QL3:AC:= .seq (.run [.o 12 (.aq cu 0), .o 13 (.aq bZ 1), .o 14 (.load bT false 1), .o 15 (.bin .eql bI (.k (.int .i64 4))), .m 16 b9, .g 17 16 true (.load aY true 2), .g 18 16 true (.aq cu 0), .g 19 16 true (.load cr true 13), .d 20 16 true u6 [cy,cD], .g 21 16 true (.un .not cR), .o 22 (.pick bX cM (.k (.bool false)))]) (.cond c9 (.seq (.run [.o 23 (.aq cu 0), .o 24 (.aq da 0), .o 25 (.load cU false 1), .c 26 gW [(.k (.int .i64 8)),cW], .op none none (.store cQ dP 2)]) .ret) .skip)
abbrev QL7:AC:= .seq (.block 1 (.seq (.run [.o 10 (.bA bN bP 16), .o 11 (.load bS true 16), .o 4 (.alloc [(.int .i64 0),(.int .i64 0),(.slice .full 0 []),(.str []),(.str []),(.int .i64 0),(.int .i64 0),(.str []),(.slice .full 0 []),(.bool false),(.slice .full 0 []),(.slice .full 0 []),(.slice .full 0 []),(.int .i64 0),(.int .i64 0),(.bool false)]), .op none none (.store cu bG 16)]) QL3)) (.run [.o 27 (.bin .add bP (.k (.int .i64 1))), .m 8 dH])
abbrev QLB:AC:= .block 0 (.loop (.seq (.run [.o 9 (.bin .lss bP br)]) (.seq (.cond b8 .skip (.exit 0)) QL7)))
abbrev QLF:AC:= .seq (.seq (.run [.o 5 (.load aY true 2), .c 6 qO [bh], .o 7 (.len bN), .o 8 (.mv (.k (.int .i64 0)))]) QLB) (.seq (.run [.o 28 (.build [(.int .i64 0),(.int .i64 0)] []), .op none none (.store cQ dY 2)]) .ret)
abbrev QLG:AC:= .seq (.run [.o 1 (.box aQ), .o 2 (.alloc [(.int .i64 0),(.int .i64 0)])]) QLF
abbrev QLP:AC:= .cond bT (.seq (.run [.o 2 (.mv (.k (.bool false)))]) .ret) .skip
abbrev QLU:AC:= .seq (.block 1 (.seq (.run [.o 9 (.bA bh br 1), .o 10 (.load b8 false 1), .m 4 bS]) (.seq (.run [.m 11 cu, .c 12 nE [bG], .o 13 (.un .not bZ)]) QLP))) (.run [.o 14 (.bin .add br (.k (.int .i64 1))), .m 7 bI])
abbrev QLY:AC:= .block 0 (.loop (.seq (.run [.o 8 (.bin .lss br bN)]) (.seq (.cond bP .skip (.exit 0)) QLU)))
abbrev QM2:AC:= .seq (.seq (.run [.m 5 aQ, .o 6 (.len bh), .o 7 (.mv (.k (.int .i64 0)))]) QLY) (.seq (.run [.o 2 (.mv (.k (.bool true)))]) .ret)
abbrev QM3:AC:= .seq (.run [.o 2 (.mv (.k (.bool false)))]) QM2
abbrev QM8:AC:= .cond b9 (.seq (.run [.o 6 (.mv (.k (.bool false)))]) .ret) .skip
abbrev QMF:AC:= .par [.m 29 aQ, .o 30 (.dv ek), .o 31 (.aq eY 0), .o 32 (.load eo false 1), .o 33 (.bin .gtr eZ (.k (.int .i64 200))), .m 34 eJ, .g 35 34 false (.aq bP 0), .g 36 34 false (.load fh false 1), .g 37 34 false (.mv aQ), .g 38 34 false (.dv fy), .g 39 34 false (.aq fR 0), .g 40 34 false (.load fM false 1), .g 41 34 false (.bin .neq fm gj), .o 42 (.pick fb (.k (.bool true)) ga), .m 43 gO, .g 44 43 false (.aq bP 2), .g 45 43 false (.load ic false 1), .d 46 43 false mR [iT], .g 47 43 false (.un .not iU), .o 48 (.pick gX (.k (.bool true)) jc), .m 49 iw, .g 50 49 false (.load bP true 13), .d 51 49 false ti [jn], .g 52 49 false (.un .not jd), .o 53 (.pick iJ (.k (.bool true)) jC)] [(0,0),(1,0),(2,0),(3,0),(4,0),(5,0),(6,0),(7,0),(8,0),(9,0),(10,0),(11,0),(12,0),(13,0),(14,0),(15,0),(16,0),(17,0),(18,0),(19,0),(20,0),(21,0),(22,0),(23,0),(24,0)]
abbrev QMI:AC:= .cond jD (.seq (.run [.o 6 (.mv (.k (.bool false)))]) .ret) .skip
abbrev QMN:AC:= .cond vg (.seq (.run [.o 6 (.mv (.k (.bool false)))]) .ret) .skip
abbrev QMP:AC:= .seq (.seq QMF QMI) (.seq (.run [.m 54 aQ, .o 55 (.aq bP 11), .o 56 (.load jT false 1), .m 57 cQ, .o 58 (.bin .add kL (.k (.int .i64 1))), .c 59 kh [jS,lb,ld], .o 60 (.un .not km), .m 61 nH, .g 62 61 false (.mv aQ), .g 63 61 false (.aq bP 12), .g 64 61 false (.load nI false 1), .g 65 61 false (.mv cQ), .g 66 61 false (.bin .add rP (.k (.int .i64 1))), .d 67 61 false kh [o3,pM,tr], .g 68 61 false (.un .not rQ), .o 69 (.pick oi (.k (.bool true)) rR)]) QMN)
abbrev QMR:AC:= .seq (.run [.o 20 (.bA bX cr 13), .o 21 (.load cR true 13), .o 8 (.alloc [(.int .i64 0),(.int .i64 0),(.slice .full 0 []),(.str []),(.str []),(.int .i64 0),(.int .i64 0),(.str []),(.slice .full 0 []),(.bool false),(.slice .full 0 []),(.slice .full 0 []),(.slice .full 0 [])]), .op none none (.store bP cM 13)]) (.seq (.run [.m 22 aQ, .o 23 (.dv c9), .o 24 (.aq da 0), .o 25 (.load cU false 1), .o 26 (.bin .add cW (.k (.int .i64 1))), .o 27 (.dv c9), .o 28 (.aq dH 0), .op none none (.store dY dP 1)]) QMP)
abbrev QMV:AC:= .seq (.cond cD .skip (.exit 0)) (.seq (.block 1 QMR) (.run [.o 70 (.bin .add cr (.k (.int .i64 1))), .m 18 tt]))
abbrev QMZ:AC:= .seq (.run [.m 16 aY, .o 17 (.len bX), .o 18 (.mv (.k (.int .i64 0)))]) (.block 0 (.loop (.seq (.run [.o 19 (.bin .lss cr cy)]) QMV)))
abbrev QN2:AC:= .seq QMZ (.seq (.run [.o 6 (.mv (.k (.bool true)))]) .ret)
abbrev QN3:AC:= .seq (.seq (.run [.m 9 cQ, .o 10 (.bin .gtr b8 (.k (.int .i64 12))), .m 11 bS, .g 12 11 true (.mv aY), .g 13 11 true (.len bZ), .g 14 11 true (.bin .gtr bT (.k (.int .i64 0))), .o 15 (.pick bG bI (.k (.bool false)))]) QM8) QN2
abbrev QN4:AC:= .seq (.run [.o 6 (.mv (.k (.bool false)))]) QN3
abbrev QNG:AC:= .block 1 (.seq (.run [.m 10 bP, .m 5 bS]) (.seq (.run [.m 11 aY, .m 12 aQ, .m 13 bh, .o 14 (.bA bZ bT 1), .o 15 (.load bI false 1), .o 16 (.bin .eql bG b9)]) (.cond bX (.seq (.run [.m 17 bh, .m 4 cy]) .ret) .skip)))
abbrev QNJ:AC:= .seq (.cond b8 .skip (.exit 0)) (.seq QNG (.run [.o 18 (.bin .add bP (.k (.int .i64 1))), .m 8 cr]))
abbrev QNN:AC:= .seq (.run [.m 6 aQ, .o 7 (.len bN), .o 8 (.mv (.k (.int .i64 0)))]) (.block 0 (.loop (.seq (.run [.o 9 (.bin .lss bP br)]) QNJ)))
abbrev QNP:AC:= .seq (.run [(.o 4 (.mv (.k (.int .i64 (-1)))))]) .ret
abbrev QNR:AC:= .seq (.run [.o 4 (.mv (.k (.int .i64 0)))]) (.seq QNN QNP)
abbrev QO0:AC:= .cond bX (.seq (.run [.o 2 (.mv (.k (.bool true)))]) .ret) .skip
abbrev QO3:AC:= .block 1 (.seq (.run [.m 9 br, .o 10 (.bA bh br 1), .o 11 (.load bS false 1), .m 3 b8, .m 4 bG]) (.seq (.run [.m 12 aQ, .m 13 bF, .o 14 (.HC 1 bZ none (some bT)), .m 15 cu, .c 16 cA [bI,b9]]) QO0))
abbrev QO6:AC:= .seq (.cond bP .skip (.exit 0)) (.seq QO3 (.run [.o 17 (.bin .add br (.k (.int .i64 1))), .m 7 cy]))
abbrev QOA:AC:= .seq (.run [.m 5 aQ, .o 6 (.len bh), .o 7 (.mv (.k (.int .i64 0)))]) (.block 0 (.loop (.seq (.run [.o 8 (.bin .lss br bN)]) QO6)))
abbrev QOD:AC:= .seq QOA (.seq (.run [.o 2 (.mv (.k (.bool false)))]) .ret)
abbrev QOE:AC:= .seq (.run [.o 2 (.mv (.k (.bool false)))]) QOD
abbrev QOL:AC:= .par [.m 17 bF, .m 18 bF, .o 19 (.dv cr), .o 20 (.aq cD 3), .o 21 (.load cR false 1), .m 22 bF, .o 23 (.dv c9), .o 24 (.aq da 2), .o 25 (.load cU false 1), .o 26 (.len cW), .o 27 (.bin .add dP (.k (.int .i64 1))), .o 28 (.cG [(.int .i64 0)] 1 1 [(0,dH)]), .o 29 (.app 1 8 cM dY), .o 30 (.dv cy), .o 31 (.aq eY 3), .op none none (.store eo ek 1)] [(1,0),(2,0),(3,0),(4,0),(5,0),(6,0),(7,0),(8,0),(9,0),(10,0),(11,0),(12,0),(0,0),(13,0),(14,0),(15,0)]
abbrev QON:AC:= .par [.m 38 bF, .m 39 bF, .o 40 (.dv fM), .o 41 (.aq gj 4), .o 42 (.load ga false 1), .m 43 bF, .o 44 (.dv gX), .o 45 (.aq ic 2), .o 46 (.load iT false 1), .o 47 (.len iU), .o 48 (.bin .add jc (.k (.int .i64 1))), .o 49 (.cG [(.int .i64 0)] 1 1 [(0,iw)]), .o 50 (.app 1 8 gO iJ), .o 51 (.dv fR), .o 52 (.aq jd 4), .op none none (.store jC jn 1)] [(1,0),(2,0),(3,0),(4,0),(5,0),(6,0),(7,0),(8,0),(9,0),(10,0),(11,0),(12,0),(0,0),(13,0),(14,0),(15,0)]
abbrev QOO:AC:= .seq (.run [.m 32 bF, .o 33 (.aq bh 3), .o 34 (.load eJ false 1), .m 35 cu,(.o 36 (.build [(.int .i64 0),(.int .i64 0),(.slice .full 0 []),(.str []),(.str []),(.int .i64 0),(.int .i64 0),(.str []),(.slice .full 0 []),(.bool false),(.slice .full 0 []),(.slice .full 0 []),(.slice .full 0 []),(.int .i64 0),(.int .i64 0),(.int .i64 0),(.int .i64 0)] [(13,(1,fh)),(15,(1,(.k (.int .i64 (-1)))))])), .c 37 jR [eZ,fb,fm]]) QON
abbrev QOT:AC:= .seq (.block 1 (.seq (.run [.m 14 bZ, .o 15 (.bA bS bZ 5), .o 16 (.load b9 true 5), .o 5 (.alloc [(.str []),(.slice .full 0 []),(.slice .full 0 []),(.slice .full 0 []),(.slice .full 0 [])]), .m 4 bI, .op none none (.store bh bX 5)]) (.seq QOL QOO))) (.run [.o 53 (.bin .add bZ (.k (.int .i64 1))), .m 12 jD])
abbrev QOX:AC:= .block 0 (.loop (.seq (.run [.o 13 (.bin .lss bZ bG)]) (.seq (.cond bT .skip (.exit 0)) QOT)))
abbrev QP1:AC:= .seq (.seq (.run [.o 9 (.aq aY 1), .o 10 (.load b8 false 1), .o 11 (.len bS), .o 12 (.mv (.k (.int .i64 0)))]) QOX) (.seq (.run [.m 54 bF, .m 2 jS]) .ret)
abbrev QP3:AC:= .seq (.run [.o 1 (.box aQ), .o 2 (.mv (.k .fB))]) (.seq (.run [.o 6 (.load aY true 2), .o 7 (.build [(.slice .full 0 []),(.slice .full 0 []),(.slice .full 0 []),(.slice .full 0 []),(.slice .full 0 [])] [(0,(2,bN))]), .o 8 (.box br), .m 3 bP]) QP1)
abbrev QPE:AC:= .seq (.block 1 (.seq (.run [.o 11 (.bA br b8 2), .o 12 (.load bG true 2), .o 5 (.alloc [(.str []),(.bool false)]), .op none none (.store bh bZ 2)]) (.run [.m 13 bF, .o 14 (.aq bh 0), .o 15 (.load bI false 1), .o 16 (.cG [(.str [])] 1 1 [(0,b9)]), .o 17 (.app 1 16 bT bX), .m 3 cy]))) (.run [.o 18 (.bin .add b8 (.k (.int .i64 1))), .m 9 cr])
abbrev QPI:AC:= .block 0 (.loop (.seq (.run [.o 10 (.bin .lss b8 bP)]) (.seq (.cond bS .skip (.exit 0)) QPE)))
abbrev QPM:AC:= .seq (.seq (.run [.o 6 (.aq aY 1), .o 7 (.load bN false 1), .o 8 (.len br), .o 9 (.mv (.k (.int .i64 0)))]) QPI) (.seq (.run [.m 19 bF, .o 20 (.aq aY 2), .o 21 (.load cR false 1), .o 22 (.app 1 16 cD cM), .m 2 c9]) .ret)
abbrev QPO:AC:= .seq (.run [.o 1 (.box aQ), .o 2 (.mv (.k (.slice .full 0 [])))]) (.seq (.run [.o 3 (.mv (.k (.slice .full 0 [])))]) QPM)
abbrev QPS:AC:= .seq (.run [.o 4 (.mv (.k (.bool false)))]) (.seq (.run [.m 5 aQ, .m 6 aY, .c 7 kK [bh,bN], .o 8 (.bin .geq br (.k (.int .i64 0))), .m 4 bP]) .ret)
abbrev QPW:AC:= .seq (.run [.o 3 (.mv (.k (.bool false)))]) (.seq (.run [.o 4 (.aq aY 0), .o 5 (.load cu false 1), .m 6 aQ, .c 7 cA [bh,bN], .m 3 br]) .ret)
abbrev QQ0:AC:= .seq (.run [.o 4 (.mv (.k (.bool false)))]) (.seq (.run [.m 5 aQ, .m 6 aY, .c 7 iX [bh,bN], .o 8 (.bin .geq br (.k (.int .i64 0))), .m 4 bP]) .ret)
abbrev QQ2:AC:= .par [.m 5 aQ, .o 6 (.dv bh), .o 7 (.aq bN 2), .o 8 (.load br false 1), .m 9 aQ, .o 10 (.dv b8), .o 11 (.aq bS 3), .o 12 (.load bG false 1), .m 13 aY, .o 14 (.bA bZ bT 1), .o 15 (.load bI false 1), .o 16 (.bin .sub b9 (.k (.int .i64 1))), .m 17 aQ, .o 18 (.dv cy), .o 19 (.aq cr 4), .o 20 (.load cD false 1), .m 21 aY, .o 22 (.bA cR cM 1), .o 23 (.load c9 false 1), .o 24 (.bin .sub da (.k (.int .i64 1))), .o 25 (.HC 17 bP (some bX) (some cU)), .m 4 cW] [(0,0),(1,0),(2,0),(3,0),(4,0),(5,0),(6,0),(7,0),(8,0),(9,0),(10,0),(11,0),(12,0),(13,0),(14,0),(15,0),(16,0),(17,0),(18,0),(19,0),(20,0),(21,0)]
abbrev QQ4:AC:= .seq (.run [.o 4 (.mv (.k (.slice .full 0 [])))]) (.seq QQ2 .ret)
abbrev QQD:AC:= .cond c9 (.seq (.run [.o 8 (.mv (.k (.bool false)))]) .ret) .skip
abbrev QQF:AC:= .seq (.run [.o 16 (.bA bZ bI 1), .o 17 (.load bX false 1), .m 10 cy]) (.seq (.run [.o 18 (.load cu true 2), .o 19 (.load bh true 5), .m 20 bS, .c 21 u7 [cr,cD,cR], .o 22 (.bin .eql cM (.k (.int .i64 0)))]) QQD)
abbrev QQJ:AC:= .seq (.cond b9 .skip (.exit 0)) (.seq (.block 1 QQF) (.run [.o 23 (.bin .add bI (.k (.int .i64 1))), .m 14 da]))
abbrev QQN:AC:= .seq (.run [.o 11 (.load br true 13), .c 12 qT [bG], .o 13 (.len bZ), .o 14 (.mv (.k (.int .i64 0)))]) (.block 0 (.loop (.seq (.run [.o 15 (.bin .lss bI bT)]) QQJ)))
abbrev QQQ:AC:= .seq QQN (.seq (.run [.o 24 (.aq br 1), .o 25 (.load cU false 1), .o 26 (.bin .neq cW (.k (.int .i64 4))), .m 27 dP, .g 28 27 false (.aq br 4), .g 29 27 false (.load dY false 1), .g 30 27 false (.bin .neq ek (.k (.str [109,97,105,110]))), .g 31 27 false (.mv eY), .g 32 31 true (.mv cQ), .g 33 31 true (.aq br 4), .g 34 31 true (.load eJ false 1), .d 35 31 true cA [eZ,fb], .g 36 27 false (.pick eo fh (.k (.bool false))), .o 37 (.pick dH (.k (.bool true)) fm), .m 8 fy]) .ret)
abbrev QQR:AC:= .seq (.run [.o 4 (.box aQ), .o 5 (.box aY), .o 7 (.box bF), .o 8 (.mv (.k (.bool false)))]) QQQ
abbrev QQW:AC:= .cond b8 (.seq (.run [.o 4 (.mv (.k (.bool false)))]) .ret) .skip
abbrev QR7:AC:= .seq (.run [.o 15 (.bA bG bT 5), .o 16 (.load b9 true 5), .o 6 (.alloc [(.str []),(.slice .full 0 []),(.slice .full 0 []),(.slice .full 0 []),(.slice .full 0 [])]), .op none none (.store bN bX 5)]) (.seq (.run [.o 17 (.aq bN 0), .o 18 (.load cy false 1), .o 19 (.aq bF 4), .o 20 (.load cD false 1), .o 21 (.bin .eql cr cR)]) (.cond cM (.seq (.run [.o 22 (.aq bN 1), .o 23 (.load c9 false 1), .o 24 (.aq bF 10), .o 25 (.load cU false 1), .c 26 u9 [da,cW], .m 4 dP]) .ret) .skip))
abbrev QRB:AC:= .seq (.cond bI .skip (.exit 0)) (.seq (.block 1 QR7) (.run [.o 27 (.bin .add bT (.k (.int .i64 1))), .m 13 dH]))
abbrev QRF:AC:= .seq (.run [.o 10 (.aq cQ 1), .o 11 (.load bS false 1), .o 12 (.len bG), .o 13 (.mv (.k (.int .i64 0)))]) (.block 0 (.loop (.seq (.run [.o 14 (.bin .lss bT bZ)]) QRB)))
abbrev QRI:AC:= .seq QRF (.seq (.run [.o 4 (.mv (.k (.bool false)))]) .ret)
abbrev QRJ:AC:= .seq (.seq (.run [.o 7 (.aq bF 1), .o 8 (.load br false 1), .o 9 (.bin .neq bP (.k (.int .i64 4)))]) QQW) QRI
abbrev QRK:AC:= .seq (.run [.o 2 (.box aQ), .o 3 (.box aY), .o 4 (.mv (.k (.bool false)))]) QRJ
abbrev QRQ:AC:= .seq (.run [.o 3 (.load aY true 2), .c 4 lG [bF], .o 5 (.rz cu 0 false 1), .o 6 (.bin .neq bh (.k (.int .i64 0)))]) (.cond bN (.seq (.run [.o 2 (.mv (.k .fB))]) .ret) .skip)
abbrev QRU:AC:= .seq (.run [.o 1 (.box aQ), .o 2 (.mv (.k .fB))]) (.seq QRQ (.seq (.run [.o 7 (.load aY true 2), .c 8 lS [br], .m 2 bP]) .ret))
abbrev QS3:AC:= .cond bX (.seq (.run [.m 17 aQ, .m 4 cy, .o 5 (.mv (.k (.bool false)))]) .ret) .skip
abbrev QS8:AC:= .block 1 (.seq (.run [.o 12 (.bA bP bS 1), .o 13 (.load bZ false 1), .m 7 bT]) (.seq (.seq (.run [.m 14 aQ, .m 15 br, .c 16 cA [bI,b9]]) QS3) (.run [.m 18 aQ, .m 19 br, .o 20 (.cG [(.str [])] 1 1 [(0,cD)]), .o 21 (.app 1 16 cr cR), .m 0 cM])))
abbrev QSB:AC:= .seq (.cond bG .skip (.exit 0)) (.seq QS8 (.run [.o 22 (.bin .add bS (.k (.int .i64 1))), .m 10 c9]))
abbrev QSF:AC:= .seq (.run [.m 8 aY, .o 9 (.len bP), .o 10 (.mv (.k (.int .i64 0)))]) (.block 0 (.loop (.seq (.run [.o 11 (.bin .lss bS b8)]) QSB)))
abbrev QSI:AC:= .seq QSF (.seq (.run [.m 23 aQ, .m 4 da, .o 5 (.mv (.k (.bool true)))]) .ret)
abbrev QSJ:AC:= .seq (.run [.o 4 (.mv (.k (.slice .full 0 []))), .o 5 (.mv (.k (.bool false)))]) QSI
abbrev QSP:AC:= .seq (.run [.o 11 (.bin .eql b8 (.k (.int .i64 7))), .m 10 bG]) (.cond bS .skip (.run [.o 12 (.bin .eql b8 (.k (.int .i64 8))), .m 10 bZ]))
abbrev QSZ:AC:= .cond bS (.seq (.run [.o 13 (.aq bF 16), .o 14 (.load bT false 1), .o 15 (.bin .neq bI (.k (.int .i64 0))), .m 4 b9]) .ret) (.seq (.run [.o 17 (.bin .eql b8 (.k (.int .i64 10))), .m 16 cy]) (.cond bX (.seq (.run [.m 19 aQ, .o 20 (.aq bF 13), .o 21 (.load cR false 1), .o 22 (.aq bF 0), .o 23 (.aq c9 3), .o 24 (.load da false 1), .c 25 qU [cD,cM,cU], .m 18 cW, .o 26 (.ext cr 0), .o 27 (.ext cr 1), .m 5 dP, .m 6 dH]) (.seq (.run [.m 28 bN, .m 4 dY]) .ret)) .skip))
abbrev QT5:AC:= .seq (.seq (.run [.o 7 (.aq bF 0), .o 8 (.aq br 1), .o 9 (.load bP false 1)]) (.block 0 (.seq QSP QSZ))) (.seq (.run [.o 4 (.mv (.k (.bool true)))]) .ret)
abbrev QT6:AC:= .seq (.run [.o 3 (.box aY), .o 4 (.mv (.k (.bool false)))]) QT5
abbrev QTB:AC:= .cond bX (.seq (.run [.o 4 (.mv (.k (.slice .full 0 [])))]) .ret) .skip
abbrev QTV:AC:= .seq (.run [.o 43 (.bA fM ga 1), .o 44 (.load gX false 1), .m 12 ic]) (.seq (.run [.o 45 (.aq cQ 0), .o 46 (.load iT false 1), .m 47 bZ, .c 48 cA [iU,jc]]) (.cond iw (.run [.m 49 bN, .m 50 bZ, .o 51 (.cG [(.str [])] 1 1 [(0,jn)]), .o 52 (.app 1 16 iJ jd), .m 6 jC]) .skip))
abbrev QTZ:AC:= .seq (.cond gO .skip (.exit 4)) (.seq (.block 5 QTV) (.run [.o 53 (.bin .add ga (.k (.int .i64 1))), .m 41 jD]))
abbrev QU3:AC:= .seq (.run [.o 37 (.aq bS 0), .o 38 (.load fy true 13), .c 39 qT [fR], .o 40 (.len fM), .o 41 (.mv (.k (.int .i64 0)))]) (.block 4 (.loop (.seq (.run [.o 42 (.bin .lss ga gj)]) QTZ)))
abbrev QU7:AC:= .seq (.block 3 (.seq (.run [.o 35 (.bA eo eJ 17), .o 36 (.load fh true 17), .o 10 (.alloc [(.int .i64 0),(.int .i64 0),(.slice .full 0 []),(.str []),(.str []),(.int .i64 0),(.int .i64 0),(.str []),(.slice .full 0 []),(.bool false),(.slice .full 0 []),(.slice .full 0 []),(.slice .full 0 []),(.int .i64 0),(.int .i64 0),(.int .i64 0),(.int .i64 0)]), .op none none (.store bS fm 17)]) QU3)) (.run [.o 54 (.bin .add eJ (.k (.int .i64 1))), .m 33 jS])
abbrev QUB:AC:= .block 2 (.loop (.seq (.run [.o 34 (.bin .lss eJ eZ)]) (.seq (.cond fb .skip (.exit 2)) QU7)))
abbrev QUD:AC:= .seq (.run [.o 25 (.bA cM da 1), .o 26 (.load cW false 1), .m 8 dP]) (.seq (.run [.m 27 bh, .m 28 bh, .m 29 bP, .c 30 mH [dY,ek], .c 31 gJ [dH,eY], .o 32 (.len eo), .o 33 (.mv (.k (.int .i64 0)))]) QUB)
abbrev QUH:AC:= .seq (.cond cU .skip (.exit 0)) (.seq (.block 1 QUD) (.run [.o 55 (.bin .add da (.k (.int .i64 1))), .m 23 jT]))
abbrev QUL:AC:= .seq (.run [.m 19 bh, .m 20 aY, .c 21 wW [cD,cR], .o 22 (.len cM), .o 23 (.mv (.k (.int .i64 0)))]) (.block 0 (.loop (.seq (.run [.o 24 (.bin .lss da c9)]) QUH)))
abbrev QUS:AC:= .seq (.run [.o 17 (.load cQ true 2), .c 18 lS [cy], .m 5 cr]) (.seq (.run [.o 6 (.mv (.k (.slice .full 0 [])))]) (.seq QUL (.seq (.run [.m 56 bN, .c 57 jk [lb]]) (.seq (.run [.m 58 bN, .c 59 jH [ld], .m 4 km]) .ret))))
abbrev QUU:AC:= .seq (.run [.o 2 (.box aQ), .o 4 (.mv (.k (.slice .full 0 [])))]) (.seq (.seq (.run [.o 13 (.load cQ true 2), .m 14 aY, .c 15 tj [bT,bI], .o 16 (.un .not b9)]) QTB) QUS)
abbrev QV7:AC:= .cond fb (.seq (.run [.o 4 (.mv (.k (.bool false)))]) .ret) .skip
abbrev QVA:AC:= .seq (.seq (.run [.m 18 bh, .o 19 (.aq br 1), .o 20 (.load cD false 1), .c 21 cA [cr,cR], .m 22 cM, .g 23 22 false (.aq br 1), .g 24 22 false (.load da false 1), .g 25 22 false (.aq cQ 3), .g 26 22 false (.load cW false 1), .g 27 22 false (.bin .eql cU dP), .o 28 (.pick c9 (.k (.bool true)) dH), .m 29 dY, .g 30 29 false (.mv aY), .g 31 29 false (.aq br 1), .g 32 29 false (.load eo false 1), .d 33 29 false cA [eY,eZ], .o 34 (.pick ek (.k (.bool true)) eJ)]) QV7) (.run [.m 35 bh, .o 36 (.aq br 1), .o 37 (.load fm false 1), .o 38 (.cG [(.str [])] 1 1 [(0,fy)]), .o 39 (.app 1 16 fh fR), .m 5 fM])
abbrev QVD:AC:= .block 1 (.seq (.run [.o 13 (.bA b8 bG 6), .o 14 (.load bT true 6), .o 7 (.alloc [(.bool false),(.str []),(.int .i64 0),(.int .i64 0),(.str []),(.slice .full 0 [])]), .op none none (.store br bI 6)]) (.seq (.seq (.run [.o 15 (.aq br 0), .o 16 (.load b9 false 1), .o 17 (.un .not bX)]) (.cond cy (.exit 1) .skip)) QVA))
abbrev QVG:AC:= .seq (.cond bZ .skip (.exit 0)) (.seq QVD (.run [.o 40 (.bin .add bG (.k (.int .i64 1))), .m 11 gj]))
abbrev QVK:AC:= .seq (.run [.o 8 (.aq cQ 10), .o 9 (.load bP false 1), .o 10 (.len b8), .o 11 (.mv (.k (.int .i64 0)))]) (.block 0 (.loop (.seq (.run [.o 12 (.bin .lss bG bS)]) QVG)))
abbrev QVN:AC:= .seq QVK (.seq (.run [.o 4 (.mv (.k (.bool true)))]) .ret)
abbrev QVP:AC:= .seq (.run [.o 2 (.box aQ), .o 4 (.mv (.k (.bool false)))]) (.seq (.run [.o 5 (.mv (.k (.slice .full 0 [])))]) QVN)
abbrev QVW:AC:= .seq (.run [(.o 13 (.build [(.int .i64 0),(.int .i64 0)] [(0,(1,(.k (.int .i64 4))))])), .o 2 (.mv (.k (.slice .full 0 []))), .op none none (.store bF bT 2)]) .ret
abbrev QW2:AC:= .cond cy (.seq (.run [.m 18 cu, .m 19 aQ, .o 20 (.lB cD), .o 21 (.build [(.int .i64 0),(.str []),(.int .i64 0),(.int .i64 0)] [(3,(1,cR))]), .o 22 (.cG [(.int .i64 0),(.str []),(.int .i64 0),(.int .i64 0)] 4 1 [(0,cM)]), .o 23 (.app 4 40 cr c9), .o 24 (.build [(.int .i64 0),(.int .i64 0)] []), .m 2 da, .op none none (.store bF cU 2)]) .ret) .skip
abbrev QWG:AC:= .cond jc (.goto 1) (.seq (.run [.m 51 b8, .c 52 oY [jd], .m 50 jC]) (.cond jn (.goto 2) (.seq (.run [.m 54 b8, .c 55 pU [jS], .m 53 jT]) (.cond jD (.goto 3) .skip))))
abbrev QWI:AC:= .cond eY (.seq (.run [.m 45 bN, .o 46 (.bin .add iT (.k (.int .i64 1))), .m 6 iU]) (.goto 0)) (.seq (.run [.m 48 b8, .o 49 (.bin .eql iw (.k (.int .u8 35))), .m 47 iJ]) QWG)
abbrev QWK:AC:= .block 0 (.seq (.run [.m 31 b8, .o 32 (.bin .eql eo (.k (.int .u8 32))), .m 33 eZ, .g 34 33 false (.mv b8), .g 35 33 false (.bin .eql fb (.k (.int .u8 9))), .o 36 (.pick eJ (.k (.bool true)) fh), .m 37 fm, .g 38 37 false (.mv b8), .g 39 37 false (.bin .eql fR (.k (.int .u8 10))), .o 40 (.pick fy (.k (.bool true)) fM), .m 41 gj, .g 42 41 false (.mv b8), .g 43 41 false (.bin .eql gO (.k (.int .u8 13))), .o 44 (.pick ga (.k (.bool true)) gX), .m 30 ic]) QWI)
abbrev QWY:AC:= .seq (.seq (.run [.m 72 bN, .m 73 aQ, .o 74 (.lB yz), .o 75 (.bin .lss w7 w8), .m 76 yA, .g 77 76 true (.mv aQ), .g 78 76 true (.mv bN), .g 79 76 true (.oK yB w9), .g 80 76 true (.bin .neq Cn (.k (.int .u8 10))), .o 81 (.pick tu yC (.k (.bool false)))]) (.cond Co .skip (.exit 1))) (.block 2 (.run [.m 82 bN, .o 83 (.bin .add Ao (.k (.int .i64 1))), .m 6 Cp]))
abbrev QX2:AC:= .par [.m 87 aQ, .o 88 (.aq bh 3), .o 89 (.load Ez false 1), .m 90 bN, .o 91 (.ye Ey (some EA) (some EB)), .o 92 (.aq bh 0), .op none none (.store ED (.k (.int .i64 1)) 1), .o 93 (.aq bh 1), .op none none (.store IE EC 1)] [(1,0),(2,0),(5,0),(6,0),(0,0),(3,0),(4,0),(7,0),(8,0)]
abbrev QX6:AC:= .seq (.run [.o 94 (.aq bh 1), .o 95 (.load IF false 1), .c 96 ud [IG]]) (.cond Nn (.run [.o 97 (.aq bh 0), .op none none (.store No (.k (.int .i64 3)) 1)]) .skip)
abbrev ZN:AC:= .seq (.seq (.run [.m 103 bN, .m 104 aQ, .o 105 (.lB Hl), .o 106 (.bin .lss Hk Hm), .m 107 Hn, .g 108 107 true (.mv aQ), .g 109 107 true (.mv bN), .g 110 107 true (.oK Hp Hq), .d 111 107 true pU [Nr], .o 112 (.pick Ho Ns (.k (.bool false)))]) (.cond Nt .skip (.exit 3))) (.block 4 (.run [.m 113 bN, .o 114 (.bin .add Nu (.k (.int .i64 1))), .m 6 Nv]))
abbrev QXJ:AC:= .par [.m 115 aQ, .o 116 (.aq bh 3), .o 117 (.load Nx false 1), .m 118 bN, .o 119 (.ye Nw (some Ny) (some Nz)), .o 120 (.aq bh 0), .op none none (.store NB (.k (.int .i64 2)) 1), .o 121 (.aq bh 1), .op none none (.store NC NA 1), .o 7 (.mv (.k (.int .i64 2)))] [(1,0),(2,0),(5,0),(6,0),(0,0),(3,0),(4,0),(7,0),(8,0),(9,0)]
abbrev QXX:AC:= .par [.m 148 br, .o 149 (.aq bh 3), .o 150 (.load V9 false 1), .o 151 (.build [(.int .i64 0),(.int .i64 0)] [(0,(1,V8)),(1,(1,Wa))]), .o 2 (.mv (.k (.slice .full 0 []))), .op none none (.store bF Wb 2)] [(0,0),(1,0),(2,0),(3,0),(4,0),(5,0)]
abbrev QY2:AC:= .seq (.seq (.run [.m 141 cu, .o 142 (.len V3), .o 143 (.bin .eql V4 (.k (.int .i64 2000)))]) (.cond NG (.goto 5) .skip)) (.seq (.run [.m 144 cu, .o 145 (.load bh true 4), .o 146 (.cG [(.int .i64 0),(.str []),(.int .i64 0),(.int .i64 0)] 4 1 [(0,Hr)]), .o 147 (.app 4 40 V5 V6), .m 4 V7]) (.seq (.goto 0) (.seq (.label 5) (.seq QXX .ret))))
abbrev QY4:AC:= .seq (.label 4) (.seq (.run [.o 7 (.mv (.k (.int .i64 4)))]) QY2)
abbrev QY7:AC:= .seq (.run [.o 133 (.aq bh 1), .o 134 (.load VV false 1), .c 135 va [VW], .m 132 VX, .o 136 (.ext NF 0), .o 137 (.ext NF 1), .o 138 (.aq bh 2), .op none none (.store V0 VY 1), .m 8 VZ]) (.seq (.run [.o 7 (.mv (.k (.int .i64 4)))]) (.seq (.seq (.run [.m 139 bP, .o 140 (.un .not V1)]) (.cond V2 (.goto 5) .skip)) QY4))
abbrev QY8:AC:= .seq (.seq (.run [.o 122 (.aq bh 1), .o 123 (.load ND false 1), .o 124 (.lB VM), .o 125 (.bin .gtr VN (.k (.int .i64 1))), .m 126 VO, .g 127 126 true (.aq bh 1), .g 128 126 true (.load VQ false 1), .g 129 126 true (.oK VR (.k (.int .i64 0))), .g 130 126 true (.bin .eql VS (.k (.int .u8 48))), .o 131 (.pick VP VT (.k (.bool false)))]) (.cond VU (.goto 5) .skip)) QY7
abbrev ZO:AC:= .seq QXJ QY8
abbrev QYD:AC:= .seq (.seq (.run [.m 98 bN, .o 99 (.aq bh 3), .o 100 (.load Nq false 1), .o 101 (.bin .sub Np Hh), .o 102 (.bin .gtr Hi (.k (.int .i64 8)))]) (.cond Hj (.goto 5) .skip)) (.seq (.goto 4) (.seq (.label 3) (.seq (.block 3 (.loop ZN)) ZO)))
abbrev QYF:AC:= .seq QX6 (.seq (.run [.o 7 (.mv (.k (.int .i64 4)))]) QYD)
abbrev QYL:AC:= .seq (.label 1) (.seq (.block 1 (.loop QWY)) (.seq (.goto 0) (.seq (.label 2) (.seq (.run [.m 84 aQ, .m 85 bN, .c 86 vW [Ap,Ev], .m 6 Ew]) (.seq QX2 QYF)))))
abbrev QYP:AC:= .seq (.run [.m 62 aQ, .o 63 (.aq bh 3), .o 64 (.load nI false 1), .m 65 bN, .o 66 (.ye o3 (some pM) (some rP)), .o 67 (.aq bh 1), .op none none (.store rQ tr 1)]) (.seq (.run [.o 7 (.mv (.k (.int .i64 2)))]) (.seq (.seq (.run [.m 68 bN, .o 69 (.aq bh 3), .o 70 (.load vg false 1), .o 71 (.bin .gtr rR tt)]) (.cond yy (.goto 4) .skip)) (.seq (.goto 5) QYL)))
abbrev QYS:AC:= .seq (.seq (.run [.m 27 aQ, .m 28 bN, .o 29 (.oK dH dY), .m 9 ek]) QWK) (.seq (.run [.o 56 (.aq bh 0), .op none none (.store lb (.k (.int .i64 4)) 1)]) (.seq (.run [.m 57 bN, .m 58 aQ, .m 59 bN, .c 60 yv [ld,km], .o 61 (.bin .add kL nH), .m 6 oi]) QYP))
abbrev Aq:AC:= .seq (.seq (.run [.m 14 bN, .m 15 aQ, .o 16 (.lB b9), .o 17 (.bin .geq bI bX)]) QW2) (.seq (.run [.m 25 bN, .o 26 (.build [(.int .i64 0),(.str []),(.int .i64 0),(.int .i64 0)] [(3,(1,cW))]), .op none none (.store bh dP 4)]) QYS)
abbrev QYW:AC:= .seq (.seq (.run [.m 10 aQ, .o 11 (.lB bS), .o 12 (.bin .gtr bG (.k (.int .i64 100000)))]) (.cond bZ QVW .skip)) (.seq (.label 0) Aq)
abbrev QYY:AC:= .seq (.run [.o 5 (.alloc [(.int .i64 0),(.str []),(.int .i64 0),(.int .i64 0)])]) (.seq (.run [.o 6 (.mv (.k (.int .i64 0))), .o 7 (.mv (.k (.int .i64 0))), .o 8 (.mv (.k (.bool true)))]) QYW)
abbrev vh:AC:= .seq (.run [.o 4 (.mv (.k (.slice .full 0 [])))]) QYY
abbrev QZ0:AC:= .scope vh
abbrev QZ1:AC:= .seq (.run [.o 2 (.mv (.k (.slice .full 0 []))), .o 3 (.alloc [(.int .i64 0),(.int .i64 0)])]) QZ0
abbrev QZ9:AC:= .seq (.seq (.run [.m 4 aQ,(.c 5 dE [cu,(.k (.str [103,108,111,98,97,108]))])]) (.cond bh .skip (.exit 0))) (.block 1 (.run [.m 6 aQ, .o 7 (.aq bF 0), .o 8 (.load br false 1), .c 9 jl [bN,bP,(.k (.int .i64 16))], .o 10 (.aq bF 0), .op none none (.store bS b8 1)]))
abbrev QZL:AC:= .seq (.run [.o 17 (.aq bF 1), .o 18 (.load cy false 1), .o 19 (.len cr), .o 20 (.bin .eql cD (.k (.int .i64 16)))]) (.cond cR (.seq (.run [.m 21 aQ, .c 22 fi [cM,(.k (.int .i64 4))]]) (.seq (.run [.o 23 (.load bF true 2), .op none none (.store cQ da 2)]) .ret)) .skip)
abbrev QZN:AC:= .par [.o 31 (.aq bF 1), .o 32 (.load eo false 1), .m 33 aQ, .c 34 og [eJ], .o 35 (.cG [(.str []),(.slice .full 0 []),(.slice .full 0 []),(.slice .full 0 []),(.slice .full 0 [])] 5 1 [(0,fb)]), .o 36 (.app 5 112 eZ fh), .o 37 (.aq bF 1), .op none none (.store fy fm 1)] [(2,0),(3,0),(0,0),(1,1),(4,0),(5,0),(6,0),(7,0)]
abbrev QZP:AC:= .seq QZL (.seq (.run [.m 24 aQ, .o 25 (.dv cU), .o 26 (.aq cW 1), .o 27 (.load dP false 1), .o 28 (.bin .add dH (.k (.int .i64 1))), .o 29 (.dv cU), .o 30 (.aq ek 1), .op none none (.store eY dY 1)]) QZN)
abbrev QZR:AC:= .seq (.seq (.run [.m 11 aQ, .c 12 cT [bG], .m 13 bZ, .g 14 13 true (.mv aQ),(.d 15 13 true fK [bI,(.k (.str [112,114,111,99]))]), .o 16 (.pick bT b9 (.k (.bool false)))]) (.cond bX .skip (.exit 2))) (.block 3 QZP)
abbrev ZP:AC:= .seq (.seq (.run [.m 38 aQ, .c 39 cT [fR], .m 40 fM, .g 41 40 true (.mv aQ), .d 42 40 true dF [ga], .g 43 40 true (.rz gO 0 false 1), .g 44 40 true (.bin .neq gX (.k (.int .i64 0))), .o 45 (.pick gj ic (.k (.bool false)))]) (.cond iT (.run [.m 46 aQ, .c 47 fi [iU,(.k (.int .i64 3))]]) .skip)) (.seq (.run [.o 48 (.load bF true 2), .op none none (.store cQ iw 2)]) .ret)
abbrev agd:AC:= .seq (.run [.o 2 (.alloc [(.slice .full 0 []),(.slice .full 0 [])])]) (.seq (.run [.o 3 (.alloc [(.slice .full 0 []),(.slice .full 0 [])])]) (.seq (.block 0 (.loop QZ9)) (.seq (.block 2 (.loop QZR)) ZP)))
abbrev age:AC:= .par [.o 19 (.aq bN 0), .o 20 (.load cD false 1), .o 21 (.aq bN 1), .o 22 (.load cM false 1), .c 23 la [c9], .o 24 (.aq bN 2), .o 25 (.load cU false 1), .c 26 gR [cW], .o 27 (.aq bN 4), .o 28 (.load dH false 1), .c 29 gR [dY], .o 30 (.build [(.str []),(.slice .full 0 []),(.slice .full 0 []),(.slice .full 0 []),(.slice .full 0 [])] [(0,(1,cR)),(1,(1,da)),(2,(1,dP)),(4,(1,ek))]), .o 7 (.alloc [(.str []),(.slice .full 0 []),(.slice .full 0 []),(.slice .full 0 []),(.slice .full 0 [])]), .op none none (.store br eY 5)] [(2,0),(3,0),(4,0),(5,0),(6,1),(7,0),(8,0),(9,2),(10,0),(12,0),(0,0),(1,4),(11,0),(13,0)]
abbrev agf:AC:= .seq (.run [.o 17 (.bA bT b9 5), .o 18 (.load cy true 5), .o 6 (.alloc [(.str []),(.slice .full 0 []),(.slice .full 0 []),(.slice .full 0 []),(.slice .full 0 [])]), .op none none (.store bN cr 5)]) (.seq age (.seq (.run [.o 32 (.aq bN 3), .o 33 (.load eZ false 1), .m 34 bF, .c 35 kA [eJ,fb,(.k (.bool true))], .m 31 fh, .o 36 (.ext eo 0), .o 37 (.ext eo 1), .o 38 (.aq br 3), .op none none (.store fR fm 1), .m 3 fy]) (.run [.o 39 (.aq cu 1), .o 40 (.load fM false 1), .o 41 (.load br true 5), .o 42 (.cG [(.str []),(.slice .full 0 []),(.slice .full 0 []),(.slice .full 0 []),(.slice .full 0 [])] 5 1 [(0,ga)]), .o 43 (.app 5 112 gj gO), .o 44 (.aq cu 1), .op none none (.store ic gX 1)])))
abbrev agh:AC:= .seq (.cond bX .skip (.exit 0)) (.seq (.block 1 agf) (.run [.o 45 (.bin .add b9 (.k (.int .i64 1))), .m 15 iT]))
abbrev agi:AC:= .seq (.run [.o 12 (.aq aY 1), .o 13 (.load bZ false 1), .o 14 (.len bT), .o 15 (.mv (.k (.int .i64 0)))]) (.block 0 (.loop (.seq (.run [.o 16 (.bin .lss b9 bI)]) agh)))
abbrev agj:AC:= .seq (.run [.o 3 (.mv (.k (.int .i64 0)))]) (.seq (.run [.o 8 (.aq aY 0), .o 9 (.load bP false 1), .c 10 gR [b8], .o 11 (.build [(.slice .full 0 []),(.slice .full 0 [])] [(0,(1,bS))]), .o 4 (.alloc [(.slice .full 0 []),(.slice .full 0 [])]), .op none none (.store cu bG 2)]) (.seq agi (.seq (.run [.o 46 (.load cu true 2), .op none none (.store cQ iU 2)]) .ret)))
abbrev agk:AC:= .seq (.run [.o 1 (.box aQ), .o 2 (.alloc [(.slice .full 0 []),(.slice .full 0 [])])]) agj
abbrev agl:AC:= .seq (.run [.o 2 (.mv (.k (.bool false)))]) (.seq (.run [.m 3 aQ, .o 4 (.bin .geq bF (.k (.int .u8 97))), .m 5 cu, .g 6 5 true (.mv aQ), .g 7 5 true (.bin .leq bN (.k (.int .u8 122))), .o 8 (.pick bh br (.k (.bool false))), .m 2 bP]) .ret)
abbrev agm:AC:= .seq (.seq (.run [.m 5 aY, .m 6 aQ, .o 7 (.lB bN), .o 8 (.bin .lss bh br), .m 9 bP, .g 10 9 true (.mv aQ), .g 11 9 true (.mv aY), .g 12 9 true (.oK bS bG), .d 13 9 true oY [bZ], .g 14 9 true (.mv bT), .g 15 14 false (.mv aQ), .g 16 14 false (.mv aY), .g 17 14 false (.oK b9 bX), .d 18 14 false pU [cy], .g 19 9 true (.pick bI (.k (.bool true)) cr), .o 20 (.pick b8 cD (.k (.bool false)))]) (.cond cR .skip (.exit 0))) (.block 1 (.run [.m 21 aY, .o 22 (.bin .add cM (.k (.int .i64 1))), .m 1 c9]))
abbrev agn:AC:= .seq (.run [.o 4 (.mv (.k (.int .i64 0)))]) (.seq (.block 0 (.loop agm)) (.seq (.run [.m 23 aY, .m 4 da]) .ret))
abbrev ago:AC:= .seq (.run [.o 16 (.bin .eql bF (.k (.str [114,101,97,100]))), .m 4 bX]) (.cond cu .skip (.run [.o 17 (.bin .eql bF (.k (.str [112,114,105,110,116]))), .m 4 cy]))
abbrev agp:AC:= .cond cu .skip (.seq (.run [.o 15 (.bin .eql bF (.k (.str [103,111,116,111]))), .m 4 b9]) (.cond cu .skip ago))
abbrev agq:AC:= .cond cu .skip (.seq (.run [.o 14 (.bin .eql bF (.k (.str [114,101,116,117,114,110]))), .m 4 bI]) agp)
abbrev agr:AC:= .cond cu .skip (.seq (.run [.o 13 (.bin .eql bF (.k (.str [99,111,110,116,105,110,117,101]))), .m 4 bT]) agq)
abbrev ags:AC:= .cond cu .skip (.seq (.run [.o 12 (.bin .eql bF (.k (.str [98,114,101,97,107]))), .m 4 bZ]) agr)
abbrev agt:AC:= .cond cu .skip (.seq (.run [.o 11 (.bin .eql bF (.k (.str [119,104,105,108,101]))), .m 4 bG]) ags)
abbrev agu:AC:= .cond cu .skip (.seq (.run [.o 10 (.bin .eql bF (.k (.str [101,108,115,101]))), .m 4 bS]) agt)
abbrev agv:AC:= .cond cu .skip (.seq (.run [.o 9 (.bin .eql bF (.k (.str [105,102]))), .m 4 b8]) agu)
abbrev agw:AC:= .cond cu .skip (.seq (.run [.o 8 (.bin .eql bF (.k (.str [114,101,102]))), .m 4 bP]) agv)
abbrev agx:AC:= .cond cu .skip (.seq (.run [.o 7 (.bin .eql bF (.k (.str [118,97,114]))), .m 4 br]) agw)
abbrev agy:AC:= .cond cu .skip (.seq (.run [.o 6 (.bin .eql bF (.k (.str [112,114,111,99]))), .m 4 bN]) agx)
abbrev agz:AC:= .cond cu (.seq (.run [.o 2 (.mv (.k (.bool true)))]) .ret) .skip
abbrev agA:AC:= .seq (.seq (.run [.o 5 (.bin .eql bF (.k (.str [103,108,111,98,97,108]))), .m 4 bh]) agy) agz
abbrev agB:AC:= .seq (.seq (.run [.m 3 aQ]) (.block 0 agA)) (.seq (.run [.o 2 (.mv (.k (.bool false)))]) .ret)
abbrev agC:AC:= .seq (.run [.o 2 (.mv (.k (.bool false)))]) agB
end Go.Abs

/-! Have1 -/

namespace Go.Abs
open Go.Proofs
theorem Df:Has Tryz.prog tc 1 [(0,none)] QDZ:=⟨Tryz.f44,by kernel_rfl,by kernel_rfl⟩
theorem GG:Has Tryz.prog wT 40 [(0,(some (true,2)))] QE7:=⟨Tryz.f45,by kernel_rfl,by kernel_rfl⟩
theorem zA:Has Tryz.prog ju 23 [(4,none)] QEO:=⟨Tryz.f46,by kernel_rfl,by kernel_rfl⟩
theorem o4:Has Tryz.prog gh 19 [(4,none)] QEY:=⟨Tryz.f47,by kernel_rfl,by kernel_rfl⟩
theorem rC:Has Tryz.prog kD 69 [(4,none)] QFW:=⟨Tryz.f48,by kernel_rfl,by kernel_rfl⟩
theorem xG:Has Tryz.prog uW 123 [(2,(some (true,2)))] QIG:=⟨Tryz.f49,by kernel_rfl,by kernel_rfl⟩
theorem EG:Has Tryz.prog uX 29 [(2,(some (true,2)))] QJ3:=⟨Tryz.f50,by kernel_rfl,by kernel_rfl⟩
theorem EH:Has Tryz.prog uY 84 [(2,(some (true,2)))] QKT:=⟨Tryz.f51,by kernel_rfl,by kernel_rfl⟩
theorem Bz:Has Tryz.prog qP 29 [(2,(some (true,2)))] QLG:=⟨Tryz.f52,by kernel_rfl,by kernel_rfl⟩
theorem EI:Has Tryz.prog mR 15 [(2,none)] QM3:=⟨Tryz.f56,by kernel_rfl,by kernel_rfl⟩
theorem q4:Has Tryz.prog kh 71 [(6,none)] QN4:=⟨Tryz.f57,by kernel_rfl,by kernel_rfl⟩
theorem vC:Has Tryz.prog iX 19 [(4,none)] QNR:=⟨Tryz.f58,by kernel_rfl,by kernel_rfl⟩
theorem Dg:Has Tryz.prog nY 18 [(2,none)] QOE:=⟨Tryz.f59,by kernel_rfl,by kernel_rfl⟩
theorem IK:Has Tryz.prog lS 55 [(2,none)] QP3:=⟨Tryz.f60,by kernel_rfl,by kernel_rfl⟩
theorem GH:Has Tryz.prog wU 23 [(2,none)] QPO:=⟨Tryz.f61,by kernel_rfl,by kernel_rfl⟩
theorem q5:Has Tryz.prog fY 9 [(4,none)] QPS:=⟨Tryz.f62,by kernel_rfl,by kernel_rfl⟩
theorem BA:Has Tryz.prog ox 8 [(3,none)] QPW:=⟨Tryz.f63,by kernel_rfl,by kernel_rfl⟩
theorem tv:Has Tryz.prog cA 9 [(4,none)] QQ0:=⟨Tryz.f64,by kernel_rfl,by kernel_rfl⟩
theorem BB:Has Tryz.prog gJ 26 [(4,none)] QQ4:=⟨Tryz.f65,by kernel_rfl,by kernel_rfl⟩
theorem Dh:Has Tryz.prog qe 38 [(8,none)] QQR:=⟨Tryz.f66,by kernel_rfl,by kernel_rfl⟩
theorem xH:Has Tryz.prog uZ 28 [(4,none)] QRK:=⟨Tryz.f67,by kernel_rfl,by kernel_rfl⟩
theorem xI:Has Tryz.prog qQ 9 [(2,none)] QRU:=⟨Tryz.f68,by kernel_rfl,by kernel_rfl⟩
theorem GM:Has Tryz.prog pT 24 [(4,none),(5,none)] QSJ:=⟨Tryz.f69,by kernel_rfl,by kernel_rfl⟩
theorem py:Has Tryz.prog u5 29 [(4,none)] QT6:=⟨Tryz.f70,by kernel_rfl,by kernel_rfl⟩
theorem tL:Has Tryz.prog qR 60 [(4,none)] QUU:=⟨Tryz.f71,by kernel_rfl,by kernel_rfl⟩
theorem Cq:Has Tryz.prog rN 41 [(4,none)] QVP:=⟨Tryz.f72,by kernel_rfl,by kernel_rfl⟩
theorem Ko:Has Tryz.prog Al 152 [(2,none),(3,(some (true,2)))] QZ1:=⟨Tryz.f73,by kernel_rfl,by kernel_rfl⟩
theorem vi:Has Tryz.prog ma 49 [(2,(some (true,2)))] agd:=⟨Tryz.f74,by kernel_rfl,by kernel_rfl⟩
theorem Di:Has Tryz.prog qf 47 [(2,(some (true,2)))] agk:=⟨Tryz.f75,by kernel_rfl,by kernel_rfl⟩
theorem EJ:Has Tryz.prog oY 9 [(2,none)] agl:=⟨Tryz.f76,by kernel_rfl,by kernel_rfl⟩
theorem Kp:Has Tryz.prog vW 24 [(4,none)] agn:=⟨Tryz.f77,by kernel_rfl,by kernel_rfl⟩
theorem IL:Has Tryz.prog ud 18 [(2,none)] agC:=⟨Tryz.f78,by kernel_rfl,by kernel_rfl⟩
end Go.Abs

/-! Codes2 -/

namespace Go.Abs
abbrev agD:AC:= .seq (.block 1 (.seq (.run [.o 11 (.bA br b8 2), .o 12 (.load bG true 2), .o 5 (.alloc [(.str []),(.bool false)]), .op none none (.store bh bZ 2)]) (.run [.m 13 bF, .o 14 (.aq bh 0), .o 15 (.load bI false 1), .o 16 (.cG [(.str [])] 1 1 [(0,b9)]), .o 17 (.app 1 16 bT bX), .m 3 cy]))) (.run [.o 18 (.bin .add b8 (.k (.int .i64 1))), .m 9 cr])
abbrev agE:AC:= .block 0 (.loop (.seq (.run [.o 10 (.bin .lss b8 bP)]) (.seq (.cond bS .skip (.exit 0)) agD)))
abbrev agF:AC:= .seq (.seq (.run [.o 6 (.aq aY 1), .o 7 (.load bN false 1), .o 8 (.len br), .o 9 (.mv (.k (.int .i64 0)))]) agE) (.seq (.run [.m 19 bF, .m 2 cD]) .ret)
abbrev agG:AC:= .seq (.run [.o 1 (.box aQ), .o 2 (.mv (.k (.slice .full 0 [])))]) (.seq (.run [.o 3 (.mv (.k (.slice .full 0 [])))]) agF)
abbrev agH:AC:= .seq (.run [.o 1 (.box aQ), .o 2 (.mv (.k (.slice .full 0 [])))]) (.seq (.run [.o 3 (.aq aY 3), .o 4 (.load bF false 1),(.c 5 mb [cu,(.k (.int .i64 1)),(.k (.int .i64 0)),(.k (.bool false)),(.k (.slice .full 0 []))]), .m 2 bh]) .ret)
abbrev agI:AC:= .seq (.seq (.run [.o 31 (.aq bh 0), .o 32 (.load eo false 1)]) (.cond eZ (.run [.m 33 bF, .o 34 (.aq bh 1), .o 35 (.load fb false 1), .o 36 (.cG [(.str [])] 1 1 [(0,fh)]), .o 37 (.app 1 16 eJ fm), .m 3 fy]) .skip)) (.run [.m 38 bF, .o 39 (.aq bh 2), .o 40 (.load fM true 4), .c 41 qV [gj], .o 42 (.app 1 16 fR ga), .m 3 gO])
abbrev agJ:AC:= .seq (.block 1 (.seq (.run [.o 29 (.bA cW dH 6), .o 30 (.load ek true 6), .o 5 (.alloc [(.bool false),(.str []),(.int .i64 0),(.int .i64 0),(.str []),(.slice .full 0 [])]), .op none none (.store bh eY 6)]) agI)) (.run [.o 43 (.bin .add dH (.k (.int .i64 1))), .m 27 gX])
abbrev agK:AC:= .block 0 (.loop (.seq (.run [.o 28 (.bin .lss dH dP)]) (.seq (.cond dY .skip (.exit 0)) agJ)))
abbrev agL:AC:= .seq (.seq (.run [.o 24 (.aq aY 10), .o 25 (.load cU false 1), .o 26 (.len cW), .o 27 (.mv (.k (.int .i64 0)))]) agK) (.seq (.run [.m 44 bF, .m 2 ic]) .ret)
abbrev agM:AC:= .seq (.seq (.run [.o 6 (.aq aY 3), .o 7 (.load bN false 1), .o 8 (.bin .neq br (.k (.str []))), .m 9 bP, .g 10 9 true (.aq aY 1), .g 11 9 true (.load bS false 1), .g 12 9 true (.bin .neq bG (.k (.int .i64 10))), .o 13 (.pick b8 bZ (.k (.bool false)))]) (.cond bT (.run [.m 14 bF, .o 15 (.aq aY 3), .o 16 (.load b9 false 1), .o 17 (.cG [(.str [])] 1 1 [(0,bX)]), .o 18 (.app 1 16 bI cy), .m 3 cr]) .skip)) (.seq (.run [.m 19 bF, .o 20 (.aq aY 5), .o 21 (.load cR true 4), .c 22 qV [cM], .o 23 (.app 1 16 cD c9), .m 3 da]) agL)
abbrev agN:AC:= .seq (.run [.o 1 (.box aQ), .o 2 (.mv (.k (.slice .full 0 [])))]) (.seq (.run [.o 3 (.mv (.k (.slice .full 0 [])))]) agM)
abbrev agO:AC:= .par [.m 12 bF, .m 13 aQ, .m 14 cu, .o 15 (.bA bT bI 13), .o 16 (.aq b9 11), .o 17 (.load bX false 1), .c 18 ki [cy], .m 19 aQ, .m 20 cu, .o 21 (.bA cD cR 13), .o 22 (.aq cM 12), .o 23 (.load c9 false 1), .c 24 ki [da], .o 25 (.bin .add cr cU), .o 26 (.bin .add bZ cW), .m 3 dP] [(1,0),(2,0),(3,0),(4,0),(5,0),(6,0),(7,0),(8,0),(9,0),(10,0),(11,1),(12,0),(0,0),(13,0),(14,0),(15,0)]
abbrev agP:AC:= .seq (.cond bS .skip (.exit 0)) (.seq (.block 1 (.seq (.run [.m 11 b8, .m 4 bG]) agO)) (.run [.o 27 (.bin .add b8 (.k (.int .i64 1))), .m 9 dH]))
abbrev agQ:AC:= .seq (.run [.m 7 aQ, .o 8 (.len br), .o 9 (.mv (.k (.int .i64 0)))]) (.block 0 (.loop (.seq (.run [.o 10 (.bin .lss b8 bP)]) agP)))
abbrev agR:AC:= .seq (.run [.o 2 (.mv (.k (.int .i64 0)))]) (.seq (.run [.m 5 aQ, .o 6 (.len bh), .m 3 bN]) (.seq agQ (.seq (.run [.m 28 bF, .m 2 dY]) .ret)))
abbrev agS:AC:= .cond cU (.seq (.run [.o 2 (.mv (.k (.bool false)))]) .ret) .skip
abbrev agT:AC:= .run [.o 32 (.aq cu 0), .o 33 (.load eZ false 1), .c 34 jf [eJ], .o 35 (.un .not fb), .m 36 fh, .g 37 36 false (.aq cu 1), .g 38 36 false (.load fy false 1), .g 39 36 false (.len fR), .g 40 36 false (.bin .gtr fM (.k (.int .i64 8))), .o 41 (.pick fm (.k (.bool true)) gj), .m 42 ga, .g 43 42 false (.aq cu 2), .g 44 42 false (.load gX false 1), .g 45 42 false (.len ic), .g 46 42 false (.bin .gtr iT (.k (.int .i64 16))), .o 47 (.pick gO (.k (.bool true)) iU), .m 48 jc, .g 49 48 false (.aq cu 2), .g 50 48 false (.load iJ false 1), .d 51 48 false mS [jn], .g 52 48 false (.un .not jd), .o 53 (.pick iw (.k (.bool true)) jC), .m 54 jD, .g 55 54 false (.aq cu 4), .g 56 54 false (.load jT false 1), .d 57 54 false mS [lb], .g 58 54 false (.un .not kL), .o 59 (.pick jS (.k (.bool true)) ld)]
abbrev agU:AC:= .cond km (.seq (.run [.o 2 (.mv (.k (.bool false)))]) .ret) .skip
abbrev agV:AC:= .cond tt (.seq (.run [.o 2 (.mv (.k (.bool false)))]) .ret) .skip
abbrev agW:AC:= .seq (.block 3 (.seq (.run [.o 65 (.bA oi nI 2), .o 66 (.load rP true 2), .o 6 (.alloc [(.str []),(.bool false)]), .op none none (.store bN tr 2)]) (.seq (.run [.o 67 (.aq bN 0), .o 68 (.load rQ false 1), .c 69 jf [rR], .o 70 (.un .not vg)]) agV))) (.run [.o 71 (.bin .add nI (.k (.int .i64 1))), .m 63 yy])
abbrev agX:AC:= .block 2 (.loop (.seq (.run [.o 64 (.bin .lss nI o3)]) (.seq (.cond pM .skip (.exit 2)) agW)))
abbrev agY:AC:= .seq (.seq agT agU) (.seq (.run [.o 60 (.aq cu 1), .o 61 (.load nH false 1), .o 62 (.len oi), .o 63 (.mv (.k (.int .i64 0)))]) agX)
abbrev agZ:AC:= .seq (.block 1 (.seq (.run [.o 30 (.bA dP dY 5), .o 31 (.load eY true 5), .o 4 (.alloc [(.str []),(.slice .full 0 []),(.slice .full 0 []),(.slice .full 0 []),(.slice .full 0 [])]), .op none none (.store cu eo 5)]) agY)) (.run [.o 72 (.bin .add dY (.k (.int .i64 1))), .m 28 w7])
abbrev ag0:AC:= .block 0 (.loop (.seq (.run [.o 29 (.bin .lss dY dH)]) (.seq (.cond ek .skip (.exit 0)) agZ)))
abbrev ag1:AC:= .cond yB (.seq (.run [.o 2 (.mv (.k (.bool false)))]) .ret) .skip
abbrev ag2:AC:= .run [.m 83 br, .m 84 bP, .o 85 (.bA Cp Ap 16), .o 86 (.aq Ev 0), .o 87 (.aq Ew 0), .o 88 (.load Ey false 1), .m 89 bP, .o 90 (.bin .add EA (.k (.int .i64 1))), .o 91 (.bin .neq Ez EB), .m 92 EC, .g 93 92 false (.mv br), .g 94 92 false (.mv bP), .g 95 92 false (.bA IE IF 16), .g 96 92 false (.aq IG 13), .g 97 92 false (.load Nn false 1), .g 98 92 false (.bin .gtr No (.k (.int .i64 12))), .o 99 (.pick ED (.k (.bool true)) Np), .m 100 Nq, .g 101 100 false (.mv br), .g 102 100 false (.mv bP), .g 103 100 false (.bA Hi Hj 16), .g 104 100 false (.aq Hk 0), .g 105 100 false (.load Hl true 13), .d 106 100 false yw [Hm], .g 107 100 false (.un .not Hn), .o 108 (.pick Hh (.k (.bool true)) Ho)]
abbrev ag3:AC:= .cond Hp (.seq (.run [.o 2 (.mv (.k (.bool false)))]) .ret) .skip
abbrev ag4:AC:= .seq (.cond Co .skip (.exit 4)) (.seq (.block 5 (.seq (.run [.m 82 yC, .m 8 Ao]) (.seq ag2 ag3))) (.run [.o 109 (.bin .add yC (.k (.int .i64 1))), .m 80 Hq]))
abbrev ag5:AC:= .seq (.run [.m 78 br, .o 79 (.len w9), .o 80 (.mv (.k (.int .i64 0)))]) (.block 4 (.loop (.seq (.run [.o 81 (.bin .lss yC Cn)]) ag4)))
abbrev ag6:AC:= .seq ag5 (.seq (.run [.o 2 (.mv (.k (.bool true)))]) .ret)
abbrev ag7:AC:= .seq (.seq (.run [.m 75 br, .o 76 (.len yA), .o 77 (.bin .gtr tu (.k (.int .i64 200)))]) ag1) ag6
abbrev ag8:AC:= .seq (.seq (.run [.o 25 (.aq aY 1), .o 26 (.load cW false 1), .o 27 (.len dP), .o 28 (.mv (.k (.int .i64 0)))]) ag0) (.seq (.run [.o 73 (.load aY true 2), .c 74 qO [yz], .m 7 w8]) ag7)
abbrev ag9:AC:= .seq (.seq (.run [.o 9 (.aq aY 0), .o 10 (.load b8 false 1), .o 11 (.len bS), .o 12 (.bin .gtr bG (.k (.int .i64 16))), .m 13 bZ, .g 14 13 false (.aq aY 1), .g 15 13 false (.load bI false 1), .g 16 13 false (.len b9), .g 17 13 false (.bin .gtr bX (.k (.int .i64 16))), .o 18 (.pick bT (.k (.bool true)) cy), .m 19 cr, .g 20 19 false (.aq aY 0), .g 21 19 false (.load cR false 1), .d 22 19 false mS [cM], .g 23 19 false (.un .not c9), .o 24 (.pick cD (.k (.bool true)) da)]) agS) ag8
abbrev aha:AC:= .seq (.run [.o 1 (.box aQ), .o 2 (.mv (.k (.bool false)))]) ag9
abbrev ahb:AC:= .seq (.run [.m 3 aQ,(.o 4 (.build [(.int .i64 0),(.int .i64 0),(.str []),(.slice .full 0 [])] [(0,(1,(.k (.int .i64 1)))),(1,(1,bF))])), .op none none (.store cQ cu 4)]) .ret
abbrev ahc:AC:= .seq (.run [.o 2 (.alloc [(.int .i64 0),(.int .i64 0),(.str []),(.slice .full 0 [])])]) ahb
abbrev ahd:AC:= .seq (.run [.m 3 aQ,(.o 4 (.build [(.int .i64 0),(.int .i64 0),(.str []),(.slice .full 0 [])] [(0,(1,(.k (.int .i64 2)))),(2,(1,bF))])), .op none none (.store cQ cu 4)]) .ret
abbrev ahe:AC:= .seq (.run [.o 2 (.alloc [(.int .i64 0),(.int .i64 0),(.str []),(.slice .full 0 [])])]) ahd
abbrev ahf:AC:= .seq (.run [.o 4 (.box aY), .o 5 (.box cQ), .o 6 (.alloc [(.int .i64 0),(.int .i64 0),(.str []),(.slice .full 0 [])])]) (.seq (.run [.m 7 aQ, .o 8 (.load cu true 4), .o 9 (.load bh true 4), .o 10 (.cG [(.int .i64 0),(.int .i64 0),(.str []),(.slice .full 0 [])] 4 2 [(0,bP),(1,b8)]), .o 11 (.build [(.int .i64 0),(.int .i64 0),(.str []),(.slice .full 0 [])] [(0,(1,br)),(3,(1,bS))]), .op none none (.store bN bG 4)]) .ret)
abbrev ahg:AC:= .seq (.seq (.run [.m 10 bh, .o 11 (.aq cQ 3), .o 12 (.load bG false 1), .o 13 (.len bZ), .o 14 (.bin .lss bS bT), .m 15 bI, .g 16 15 true (.mv aY), .g 17 15 true (.bin .leq bX (.k (.int .i64 20000))), .o 18 (.pick b9 cy (.k (.bool false)))]) (.cond cr .skip (.exit 0))) (.seq (.block 1 (.run [.o 21 (.aq cQ 3), .o 22 (.load cM false 1), .m 23 bh, .o 24 (.bA c9 da 4), .o 25 (.load cU true 4), .m 26 aY, .c 27 jQ [cW,dP], .m 1 dH])) (.run [.m 19 bh, .o 20 (.bin .add cD (.k (.int .i64 1))), .m 5 cR]))
abbrev ahh:AC:= .seq (.seq (.run [.o 5 (.mv (.k (.int .i64 0)))]) (.block 0 (.loop ahg))) (.seq (.run [.m 28 aY, .m 4 dY]) .ret)
abbrev ahi:AC:= .seq (.run [.o 2 (.box aQ), .o 4 (.mv (.k (.int .i64 0)))]) (.seq (.run [.o 6 (.aq cQ 2), .o 7 (.load bN false 1), .m 8 aY, .c 9 gh [br,bP], .m 1 b8]) ahh)
abbrev ahj:AC:= .seq (.run [.o 4 (.alloc [(.int .i64 0),(.int .i64 0)])]) (.seq (.run [.m 5 aQ, .m 6 aY, .o 7 (.build [(.int .i64 0),(.int .i64 0)] [(0,(1,bh)),(1,(1,bN))]), .op none none (.store cu br 2)]) .ret)
abbrev ahk:AC:= .cond cr (.seq (.run [.o 19 (.load br true 5), .op none none (.store cu cD 5), .o 5 (.mv (.k (.bool true)))]) .ret) .skip
abbrev ahl:AC:= .seq (.block 1 (.seq (.run [.o 13 (.bA b8 bG 5), .o 14 (.load bT true 5), .o 7 (.alloc [(.str []),(.slice .full 0 []),(.slice .full 0 []),(.slice .full 0 []),(.slice .full 0 [])]), .op none none (.store br bI 5)]) (.seq (.run [.o 15 (.aq br 0), .o 16 (.load b9 false 1), .m 17 aY, .o 18 (.bin .eql bX cy)]) ahk))) (.run [.o 20 (.bin .add bG (.k (.int .i64 1))), .m 11 cR])
abbrev ahm:AC:= .block 0 (.loop (.seq (.run [.o 12 (.bin .lss bG bS)]) (.seq (.cond bZ .skip (.exit 0)) ahl)))
abbrev ahn:AC:= .seq (.seq (.run [.o 8 (.aq cQ 1), .o 9 (.load bP false 1), .o 10 (.len b8), .o 11 (.mv (.k (.int .i64 0)))]) ahm) (.seq (.run [.o 21 (.build [(.str []),(.slice .full 0 []),(.slice .full 0 []),(.slice .full 0 []),(.slice .full 0 [])] []), .op none none (.store cu cM 5), .o 5 (.mv (.k (.bool false)))]) .ret)
abbrev aho:AC:= .seq (.run [.o 2 (.box aQ), .o 4 (.alloc [(.str []),(.slice .full 0 []),(.slice .full 0 []),(.slice .full 0 []),(.slice .full 0 [])]), .o 5 (.mv (.k (.bool false)))]) ahn
abbrev ahp:AC:= .par [.m 15 aQ, .m 16 bF, .o 17 (.bA b9 bX 1), .o 18 (.load cy false 1), .m 19 aQ, .m 20 cu, .o 21 (.bA cD cR 1), .o 22 (.load cM false 1), .o 23 (.bin .eql cr c9)] [(0,0),(1,0),(2,0),(3,0),(4,0),(5,0),(6,0),(7,0),(8,0)]
abbrev ahq:AC:= .cond da (.seq (.run [.o 2 (.mv (.k (.bool true)))]) .ret) .skip
abbrev ahr:AC:= .seq (.seq (.run [.m 10 cu, .m 11 bF, .o 12 (.bin .lss bS bG)]) (.cond bZ .skip (.exit 2))) (.seq (.block 3 (.seq ahp ahq)) (.run [.m 13 cu, .o 14 (.bin .add bT (.k (.int .i64 1))), .m 4 bI]))
abbrev ahs:AC:= .seq (.run [.m 9 br, .m 3 b8]) (.seq (.run [.o 4 (.mv (.k (.int .i64 0)))]) (.block 2 (.loop ahr)))
abbrev aht:AC:= .seq (.cond bP .skip (.exit 0)) (.seq (.block 1 ahs) (.run [.o 24 (.bin .add br (.k (.int .i64 1))), .m 7 cU]))
abbrev ahu:AC:= .seq (.run [.m 5 aQ, .o 6 (.len bh), .o 7 (.mv (.k (.int .i64 0)))]) (.block 0 (.loop (.seq (.run [.o 8 (.bin .lss br bN)]) aht)))
abbrev ahv:AC:= .seq ahu (.seq (.run [.o 2 (.mv (.k (.bool false)))]) .ret)
abbrev ahw:AC:= .seq (.run [.o 2 (.mv (.k (.bool false)))]) ahv
abbrev ahx:AC:= .cond da (.seq (.run [.o 6 (.mv (.k (.int .i64 3)))]) .ret) .skip
abbrev ahy:AC:= .cond dH (.seq (.run [.o 6 (.mv (.k (.int .i64 2)))]) .ret) .skip
abbrev ahz:AC:= .seq (.seq (.run [.o 16 (.aq bP 0), .o 17 (.load bX false 1), .m 18 cQ, .o 19 (.bin .eql cy cr), .m 20 cD, .g 21 20 true (.aq bP 1), .g 22 20 true (.load cM false 1), .o 23 (.pick cR c9 (.k (.bool false)))]) ahx) (.seq (.run [.o 24 (.aq bP 0), .o 25 (.load cU false 1), .m 26 cQ, .o 27 (.bin .eql cW dP)]) ahy)
abbrev ahA:AC:= .seq (.block 1 (.seq (.run [.o 14 (.bA bS bZ 2), .o 15 (.load bI true 2), .o 8 (.alloc [(.str []),(.bool false)]), .op none none (.store bP b9 2)]) ahz)) (.run [.o 28 (.bin .add bZ (.k (.int .i64 1))), .m 12 dY])
abbrev ahB:AC:= .block 0 (.loop (.seq (.run [.o 13 (.bin .lss bZ bG)]) (.seq (.cond bT .skip (.exit 0)) ahA)))
abbrev ahC:AC:= .cond fb (.seq (.run [.o 6 (.mv (.k (.int .i64 1)))]) .ret) .skip
abbrev ahD:AC:= .cond ek (.seq (.run [.o 6 (.mv (.k (.int .i64 4)))]) .ret) (.seq (.run [.o 35 (.aq bF 0), .o 36 (.load fh false 1), .m 37 cQ, .c 38 kg [fm,fy], .m 34 fR]) ahC)
abbrev ahE:AC:= .seq (.block 2 (.seq (.run [.o 30 (.aq cu 2), .o 31 (.load eY false 1), .m 32 cQ, .c 33 kg [eo,eZ], .m 29 eJ]) ahD)) (.seq (.run [.o 6 (.mv (.k (.int .i64 0)))]) .ret)
abbrev ahF:AC:= .seq (.seq (.run [.o 9 (.aq cu 1), .o 10 (.load b8 false 1), .o 11 (.len bS), .o 12 (.mv (.k (.int .i64 0)))]) ahB) ahE
abbrev ahG:AC:= .seq (.run [.o 3 (.box aQ), .o 4 (.box aY), .o 6 (.mv (.k (.int .i64 0)))]) ahF
abbrev ahH:AC:= .cond eY (.seq (.run [.o 4 (.mv (.k (.bool false)))]) .ret) .skip
abbrev ahI:AC:= .par [.o 37 (.aq bF 10), .o 38 (.load fy false 1), .m 39 br, .o 40 (.bA fR fM 6), .o 41 (.aq gj 0), .o 42 (.load ga false 1), .o 43 (.aq bh 1), .o 44 (.load gX false 1), .m 45 br, .o 46 (.bA ic iT 2), .o 47 (.aq iU 1), .o 48 (.load jc false 1), .o 49 (.ze true gO iw)] [(0,0),(1,0),(2,0),(3,0),(4,0),(5,0),(6,0),(7,0),(8,0),(9,0),(10,0),(11,0),(12,0)]
abbrev ahJ:AC:= .cond iJ (.seq (.run [.o 4 (.mv (.k (.bool false)))]) .ret) .skip
abbrev ahK:AC:= .seq (.cond fh .skip (.exit 0)) (.seq (.block 1 (.seq (.run [.m 36 fb, .m 7 fm]) (.seq ahI ahJ))) (.run [.o 50 (.bin .add fb (.k (.int .i64 1))), .m 34 jn]))
abbrev ahL:AC:= .seq (.run [.o 31 (.aq bF 10), .o 32 (.load eo false 1), .o 33 (.len eZ), .o 34 (.mv (.k (.int .i64 0)))]) (.block 0 (.loop (.seq (.run [.o 35 (.bin .lss fb eJ)]) ahK)))
abbrev ahM:AC:= .seq ahL (.seq (.run [.o 4 (.mv (.k (.bool true)))]) .ret)
abbrev ahN:AC:= .seq (.seq (.run [.o 15 (.aq bF 1), .o 16 (.load b9 false 1), .o 17 (.bin .neq bX (.k (.int .i64 4))), .m 18 cy, .g 19 18 false (.mv bN), .g 20 18 false (.un .not cD), .o 21 (.pick cr (.k (.bool true)) cR), .m 22 cM, .g 23 22 false (.aq bF 10), .g 24 22 false (.load da false 1), .g 25 22 false (.len cU), .g 26 22 false (.aq bh 1), .g 27 22 false (.load dP false 1), .g 28 22 false (.len dH), .g 29 22 false (.bin .neq cW dY), .o 30 (.pick c9 (.k (.bool true)) ek)]) ahH) ahM
abbrev ahO:AC:= .seq (.run [.o 2 (.box aQ), .o 3 (.box aY), .o 4 (.mv (.k (.bool false)))]) (.seq (.run [.o 9 (.load cQ true 2), .o 10 (.aq bF 4), .o 11 (.load bS false 1), .c 12 k9 [b8,bG], .m 8 bZ, .o 13 (.ext bP 0), .o 14 (.ext bP 1), .o 5 (.alloc [(.str []),(.slice .full 0 []),(.slice .full 0 []),(.slice .full 0 []),(.slice .full 0 [])]), .op none none (.store bh bT 5), .m 6 bI]) ahN)
abbrev ahP:AC:= .cond jD (.seq (.run [.m 54 br, .m 4 jS, .o 5 (.mv (.k (.bool true)))]) .ret) .skip
abbrev ahQ:AC:= .seq (.seq (.run [.m 47 aQ, .m 48 bP, .o 49 (.bA jc iw 16), .o 50 (.aq iJ 0), .o 51 (.aq jn 1), .o 52 (.load jd false 1), .o 53 (.bin .eql jC (.k (.int .i64 6)))]) ahP) (.run [.m 55 aQ, .m 56 bP, .o 57 (.bA jT lb 16), .o 58 (.aq kL 14), .o 59 (.load ld false 1), .m 7 km])
abbrev ahR:AC:= .seq (.block 3 (.seq (.seq (.run [.m 39 aQ, .m 40 bP, .o 41 (.bA fM gj 16), .o 42 (.aq ga 0), .o 43 (.aq gO 0), .o 44 (.load gX false 1), .m 45 br, .o 46 (.bin .neq ic iT)]) (.cond iU (.exit 3) .skip)) ahQ)) (.run [.m 37 bP, .o 38 (.bin .sub fy (.k (.int .i64 1))), .m 8 fR])
abbrev ahS:AC:= .seq (.seq (.run [.m 31 bP, .o 32 (.bin .geq eo (.k (.int .i64 0))), .m 33 eZ, .g 34 33 true (.mv br), .g 35 33 true (.bin .neq fb (.k (.int .i64 0))), .o 36 (.pick eJ fh (.k (.bool false)))]) (.cond fm .skip (.exit 2))) ahR
abbrev ahT:AC:= .seq (.run [.m 24 aQ, .m 25 bN, .o 26 (.bA cU cW 16), .o 27 (.aq dP 14), .o 28 (.load dH false 1), .m 7 dY]) (.seq (.run [.m 29 bN, .o 30 (.bin .sub ek (.k (.int .i64 1))), .m 8 eY]) (.block 2 (.loop ahS)))
abbrev ahU:AC:= .seq (.block 1 (.seq (.seq (.run [.m 16 aQ, .m 17 bN, .o 18 (.bA bX cy 16), .o 19 (.aq cr 0), .o 20 (.aq cD 0), .o 21 (.load cR false 1), .m 22 aY, .o 23 (.bin .neq cM c9)]) (.cond da (.exit 1) .skip)) ahT)) (.run [.m 14 bN, .o 15 (.bin .sub bI (.k (.int .i64 1))), .m 6 b9])
abbrev ahV:AC:= .seq (.seq (.run [.m 12 bN, .o 13 (.bin .geq bZ (.k (.int .i64 0)))]) (.cond bT .skip (.exit 0))) ahU
abbrev ahW:AC:= .seq (.seq (.run [.m 9 aQ, .o 10 (.len b8), .o 11 (.bin .sub bS (.k (.int .i64 1))), .m 6 bG]) (.block 0 (.loop ahV))) (.seq (.run [.o 4 (.mv (.k (.int .i64 0))), .o 5 (.mv (.k (.bool false)))]) .ret)
abbrev ahX:AC:= .seq (.run [.o 4 (.mv (.k (.int .i64 0))), .o 5 (.mv (.k (.bool false)))]) ahW
abbrev ahY:AC:= .seq (.block 1 (.seq (.run [.o 11 (.bA br b8 16), .o 12 (.load bG true 16), .o 5 (.alloc [(.int .i64 0),(.int .i64 0),(.slice .full 0 []),(.str []),(.str []),(.int .i64 0),(.int .i64 0),(.str []),(.slice .full 0 []),(.bool false),(.slice .full 0 []),(.slice .full 0 []),(.slice .full 0 []),(.int .i64 0),(.int .i64 0),(.bool false)]), .op none none (.store bh bZ 16)]) (.run [.m 13 bF, .o 14 (.aq bh 0), .o 15 (.aq bI 2), .o 16 (.load b9 false 1), .o 17 (.app 1 16 bT bX), .m 3 cy]))) (.run [.o 18 (.bin .add b8 (.k (.int .i64 1))), .m 9 cr])
abbrev ahZ:AC:= .block 0 (.loop (.seq (.run [.o 10 (.bin .lss b8 bP)]) (.seq (.cond bS .skip (.exit 0)) ahY)))
abbrev ah0:AC:= .seq (.seq (.run [.o 6 (.load aY true 5), .c 7 kR [bN], .o 8 (.len br), .o 9 (.mv (.k (.int .i64 0)))]) ahZ) (.seq (.run [.m 19 bF, .o 20 (.aq aY 4), .o 21 (.load cR false 1), .o 22 (.app 1 16 cD cM), .m 2 c9]) .ret)
abbrev ah1:AC:= .seq (.run [.o 1 (.box aQ), .o 2 (.mv (.k (.slice .full 0 [])))]) (.seq (.run [.o 3 (.mv (.k (.slice .full 0 [])))]) ah0)
abbrev ah2:AC:= .cond bG (.seq (.run [.o 4 (.mv (.k (.bool false)))]) .ret) .skip
abbrev ah3:AC:= .par [.o 27 (.aq br 0), .o 28 (.load dH false 1), .m 29 dY, .g 30 29 true (.mv bh), .g 31 29 true (.aq br 1), .g 32 29 true (.load eo false 1), .d 33 29 true kg [eY,eZ], .g 34 29 true (.mv eJ), .g 35 34 false (.load cQ true 2), .g 36 34 false (.aq bF 4), .g 37 34 false (.load fm false 1), .d 38 34 false rO [fh,fy], .g 39 34 false (.aq br 1), .g 40 34 false (.load fM false 1), .d 41 34 false kg [fR,gj], .g 42 29 true (.pick fb (.k (.bool true)) ga), .o 43 (.pick ek gO (.k (.bool false)))] [(0,0),(1,0),(2,0),(3,0),(4,0),(5,0),(6,0),(7,0),(8,0),(9,0),(10,0),(11,0),(12,0),(13,1),(14,0),(15,0),(16,0)]
abbrev ah4:AC:= .cond gX (.seq (.run [.o 4 (.mv (.k (.bool false)))]) .ret) .skip
abbrev ah5:AC:= .seq (.seq ah3 ah4) (.seq (.run [.o 44 (.aq br 0), .o 45 (.load ic false 1)]) (.cond iT (.run [.m 46 bh, .o 47 (.aq br 1), .o 48 (.load jc false 1), .o 49 (.cG [(.str [])] 1 1 [(0,iw)]), .o 50 (.app 1 16 iU iJ), .m 5 jn]) .skip))
abbrev ah6:AC:= .seq (.block 1 (.seq (.run [.o 25 (.bA cM da 6), .o 26 (.load cW true 6), .o 7 (.alloc [(.bool false),(.str []),(.int .i64 0),(.int .i64 0),(.str []),(.slice .full 0 [])]), .op none none (.store br dP 6)]) ah5)) (.run [.o 51 (.bin .add da (.k (.int .i64 1))), .m 23 jd])
abbrev ZQ:AC:= .seq (.run [.o 24 (.bin .lss da c9)]) (.seq (.cond cU .skip (.exit 0)) ah6)
abbrev ZR:AC:= .seq (.run [.o 4 (.mv (.k (.bool true)))]) .ret
abbrev ah7:AC:= .seq (.seq (.run [.o 20 (.aq bF 10), .o 21 (.load cR false 1), .o 22 (.len cM), .o 23 (.mv (.k (.int .i64 0)))]) (.block 0 (.loop ZQ))) ZR
abbrev ah8:AC:= .seq (.seq (.run [.o 12 (.aq bF 3), .o 13 (.load bZ false 1), .o 14 (.bin .neq bT (.k (.str [])))]) (.cond bI (.run [.m 15 bh, .o 16 (.aq bF 3), .o 17 (.load bX false 1), .o 18 (.cG [(.str [])] 1 1 [(0,cy)]), .o 19 (.app 1 16 b9 cr), .m 5 cD]) .skip)) ah7
abbrev ah9:AC:= .seq (.seq (.run [.o 8 (.load cQ true 2), .o 9 (.load bF true 13), .c 10 oy [bP,b8], .o 11 (.un .not bS)]) ah2) (.seq (.run [.o 5 (.mv (.k (.slice .full 0 [])))]) ah8)
abbrev aia:AC:= .seq (.run [.o 2 (.box aQ), .o 3 (.box aY), .o 4 (.mv (.k (.bool false)))]) ah9
abbrev aib:AC:= .par [.o 10 (.aq aY 9), .o 11 (.load bS false 1), .o 3 (.mv (.k (.bool false))), .o 4 (.mv (.k (.bool false))), .o 5 (.mv (.k (.bool false))), .m 6 bG, .o 7 (.mv (.k (.bool false))), .o 8 (.mv (.k (.bool false)))] [(0,0),(1,0),(2,0),(3,0),(4,0),(5,0),(6,0),(7,0)]
abbrev aic:AC:= .seq (.run [.o 20 (.bin .eql bX (.k (.int .i64 2))), .m 19 cR]) (.cond cD .skip (.run [.o 21 (.bin .eql bX (.k (.int .i64 10))), .m 19 cM]))
abbrev aid:AC:= .seq (.run [.o 38 (.bin .eql bX (.k (.int .i64 7))), .m 37 fR]) (.cond fy .skip (.run [.o 39 (.bin .eql bX (.k (.int .i64 8))), .m 37 fM]))
abbrev aie:AC:= .cond fy .skip (.seq (.run [.o 2 (.mv (.k (.bool false)))]) .ret)
abbrev aif:AC:= .seq (.run [.o 34 (.bin .eql bX (.k (.int .i64 9))), .m 33 fb]) (.cond eJ (.run [.o 35 (.aq aY 9), .o 36 (.load fh false 1), .m 5 fm, .o 6 (.mv (.k (.bool false)))]) (.seq aid aie))
abbrev aih:AC:= .seq (.run [.o 32 (.bin .eql bX (.k (.int .i64 6))), .m 31 eZ]) (.cond eo (.run [.o 5 (.mv (.k (.bool true))), .o 7 (.mv (.k (.bool true)))]) aif)
abbrev aii:AC:= .seq (.run [.o 30 (.bin .eql bX (.k (.int .i64 5))), .m 29 eY]) (.cond ek (.run [.o 5 (.mv (.k (.bool true))), .o 7 (.mv (.k (.bool true))), .o 8 (.mv (.k (.bool true)))]) aih)
abbrev aij:AC:= .seq (.run [.o 25 (.bin .eql bX (.k (.int .i64 4))), .m 24 cW]) (.cond cU (.run [.o 26 (.aq aY 3), .o 27 (.load dP false 1), .o 28 (.bin .neq dH (.k (.str []))), .m 3 dY, .o 4 (.mv (.k (.bool true)))]) aii)
abbrev aik:AC:= .seq (.run [.o 23 (.bin .eql bX (.k (.int .i64 3))), .m 22 da]) (.cond c9 (.run [.o 5 (.mv (.k (.bool true)))]) aij)
abbrev ail:AC:= .seq aic (.cond cD (.run [.o 3 (.mv (.k (.bool true)))]) aik)
abbrev aim:AC:= .seq (.run [.o 18 (.bin .eql bX (.k (.int .i64 1))), .m 17 cr]) (.cond cy (.run [.o 3 (.mv (.k (.bool true))), .o 5 (.mv (.k (.bool true)))]) ail)
abbrev ain:AC:= .run [.m 40 bN, .m 41 gj, .g 42 41 false (.mv br), .g 43 41 false (.un .not gO), .g 44 41 false (.mv gX), .g 45 44 true (.aq aY 11), .g 46 44 true (.load iT false 1), .g 47 44 true (.len iU), .g 48 44 true (.bin .gtr jc (.k (.int .i64 0))), .g 49 41 false (.pick ic iw (.k (.bool false))), .o 50 (.pick ga (.k (.bool true)) iJ), .m 51 jn, .g 52 51 false (.mv bP), .g 53 51 false (.un .not jC), .g 54 51 false (.mv jD), .g 55 54 true (.aq aY 12), .g 56 54 true (.load jT false 1), .g 57 54 true (.len lb), .g 58 54 true (.bin .gtr kL (.k (.int .i64 0))), .g 59 51 false (.pick jS ld (.k (.bool false))), .o 60 (.pick jd (.k (.bool true)) km), .m 61 nH, .g 62 61 false (.mv b8), .g 63 61 false (.un .not o3), .g 64 61 false (.mv nI), .g 65 64 true (.aq aY 10), .g 66 64 true (.load rP false 1), .g 67 64 true (.len tr), .g 68 64 true (.bin .gtr rQ (.k (.int .i64 0))), .g 69 61 false (.pick pM rR (.k (.bool false))), .o 70 (.pick oi (.k (.bool true)) vg)]
abbrev aio:AC:= .cond tt (.seq (.run [.o 2 (.mv (.k (.bool false)))]) .ret) .skip
abbrev aip:AC:= .cond EA (.seq (.run [.o 2 (.mv (.k (.bool false)))]) .ret) .skip
abbrev ZS:AC:= .seq (.seq (.run [.o 71 (.aq aY 3), .o 72 (.load yy false 1), .m 73 bF, .c 74 oZ [w7,yz], .o 75 (.un .not w8), .m 76 yA, .g 77 76 false (.aq aY 4), .g 78 76 false (.load yB false 1), .g 79 76 false (.mv cu), .d 80 76 false oZ [w9,Cn], .g 81 76 false (.un .not yC), .o 82 (.pick tu (.k (.bool true)) Co), .m 83 Ao, .g 84 83 false (.aq aY 5), .g 85 83 false (.load Ap true 4), .g 86 83 false (.mv bh), .d 87 83 false qW [Ev,Ew], .g 88 83 false (.un .not Ey), .o 89 (.pick Cp (.k (.bool true)) Ez)]) aip) (.seq (.run [.o 90 (.aq aY 10), .o 91 (.load EB false 1), .c 92 tn [EC], .m 2 ED]) .ret)
abbrev ZT:AC:= .seq (.seq ain aio) ZS
abbrev Tp:AC:= .seq (.seq (.run [.o 15 (.aq aY 1), .o 16 (.load b9 false 1)]) (.block 0 aim)) ZT
abbrev ZU:AC:= .seq (.run [.o 12 (.aq aY 1), .o 13 (.load bZ false 1), .o 14 (.bin .eql bT (.k (.int .i64 4))), .m 9 bI]) Tp
abbrev ZV:AC:= .seq aib ZU
abbrev aiq:AC:= .seq (.run [.o 1 (.box aQ), .o 2 (.mv (.k (.bool false)))]) ZV
abbrev air:AC:= .par [.m 37 aQ, .m 38 aQ, .o 39 (.dv fR), .o 40 (.aq fM 2), .o 41 (.load gj false 1), .o 42 (.load b8 true 17), .o 43 (.cG [(.int .i64 0),(.int .i64 0),(.slice .full 0 []),(.str []),(.str []),(.int .i64 0),(.int .i64 0),(.str []),(.slice .full 0 []),(.bool false),(.slice .full 0 []),(.slice .full 0 []),(.slice .full 0 []),(.int .i64 0),(.int .i64 0),(.int .i64 0),(.int .i64 0)] 17 1 [(0,gO)]), .o 44 (.app 17 240 ga gX), .o 45 (.dv fy), .o 46 (.aq iT 2), .op none none (.store iU ic 1)] [(1,0),(2,0),(3,0),(4,0),(5,0),(6,0),(7,0),(0,0),(8,0),(9,0),(10,0)]
abbrev ais:AC:= .run [.o 47 (.aq bh 13), .o 48 (.load jc false 1), .m 49 bP, .o 50 (.aq b8 15), .o 51 (.load jn false 1), .o 52 (.aq bh 16), .o 53 (.load jC false 1), .o 54 (.build [(.int .i64 0),(.int .i64 0),(.slice .full 0 []),(.str []),(.str []),(.int .i64 0),(.int .i64 0),(.str []),(.slice .full 0 []),(.bool false),(.slice .full 0 []),(.slice .full 0 []),(.slice .full 0 []),(.int .i64 0),(.int .i64 0),(.int .i64 0),(.int .i64 0)] [(13,(1,iw)),(14,(1,iJ)),(15,(1,jd)),(16,(1,jD))]), .o 10 (.alloc [(.int .i64 0),(.int .i64 0),(.slice .full 0 []),(.str []),(.str []),(.int .i64 0),(.int .i64 0),(.str []),(.slice .full 0 []),(.bool false),(.slice .full 0 []),(.slice .full 0 []),(.slice .full 0 []),(.int .i64 0),(.int .i64 0),(.int .i64 0),(.int .i64 0)]), .op none none (.store bS jS 17)]
abbrev ait:AC:= .seq (.seq (.run [.o 55 (.aq br 1), .o 56 (.load jT false 1), .o 57 (.bin .eql lb (.k (.int .i64 6)))]) (.cond kL (.run [.m 58 bP, .m 59 bP, .o 60 (.aq bS 15), .op none none (.store nH ld 1), .o 61 (.aq bS 16), .op none none (.store oi km 1)]) .skip)) (.seq (.run [.m 62 aQ, .o 63 (.aq br 11), .o 64 (.load nI false 1), .o 65 (.load bS true 17), .c 66 jR [o3,pM,rP]]) (.run [.m 67 aQ, .o 68 (.aq br 12), .o 69 (.load rR false 1), .o 70 (.load bS true 17), .c 71 jR [rQ,vg,tt]]))
abbrev aiu:AC:= .seq (.seq (.run [.m 27 bN, .o 28 (.bin .add dH (.k (.int .i64 1))), .m 29 aY, .o 30 (.len ek), .o 31 (.bin .lss dY eY)]) (.cond eo (.run [.m 32 bP, .o 33 (.load br true 13), .c 34 mc [eJ], .o 35 (.bin .add eZ fb), .o 36 (.aq b8 15), .op none none (.store fm fh 1)]) .skip)) (.seq air (.seq ais ait))
abbrev aiv:AC:= .seq (.run [.m 15 bT, .o 16 (.bA bG bT 13), .o 17 (.load bX true 13), .o 7 (.alloc [(.int .i64 0),(.int .i64 0),(.slice .full 0 []),(.str []),(.str []),(.int .i64 0),(.int .i64 0),(.str []),(.slice .full 0 []),(.bool false),(.slice .full 0 []),(.slice .full 0 []),(.slice .full 0 [])]), .m 6 b9, .op none none (.store br cy 13)]) (.seq (.run [.m 18 aQ, .o 19 (.dv cr), .o 20 (.aq cD 2), .o 21 (.load cR false 1), .o 22 (.len cM), .o 23 (.bin .add c9 (.k (.int .i64 1))), .m 8 da]) (.seq (.run [.o 24 (.load bh true 17), .o 9 (.alloc [(.int .i64 0),(.int .i64 0),(.slice .full 0 []),(.str []),(.str []),(.int .i64 0),(.int .i64 0),(.str []),(.slice .full 0 []),(.bool false),(.slice .full 0 []),(.slice .full 0 []),(.slice .full 0 []),(.int .i64 0),(.int .i64 0),(.int .i64 0),(.int .i64 0)]), .op none none (.store b8 cU 17)]) (.seq (.run [.o 25 (.load br true 13), .o 26 (.aq b8 0), .op none none (.store dP cW 13)]) aiu)))
abbrev aiw:AC:= .seq (.cond bI .skip (.exit 0)) (.seq (.block 1 aiv) (.run [.o 72 (.bin .add bT (.k (.int .i64 1))), .m 13 w7]))
abbrev aix:AC:= .seq (.run [.m 11 aY, .o 12 (.len bG), .o 13 (.mv (.k (.int .i64 0)))]) (.block 0 (.loop (.seq (.run [.o 14 (.bin .lss bT bZ)]) aiw)))
abbrev aiy:AC:= .seq (.run [.o 5 (.box cQ)]) aix
abbrev aiz:AC:= .block 1 (.seq (.run [.m 10 bP, .m 5 bS]) (.seq (.run [.m 11 aY, .m 12 aQ, .m 13 bh, .o 14 (.bA bZ bT 1), .o 15 (.load bI false 1),(.jg (some 16) none 11 [b9])]) (.cond bX (.seq (.run [.m 17 bh, .m 4 cy]) .ret) .skip)))
abbrev aiA:AC:= .seq (.cond b8 .skip (.exit 0)) (.seq aiz (.run [.o 18 (.bin .add bP (.k (.int .i64 1))), .m 8 cr]))
abbrev aiB:AC:= .seq (.run [.m 6 aQ, .o 7 (.len bN), .o 8 (.mv (.k (.int .i64 0)))]) (.block 0 (.loop (.seq (.run [.o 9 (.bin .lss bP br)]) aiA)))
abbrev aiC:AC:= .seq (.run [(.o 4 (.mv (.k (.int .i64 (-1)))))]) .ret
abbrev aiD:AC:= .seq (.run [.o 4 (.mv (.k (.int .i64 0)))]) (.seq aiB aiC)
abbrev aiE:AC:= .seq (.seq (.run [.o 31 (.aq bh 0), .o 32 (.load eo false 1)]) (.cond eZ (.run [.m 33 bF, .o 34 (.aq bh 1), .o 35 (.load fb false 1), .o 36 (.cG [(.str [])] 1 1 [(0,fh)]), .o 37 (.app 1 16 eJ fm), .m 3 fy]) .skip)) (.run [.m 38 bF, .o 39 (.aq bh 2), .o 40 (.load fM true 4), .c 41 qX [gj], .o 42 (.app 1 16 fR ga), .m 3 gO])
abbrev aiF:AC:= .seq (.block 1 (.seq (.run [.o 29 (.bA cW dH 6), .o 30 (.load ek true 6), .o 5 (.alloc [(.bool false),(.str []),(.int .i64 0),(.int .i64 0),(.str []),(.slice .full 0 [])]), .op none none (.store bh eY 6)]) aiE)) (.run [.o 43 (.bin .add dH (.k (.int .i64 1))), .m 27 gX])
abbrev aiG:AC:= .block 0 (.loop (.seq (.run [.o 28 (.bin .lss dH dP)]) (.seq (.cond dY .skip (.exit 0)) aiF)))
abbrev aiH:AC:= .seq (.seq (.run [.o 24 (.aq aY 10), .o 25 (.load cU false 1), .o 26 (.len cW), .o 27 (.mv (.k (.int .i64 0)))]) aiG) (.seq (.run [.m 44 bF, .m 2 ic]) .ret)
abbrev aiI:AC:= .seq (.seq (.run [.o 6 (.aq aY 1), .o 7 (.load bN false 1), .o 8 (.bin .neq br (.k (.int .i64 10))), .m 9 bP, .g 10 9 true (.aq aY 3), .g 11 9 true (.load bS false 1), .g 12 9 true (.bin .neq bG (.k (.str []))), .o 13 (.pick b8 bZ (.k (.bool false)))]) (.cond bT (.run [.m 14 bF, .o 15 (.aq aY 3), .o 16 (.load b9 false 1), .o 17 (.cG [(.str [])] 1 1 [(0,bX)]), .o 18 (.app 1 16 bI cy), .m 3 cr]) .skip)) (.seq (.run [.m 19 bF, .o 20 (.aq aY 5), .o 21 (.load cR true 4), .c 22 qX [cM], .o 23 (.app 1 16 cD c9), .m 3 da]) aiH)
abbrev aiJ:AC:= .seq (.run [.o 1 (.box aQ), .o 2 (.mv (.k (.slice .full 0 [])))]) (.seq (.run [.o 3 (.mv (.k (.slice .full 0 [])))]) aiI)
end Go.Abs

/-! Have2 -/

namespace Go.Abs
open Go.Proofs
theorem Dj:Has Tryz.prog td 20 [(2,none)] agG:=⟨Tryz.f82,by kernel_rfl,by kernel_rfl⟩
theorem GN:Has Tryz.prog kR 6 [(2,none)] agH:=⟨Tryz.f83,by kernel_rfl,by kernel_rfl⟩
theorem GO:Has Tryz.prog sn 45 [(2,none)] agN:=⟨Tryz.f84,by kernel_rfl,by kernel_rfl⟩
theorem EK:Has Tryz.prog ki 29 [(2,none)] agR:=⟨Tryz.f86,by kernel_rfl,by kernel_rfl⟩
theorem IM:Has Tryz.prog yu 110 [(2,none)] aha:=⟨Tryz.f91,by kernel_rfl,by kernel_rfl⟩
theorem IN:Has Tryz.prog qS 5 [(2,(some (true,4)))] ahc:=⟨Tryz.f95,by kernel_rfl,by kernel_rfl⟩
theorem GQ:Has Tryz.prog kS 5 [(2,(some (true,4)))] ahe:=⟨Tryz.f96,by kernel_rfl,by kernel_rfl⟩
theorem IP:Has Tryz.prog uf 12 [(6,(some (true,4)))] ahf:=⟨Tryz.f97,by kernel_rfl,by kernel_rfl⟩
theorem As:Has Tryz.prog jQ 29 [(4,none)] ahi:=⟨Tryz.f98,by kernel_rfl,by kernel_rfl⟩
theorem EL:Has Tryz.prog gW 8 [(4,(some (true,2)))] ahj:=⟨Tryz.f99,by kernel_rfl,by kernel_rfl⟩
theorem EM:Has Tryz.prog k9 22 [(4,(some (true,5))),(5,none)] aho:=⟨Tryz.f100,by kernel_rfl,by kernel_rfl⟩
theorem EN:Has Tryz.prog kj 25 [(2,none)] ahw:=⟨Tryz.f101,by kernel_rfl,by kernel_rfl⟩
theorem GR:Has Tryz.prog wV 39 [(6,none)] ahG:=⟨Tryz.f102,by kernel_rfl,by kernel_rfl⟩
theorem mI:Has Tryz.prog oy 51 [(4,none)] ahO:=⟨Tryz.f103,by kernel_rfl,by kernel_rfl⟩
theorem Dk:Has Tryz.prog tf 60 [(4,none),(5,none)] ahX:=⟨Tryz.f104,by kernel_rfl,by kernel_rfl⟩
theorem Dl:Has Tryz.prog tg 23 [(2,none)] ah1:=⟨Tryz.f105,by kernel_rfl,by kernel_rfl⟩
theorem xJ:Has Tryz.prog u6 52 [(4,none)] aia:=⟨Tryz.f106,by kernel_rfl,by kernel_rfl⟩
theorem Dm:Has Tryz.prog ti 93 [(2,none)] aiq:=⟨Tryz.f116,by kernel_rfl,by kernel_rfl⟩
theorem Au:Has Tryz.prog jR 73 [] aiy:=⟨Tryz.f117,by kernel_rfl,by kernel_rfl⟩
theorem sS:Has Tryz.prog kK 19 [(4,none)] aiD:=⟨Tryz.f118,by kernel_rfl,by kernel_rfl⟩
theorem EO:Has Tryz.prog qT 45 [(2,none)] aiJ:=⟨Tryz.f119,by kernel_rfl,by kernel_rfl⟩
end Go.Abs
