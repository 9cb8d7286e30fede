/-
  What is proved here: part 1 of the road to the claim (Par, Par1, Par2, Par3, Step, Wp, Types, Mir, MirTree, Cnt, MirFlat, Nums, Codes0, Have0, Codes1, Have1, Codes2, Have2).
  No conditions.
-/
import Derived.Test.YtiopamakecmpkaaGreatCkP0
import Derived.Attr
import Derived.Test.YtiopamakecmpkaaGreatProg
import Derived.KernelRfl

set_option linter.unusedSimpArgs false
set_option linter.unusedVariables false

/-! Par -/

namespace Go.Abs
theorem X.b6 {x:X} {tm bK:Tm} (h : ∀ t∈x.reads,tm.get t=bK.get t):x.ev tm=x.ev bK:=by
 cases x with
 | s t=>exact h t (by simp [X.reads])
 | k d=>rfl
theorem pU {t:Nat} {x:X} : ∀ {l:List X},x∈l→t∈x.reads→t∈mM l
 | [],h,_=>by cases h
 | y::r,h,ht=>by
  simp only [mM,List.mem_append]
  rcases List.mem_cons.1 h with rfl | h
  ·exact .inl ht
  ·exact .inr (pU h ht)
theorem uz {x:Option X} {tm bK:Tm} (h : ∀ t∈yg x,tm.get t=bK.get t):x.map (·.ev tm)=x.map (·.ev bK):=by
 cases x with
 | none=>rfl
 | some y=>simp only [Option.map_some];rw [X.b6 h]
theorem zV {o:AO} {tm bK:Tm} {s:St} (h : ∀ t∈o.reads,tm.get t=bK.get t):aW o tm s=aW o bK s:=by
 cases o with
 | mv x=>
  have hx:x.ev tm=x.ev bK:=X.b6 fun t ht=>h t (by simp [AO.reads,ht])
  simp only [aW,hx]
 | pick c a b=>
  have hc:c.ev tm=c.ev bK:=X.b6 fun t ht=>h t (by simp [AO.reads,ht])
  have ha:a.ev tm=a.ev bK:=X.b6 fun t ht=>h t (by simp [AO.reads,ht])
  have hb:b.ev tm=b.ev bK:=X.b6 fun t ht=>h t (by simp [AO.reads,ht])
  simp only [aW,hc,ha,hb]
 | alloc z=>
  rfl
 | rm z T=>rfl
 | ye x T=>
  have hx:x.ev tm=x.ev bK:=X.b6 fun t ht=>h t (by simp [AO.reads,ht])
  simp only [aW,hx]
 | yf x y=>
  have hx:x.ev tm=x.ev bK:=X.b6 fun t ht=>h t (by simp [AO.reads,ht])
  have hy:y.ev tm=y.ev bK:=X.b6 fun t ht=>h t (by simp [AO.reads,ht])
  simp only [aW,hx,hy]
 | apps x y=>
  have hx:x.ev tm=x.ev bK:=X.b6 fun t ht=>h t (by simp [AO.reads,ht])
  have hy:y.ev tm=y.ev bK:=X.b6 fun t ht=>h t (by simp [AO.reads,ht])
  simp only [aW,hx,hy]
 | box x=>
  have hx:x.ev tm=x.ev bK:=X.b6 fun t ht=>h t (by simp [AO.reads,ht])
  simp only [aW,hx]
 | yd x=>
  have hx:x.ev tm=x.ev bK:=X.b6 fun t ht=>h t (by simp [AO.reads,ht])
  simp only [aW,hx]
 | load x g n=>
  have hx:x.ev tm=x.ev bK:=X.b6 fun t ht=>h t (by simp [AO.reads,ht])
  simp only [aW,hx]
 | store p x n=>
  have hp:p.ev tm=p.ev bK:=X.b6 fun t ht=>h t (by simp [AO.reads,ht])
  have hx:x.ev tm=x.ev bK:=X.b6 fun t ht=>h t (by simp [AO.reads,ht])
  simp only [aW,hp,hx]
 | db x=>
  have hx:x.ev tm=x.ev bK:=X.b6 fun t ht=>h t (by simp [AO.reads,ht])
  simp only [aW,hx]
 | bin op x y=>
  have hx:x.ev tm=x.ev bK:=X.b6 fun t ht=>h t (by simp [AO.reads,ht])
  have hy:y.ev tm=y.ev bK:=X.b6 fun t ht=>h t (by simp [AO.reads,ht])
  simp only [aW,hx,hy]
 | xH n x y=>
  have hx:x.ev tm=x.ev bK:=X.b6 fun t ht=>h t (by simp [AO.reads,ht])
  have hy:y.ev tm=y.ev bK:=X.b6 fun t ht=>h t (by simp [AO.reads,ht])
  simp only [aW,hx,hy]
 | eqs n ks x y=>
  have hx:x.ev tm=x.ev bK:=X.b6 fun t ht=>h t (by simp [AO.reads,ht])
  have hy:y.ev tm=y.ev bK:=X.b6 fun t ht=>h t (by simp [AO.reads,ht])
  simp only [aW,hx,hy]
 | DA n x y=>
  have hx:x.ev tm=x.ev bK:=X.b6 fun t ht=>h t (by simp [AO.reads,ht])
  have hy:y.ev tm=y.ev bK:=X.b6 fun t ht=>h t (by simp [AO.reads,ht])
  simp only [aW,hx,hy]
 | un op x=>
  have hx:x.ev tm=x.ev bK:=X.b6 fun t ht=>h t (by simp [AO.reads,ht])
  simp only [aW,hx]
 | conv k x=>
  have hx:x.ev tm=x.ev bK:=X.b6 fun t ht=>h t (by simp [AO.reads,ht])
  simp only [aW,hx]
 | A9 x=>
  have hx:x.ev tm=x.ev bK:=X.b6 fun t ht=>h t (by simp [AO.reads,ht])
  simp only [aW,hx]
 | vK x=>
  have hx:x.ev tm=x.ev bK:=X.b6 fun t ht=>h t (by simp [AO.reads,ht])
  simp only [aW,hx]
 | av x n=>
  have hx:x.ev tm=x.ev bK:=X.b6 fun t ht=>h t (by simp [AO.reads,ht])
  simp only [aW,hx]
 | rl x n g m=>
  have hx:x.ev tm=x.ev bK:=X.b6 fun t ht=>h t (by simp [AO.reads,ht])
  simp only [aW,hx]
 | ca x i n=>
  have hx:x.ev tm=x.ev bK:=X.b6 fun t ht=>h t (by simp [AO.reads,ht])
  have hi:i.ev tm=i.ev bK:=X.b6 fun t ht=>h t (by simp [AO.reads,ht])
  simp only [aW,hx,hi]
 | nJ x i=>
  have hx:x.ev tm=x.ev bK:=X.b6 fun t ht=>h t (by simp [AO.reads,ht])
  have hi:i.ev tm=i.ev bK:=X.b6 fun t ht=>h t (by simp [AO.reads,ht])
  simp only [aW,hx,hi]
 | ext x i=>
  have hx:x.ev tm=x.ev bK:=X.b6 fun t ht=>h t (by simp [AO.reads,ht])
  simp only [aW,hx]
 | len x=>
  have hx:x.ev tm=x.ev bK:=X.b6 fun t ht=>h t (by simp [AO.reads,ht])
  simp only [aW,hx]
 | ll x=>
  have hx:x.ev tm=x.ev bK:=X.b6 fun t ht=>h t (by simp [AO.reads,ht])
  simp only [aW,hx]
 | app a b x y=>
  have hx:x.ev tm=x.ev bK:=X.b6 fun t ht=>h t (by simp [AO.reads,ht])
  have hy:y.ev tm=y.ev bK:=X.b6 fun t ht=>h t (by simp [AO.reads,ht])
  simp only [aW,hx,hy]
 | mm b x y=>
  have hx:x.ev tm=x.ev bK:=X.b6 fun t ht=>h t (by simp [AO.reads,ht])
  have hy:y.ev tm=y.ev bK:=X.b6 fun t ht=>h t (by simp [AO.reads,ht])
  simp only [aW,hx,hy]
 | build z ps=>
  have hp:(ps.map fun p=>(p.1,p.2.1,p.2.2.ev tm))=ps.map fun p=>(p.1,p.2.1,p.2.2.ev bK):=List.map_congr_left fun p hp=>by
   have:p.2.2.ev tm=p.2.2.ev bK:=X.b6 fun t ht=>h t (by simp only [AO.reads];exact pU (List.mem_map_of_mem hp) ht)
   rw [this]
  simp only [aW,hp]
 | cT z m n ps=>
  have hp:(ps.map fun p=>(p.1,p.2.ev tm))=ps.map fun p=>(p.1,p.2.ev bK):=List.map_congr_left fun p hp=>by
   have:p.2.ev tm=p.2.ev bK:=X.b6 fun t ht=>h t (by simp only [AO.reads];exact pU (List.mem_map_of_mem hp) ht)
   rw [this]
  simp only [aW,hp]
 | s5 z m n ps=>
  have hp:(ps.map fun p=>(p.1,p.2.ev tm))=ps.map fun p=>(p.1,p.2.ev bK):=List.map_congr_left fun p hp=>by
   have:p.2.ev tm=p.2.ev bK:=X.b6 fun t ht=>h t (by simp only [AO.reads];exact pU (List.mem_map_of_mem hp) ht)
   rw [this]
  simp only [aW,hp]
 | Fw n x lo hi=>
  have hx:x.ev tm=x.ev bK:=X.b6 fun t ht=>h t (by simp [AO.reads,ht])
  have hl:lo.map (·.ev tm)=lo.map (·.ev bK):=uz fun t ht=>h t (by simp [AO.reads,ht])
  have hh:hi.map (·.ev tm)=hi.map (·.ev bK):=uz fun t ht=>h t (by simp [AO.reads,ht])
  simp only [aW,hx,hl,hh]
 | va x lo hi=>
  have hx:x.ev tm=x.ev bK:=X.b6 fun t ht=>h t (by simp [AO.reads,ht])
  have hl:lo.map (·.ev tm)=lo.map (·.ev bK):=uz fun t ht=>h t (by simp [AO.reads,ht])
  have hh:hi.map (·.ev tm)=hi.map (·.ev bK):=uz fun t ht=>h t (by simp [AO.reads,ht])
  simp only [aW,hx,hl,hh]
 | sC f xs=>
  have hp:(xs.map fun x=>x.ev tm)=xs.map fun x=>x.ev bK:=List.map_congr_left fun x hx=>X.b6 fun t ht=>h t (by simp only [AO.reads];exact pU hx ht)
  simp only [aW,hp]
 | sD=>rfl
 | wO m k v=>
  have hm:m.ev tm=m.ev bK:=X.b6 fun t ht=>h t (by simp [AO.reads,ht])
  have hk:k.ev tm=k.ev bK:=X.b6 fun t ht=>h t (by simp [AO.reads,ht])
  have hv:v.ev tm=v.ev bK:=X.b6 fun t ht=>h t (by simp [AO.reads,ht])
  simp only [aW,hm,hk,hv]
 | uh m k z=>
  have hm:m.ev tm=m.ev bK:=X.b6 fun t ht=>h t (by simp [AO.reads,ht])
  have hk:k.ev tm=k.ev bK:=X.b6 fun t ht=>h t (by simp [AO.reads,ht])
  simp only [aW,hm,hk]
theorem HY {o:AO} (ho:fP o.kind=false) {tm:Tm} {s s':St} {d:D} (h:aW o tm s=some (d,s')):s'=s:=by
 cases o <;> simp only [AO.kind,fP]at ho <;> first | cases ho | skip
 all_goals
  simp only [aW]at h
  first
   | (cases h;rfl)
   | (repeat' (split at h)) <;> first | (cases h;rfl) | cases h
theorem Kn {o:AO} (ho:o.kind = .pure) {tm:Tm} {s s':St} : (aW o tm s).map (·.1)=(aW o tm s').map (·.1):=by
 cases o <;> simp only [AO.kind]at ho <;> first | cases ho | skip
 all_goals
  simp only [aW]
  first
   | rfl
   | (repeat' split) <;> rfl
def iN (ai:AI) (tm:Tm) (s:St):Option D:=
 match ai with
 | .op _ none o=>(aW o tm s).map (·.1)
 | .op _ (some (t,want)) o=>
  match tm.get t with
  | .bool b=>if b=want then(aW o tm s).map (·.1)else some (.tuple [])
  | .tuple _=>some (.tuple [])
  | _=>none
 | _=>none
def qZ (P:Program) (ai:AI) (tm:Tm) (s:St) (d:D) (s':St):Prop:=
 match ai with
 | .op _ g o=>guarded g tm (aW o tm s=some (d,s')) (d = .tuple []∧s'=s)
 | .call _ g f xs=>guarded g tm (dT P f (xs.map (·.ev tm)) s fun x y=>x=d∧y=s') (d = .tuple []∧s'=s)
 | .nil .. =>False
 | .im .. =>False
def jP (P:Program) (is:List AI) (K:Tm→St→Prop):List (Nat×Nat)→List St→Tm→St→Prop
 | [],_,tm,s=>K tm s
 | (q,b)::r,bB,tm,s=>
  match is[q]? with
  | none=>False
  | some ai=>
   match fP ai.kind with
   | true=>∃ d s',qZ P ai tm s d s'∧jP P is K r (s::bB) (tm.put ai.dst d) s'
   | false=>∃ d,iN ai tm s=some d∧(ai.kind = .load→∀ s'∈bB.take b,iN ai tm s'=some d)∧jP P is K r bB (tm.put ai.dst d) s
def Tm.eqv (a b:Tm):Prop:=∀ t,a.get t=b.get t
theorem Tm.kj (tm:Tm) (dst:Option Nat) (d:D) (t:Nat):(tm.put dst d).get t=if dst=some t then d else tm.get t:=by
 cases dst with
 | none=>simp [Tm.put]
 | some u=>
  simp only [Tm.put,Tm.zk,Option.some.injEq]
  by_cases h:t=u
  ·subst h;simp
  ·rw [if_neg h,if_neg (fun e=>h e.symm)]
theorem Tm.eqv.put {a b:Tm} (h:a.eqv b) (dst:Option Nat) (d:D):(a.put dst d).eqv (b.put dst d):=fun t=>by
 rw [Tm.kj,Tm.kj,h t]
theorem Tm.FZ (tm:Tm) {x y:Option Nat} (h : ∀ t,x=some t→y≠some t) (d e:D):((tm.put x d).put y e).eqv ((tm.put y e).put x d):=fun t=>by
 simp only [Tm.kj]
 by_cases h1:x=some t
 ·simp only [h1,h t h1,if_true,if_false]
 ·simp only [h1,if_false]
theorem xP {g:Option (Nat×Bool)} {tm bK:Tm} {A A' C:Prop} (h : ∀ t∈s6 g,tm.get t=bK.get t) (ha:A→A') (hh:guarded g tm A C):guarded g bK A' C:=by
 cases g with
 | none=>exact ha hh
 | some p=>
  obtain⟨t,want⟩:=p
  unfold guarded at *
  simp only at *
  rw [← h t (by simp [s6])]
  split
  ·rename_i b hb
   rw [hb]at hh
   exact⟨fun e=>ha (hh.1 e),hh.2⟩
  ·rename_i hb
   rw [hb]at hh
   exact hh
  ·rename_i x h1 h2
   split at hh
   ·exact h1 _ ‹_›
   ·exact h2 _ ‹_›
   ·exact hh
theorem DN {tm bK:Tm} : ∀ {l:List X},(∀ t∈mM l,tm.get t=bK.get t)→l.map (·.ev tm)=l.map (·.ev bK)
 | [],_=>rfl
 | x::r,h=>by
  simp only [List.map_cons]
  rw [X.b6 fun t ht=>h t (by simp [mM,ht]),DN (l:=r) fun t ht=>h t (by simp [mM,ht])]
theorem vj {P:Program} {ai:AI} {tm bK:Tm} {s s':St} {d:D} (h : ∀ t∈ai.reads,tm.get t=bK.get t) (hh:qZ P ai tm s d s'):qZ P ai bK s d s':=by
 cases ai with
 | op dst g o=>
  simp only [AI.reads,List.mem_append]at h
  exact xP (fun t ht=>h t (.inl ht)) (fun e=>by rw [← zV fun t ht=>h t (.inr ht)];exact e) hh
 | call dst g f xs=>
  simp only [AI.reads,List.mem_append]at h
  exact xP (fun t ht=>h t (.inl ht)) (fun e=>by rw [← DN fun t ht=>h t (.inr ht)];exact e) hh
 | nil dst g n x=>exact hh
 | im dst g t xs=>exact hh
theorem pB {ai:AI} {tm bK:Tm} {s:St} (h : ∀ t∈ai.reads,tm.get t=bK.get t):iN ai tm s=iN ai bK s:=by
 cases ai with
 | op dst g o=>
  simp only [AI.reads,List.mem_append]at h
  have he:=zV (s:=s) fun t ht=>h t (.inr ht)
  cases g with
  | none=>simp only [iN,he]
  | some p=>
   obtain⟨t,want⟩:=p
   simp only [iN,he,h t (.inl (by simp [s6]))]
 | call dst g f xs=>rfl
 | nil dst g n x=>rfl
 | im dst g t xs=>rfl
theorem I2 {dst:Option Nat} {g:Option (Nat×Bool)} {o:AO} (h:fP (AI.op dst g o).kind=false):(AI.op dst g o).kind=o.kind:=by
 unfold AI.kind at *
 split at h
 ·cases h
 ·rename_i heq;cases heq;rfl
 ·cases h
theorem Q9 {ai:AI} (hk:ai.kind = .pure) {tm:Tm} {s s':St} : iN ai tm s=iN ai tm s':=by
 cases ai with
 | op dst g o=>
  have ho:o.kind = .pure:=by rw [← hk];exact(I2 (by rw [hk];rfl)).symm
  have he:=Kn ho (tm:=tm) (s:=s) (s':=s')
  cases g with
  | none=>simp only [iN,he]
  | some p=>simp only [iN,he]
 | call dst g f xs=>rfl
 | nil dst g n x=>rfl
 | im dst g t xs=>rfl
theorem apart_spec {a q:AI} (h:a.apart q=true):(∀ t,a.dst=some t→t∉q.reads)∧(∀ t,q.dst=some t→t∉a.reads)∧(∀ t,a.dst=some t→q.dst≠some t):=by
 unfold AI.apart at h
 simp only [Bool.and_eq_true]at h
 obtain⟨⟨h1,h2⟩,h3⟩:=h
 refine⟨fun t e=> ?_,fun t e=> ?_,fun t e e'=> ?_⟩
 ·rw [e]at h1;simpa [Bb]using h1
 ·rw [e]at h2;simpa [Bb]using h2
 ·rw [e,e']at h3;simp at h3
theorem q4 {tm:Tm} {dst:Option Nat} {d:D} {l:List Nat} (h : ∀ t,dst=some t→t∉l) : ∀ t∈l,tm.get t=(tm.put dst d).get t:=fun t ht=>by
 rw [Tm.kj,if_neg fun e=>h t e ht]
section
variable {P:Program} {is:List AI} {K:Tm→St→Prop}
theorem q5 (hK : ∀ tm bK s,Tm.eqv tm bK→K tm s→K bK s) : ∀ (R:List (Nat×Nat)) (bB:List St) (tm bK:Tm) (s:St),tm.eqv bK→jP P is K R bB tm s→jP P is K R bB bK s
 | [],_,tm,bK,s,e,h=>hK tm bK s e h
 | (q,b)::R,bB,tm,bK,s,e,h=>by
  unfold jP at *
  split at h
  ·exact h.elim
  ·rename_i ai uw
   split at h
   ·rename_i hc
    obtain⟨d,s',h1,h2⟩:=h
    exact⟨d,s',vj (fun t _=>e t) h1,q5 hK R _ _ _ _ (e.put _ d) h2⟩
   ·rename_i hc
    obtain⟨d,h1,h2,h3⟩:=h
    refine⟨d, ?_,fun hl s' nM=> ?_,q5 hK R _ _ _ _ (e.put _ d) h3⟩
    ·rw [← pB fun t _=>e t];exact h1
    ·rw [← pB fun t _=>e t];exact h2 hl s' nM
theorem F0 (i:Nat) (l:List Nat):iC is (i::l)=(if fP (iu is i)then 1 else 0)+iC is l:=by
 unfold iC
 rw [List.filter_cons]
 split <;> simp <;> omega
theorem vl (hK : ∀ tm bK s,Tm.eqv tm bK→K tm s→K bK s) {q b:Nat} {ai:AI} (hq:is[q]? = some ai) (hm:fP ai.kind=false) (Y:List (Nat×Nat)) :
 ∀ (X:List (Nat×Nat)) (bB:List St) (tm:Tm) (s:St),(∀ a∈X,ke is a.1 q=true)→(ai.kind = .load→iC is (X.map (·.1))≤b)→
  jP P is K (X++(q,b)::Y) bB tm s→
  ∃ d,iN ai tm s=some d∧(ai.kind = .load→∀ s'∈bB.take (b - iC is (X.map (·.1))),iN ai tm s'=some d)∧jP P is K (X++Y) bB (tm.put ai.dst d) s
 | [],bB,tm,s,_,_,h=>by
  simp only [List.nil_append,jP,hq,hm]at h
  obtain⟨d,h1,h2,h3⟩:=h
  exact⟨d,h1,fun hl s' nM=>h2 hl s' (by simpa [iC]using nM),h3⟩
 | (a,c)::X,bB,tm,s,fQ,hb,h=>by
  have Ko:=fQ (a,c) (by simp)
  unfold ke at Ko
  split at Ko
  ·rename_i ia iq hia sq
   rw [hq]at sq
   cases sq
   obtain⟨p1,p2,p3⟩:=apart_spec Ko
   have DJ:iu is a=ia.kind:=by simp [iu,hia]
   have E7 : ∀ x∈X,ke is x.1 q=true:=fun x hx=>fQ x (List.mem_cons_of_mem _ hx)
   rw [List.map_cons,F0,DJ]at hb ⊢
   simp only [List.cons_append,jP,hia]at h ⊢
   cases hc:fP ia.kind
   ·simp only [hc,Bool.false_eq_true,if_false,Nat.zero_add]at h hb ⊢
    obtain⟨d,h1,h2,h3⟩:=h
    obtain⟨e,g1,g2,g3⟩:=vl hK hq hm Y X bB _ s E7 hb h3
    have cg : ∀ s,iN ai tm s=iN ai (tm.put ia.dst d) s:=fun s=>pB (q4 p1)
    have cg' : ∀ s,iN ia tm s=iN ia (tm.put ai.dst e) s:=fun s=>pB (q4 p2)
    refine⟨e,by rw [cg];exact g1,fun hl s' nM=>by rw [cg];exact g2 hl s' nM,d,by rw [← cg'];exact h1,fun hl s' nM=>by rw [← cg'];exact h2 hl s' nM, ?_⟩
    exact q5 hK _ _ _ _ _ (Tm.FZ tm p3 d e) g3
   ·simp only [hc,if_true]at h hb ⊢
    obtain⟨d,s1,h1,h3⟩:=h
    obtain⟨e,g1,g2,g3⟩:=vl hK hq hm Y X (s::bB) _ s1 E7 (fun hl=>by have:=hb hl;omega) h3
    have cg : ∀ s,iN ai tm s=iN ai (tm.put ia.dst d) s:=fun s=>pB (q4 p1)
    have o3:iN ai tm s=some e:=by
     cases hk:ai.kind with
     | pure=>rw [cg,Q9 hk (s':=s1)];exact g1
     | load=>
      have:=hb hk
      rw [cg]
      refine g2 hk s ?_
      rw [show b - iC is (X.map (·.1))=(b - (1+iC is (X.map (·.1))))+1 by omega,List.take_succ_cons]
      exact List.mem_cons_self
     | alloc=>rw [hk]at hm;cases hm
     | core=>rw [hk]at hm;cases hm
    refine⟨e,o3,fun hl s' nM=> ?_,d,s1,vj (q4 p2) h1,q5 hK _ _ _ _ _ (Tm.FZ tm p3 d e) g3⟩
    have:=hb hl
    rw [cg]
    refine g2 hl s' ?_
    rw [show b - iC is (X.map (·.1))=(b - (1+iC is (X.map (·.1))))+1 by omega,List.take_succ_cons]
    exact List.mem_cons_of_mem _ nM
  ·cases Ko
end
end Go.Abs

/-! Par1 -/

namespace Go.Abs
section
variable {P:Program}
theorem NU {o:Oper} {z:List D} (h:Bc P o=some (.alloc z)) : ∃ t,o.op = .alloc t∧zeroOf P t=some z:=by
 obtain⟨dst,op,type,pos,after,guard⟩:=o
 unfold Bc at h
 simp only at h
 split at h
 case h_4 t=>
  split at h
  ·obtain⟨z',h1,h2⟩:=map_some h;cases h2
  ·obtain⟨z',h1,h2⟩:=map_some h;cases h2;exact⟨t,rfl,h1⟩
 all_goals
  first
   | (rw [Option.map_eq_some_iff]at h;obtain⟨_,_,h⟩:=h;cases h)
   | skip
 all_goals
  (repeat' (split at h)) <;> first | (cases h;done) | (rw [Option.map_eq_some_iff]at h;obtain⟨_,_,h⟩:=h;cases h)
theorem yE {nt:Nat} {ops:Array Oper} {o:Oper} {ai:AI} (h:cI P nt ops o=some ai) :
 ∃ g,s7 ops o.guard=some g∧(∀ t,o.dst=some t→t<nt)∧qW P ops o g=some ai:=by
 have h2:=vQ h
 unfold cI at h
 split at h
 ·cases h
 ·rename_i g hg
  split at h
  ·exact⟨g,hg,h2,h⟩
  ·cases h
theorem rC {ops:Array Oper} {o:Oper} {g:Option (Nat×Bool)} {ai:AI} (h:qW P ops o g=some ai):ai.dst=o.dst:=by
 unfold qW at h
 split at h
 ·split at h
  ·obtain⟨xs,_,rfl⟩:=map_some h;rfl
  ·cases h
 ·obtain⟨xs,_,rfl⟩:=map_some h;rfl
 ·split at h
  ·cases h;rfl
  ·split at h
   ·cases h;rfl
   ·cases h;rfl
   ·cases h
theorem rD {nt:Nat} {ops:Array Oper} {o:Oper} {ai:AI} (h:cI P nt ops o=some ai):ai.dst=o.dst:=by
 obtain⟨g,_,_,h⟩:=yE h
 exact rC h
theorem vm {nt:Nat} {ops:Array Oper} {i:Nat} {o:Oper} {ai:AI} (hi:ops[i]? = some o) (hc:cI P nt ops o=some ai)
 {M:Map} {s:St} {w:World} {tm:Tm} {act:Act} (r:Rel M s w) (kH:Laid M s w) (ht:k5 M s tm act.tmps) {K':Tm→St→Prop} (h:hS P [ai] K' tm s)
 {K:Act→World→Prop} {Q:Exit→Act→World→Prop}
 (hK : ∀ d v s1 w1 M1,K' (tm.put ai.dst d) s1→Ext M s w M1 s1 w1→Rel M1 s1 w1→RD M1 s1 d v→K (act.put o.dst v) w1):wpOp P ops Q i K act w:=by
 obtain⟨g,hg,_,hb⟩:=yE hc
 rw [rC hb]at hK
 simp only [wpOp,hi]
 have skip:K' (tm.put o.dst (.tuple [])) s→K (act.put o.dst Go.undef) w:=fun hk=>hK _ _ _ _ _ hk (Ext.refl M s w) r .undef
 unfold qW at hb
 split at hb
 ·rename_i f args mP kO
  split at hb
  ·rename_i wV
   obtain⟨xs,nq,rfl⟩:=map_some hb
   simp only [hS]at h
   rcases jb hg ht h with ⟨hw,hA⟩ | ⟨hw,hB⟩
   ·simp only [hw,if_true]
    left
    have hex:(execOp act.eval o).run P w = .ok (.enter f (args.map act.eval)) w:=by
     obtain⟨dst,op,type,pos,after,guard⟩:=o
     simp only at kO
     subst kO
     exact vh act.eval dst f args mP type pos after guard rfl wV w
    obtain⟨c1,c2⟩:=uv ht nq
    unfold Oper.wp
    rw [hex,Oper.upon_enter]
    refine(hA M w (args.map act.eval) r kH (by simp [c1]) (fun i d v e1 e2=>c2 i d v e1 (by simpa using e2))).mono ?_
    rintro en w' ⟨M',d,v,s',rfl,hk,e',r',hv⟩
    exact hK _ _ _ _ _ hk e' r' hv
   ·simp only [hw]
    exact skip hB
  ·cases hb
 ·rename_i t args mP kO
  obtain⟨xs,nq,rfl⟩:=map_some hb
  simp only [hS]at h
  rcases jb hg ht h with ⟨hw,hA⟩ | ⟨hw,hB⟩
  ·simp only [hw,if_true]
   left
   split at hA
   ·rename_i f my xM
    obtain⟨wV,hA⟩:=hA
    have NG:=ht t
    rw [xM]at NG
    obtain⟨vs,rA,hlen,Bt⟩:=NG.IT
    have hex:(execOp act.eval o).run P w = .ok (.enter f (args.map act.eval++vs)) w:=by
     obtain⟨dst,op,type,pos,after,guard⟩:=o
     simp only at kO
     subst kO
     exact yv act.eval dst (.tmp t) f vs args mP type pos after guard rA wV w
    have cc:=DK nq ht hlen Bt
    unfold Oper.wp
    rw [hex,Oper.upon_enter]
    refine(hA M w (args.map act.eval++vs) r kH cc.1 cc.2).mono ?_
    rintro en w' ⟨M',d,v,s',rfl,hk,e',r',hv⟩
    exact hK _ _ _ _ _ hk e' r' hv
   ·exact hA.elim
  ·simp only [hw]
   exact skip hB
 ·split at hb
  ·rename_i neg x FQ
   cases hb
   simp only [hS]at h
   rcases jb hg ht h with ⟨hw,hA⟩ | ⟨hw,hB⟩
   ·simp only [hw,if_true]
    left
    split at hA
    ·rename_i g' z rows hx
     obtain⟨b,hb,hex⟩:=xL (w:=w) FQ ht hx
     unfold Oper.wp
     rw [hex,Oper.upon_value]
     exact hK _ _ _ _ _ (hA b hb) (Ext.refl M s w) r (.bool _)
    ·exact hA.elim
   ·simp only [hw]
    exact skip hB
  ·have fin : ∀ ao,ai = .op o.dst g ao→(∀ d s',aW ao tm s=some (d,s')→dq P M s w (execOp act.eval o) d s')→
    (if Region.wanted o (yielded ops act.tmps)=true then o.wp P act w K Q∨(o.asks P act w∧LetsOut Q)else K (act.put o.dst Go.undef) w):=by
    intro ao uw Yr
    subst uw
    simp only [hS]at h
    rcases jb hg ht h with ⟨hw,hA⟩ | ⟨hw,hB⟩
    ·simp only [hw,if_true]
     left
     split at hA
     ·rename_i d s' pz
      obtain⟨v,w',M',dA,r',hv,e'⟩:=Yr d s' pz
      unfold Oper.wp
      rcases dA with dA | ⟨dA,rfl⟩
      ·rw [dA,Oper.upon_value]
       exact hK _ _ _ _ _ hA e' r' hv
      ·rw [dA,Oper.upon_skip]
       exact hK _ _ _ _ _ hA e' r' hv
     ·exact hA.elim
    ·simp only [hw]
     exact skip hB
   split at hb
   ·rename_i z k n ps mQ
    cases hb
    refine fin _ rfl (fun d s' pz=> ?_)
    split at pz
    ·exact wU mQ r ht pz
    ·exact qX mQ r ht pz
   ·rename_i ao mQ
    cases hb
    exact fin _ rfl (fun d s' pz=>qX mQ r ht pz)
   ·cases hb
structure I3 (M:Map) (s:St) (b:Nat):Prop where
 o : ∀ o,o<s.az.length→M.mu o≠b
 t : ∀ t c z,s.live t→M.be t≠some (b,c,z)
 g : ∀ off,M.G b off=none
theorem I3.mono {M M':Map} {s s':St} {w w':World} {b:Nat} (h:I3 M s b) (e:Ext M s w M' s' w') (hb:b<w.heap.size):I3 M' s' b:=by
 refine⟨fun o ho=> ?_,fun t c z hl he=> ?_,fun off=> ?_⟩
 ·rcases Nat.lt_or_ge o s.az.length with h1 | h1
  ·rw [e.le.mu o h1];exact h.o o h1
  ·have:=e.pL o h1 ho;omega
 ·rcases e.pM t b c z hl he with ⟨h1,c',z',h2⟩ | h1
  ·exact h.t t c' z' h1 h2
  ·omega
 ·by_cases hg:M'.G b off=M.G b off
  ·rw [hg];exact h.g off
  ·rcases e.rX b off hg with h1 | ⟨t,c,z,h1,h2⟩
   ·omega
   ·exact(h.t t c z h1 h2).elim
theorem Rel.idle {M:Map} {s:St} {w:World} (r:Rel M s w) (x:Obj):Rel M s (w.alloc x)∧Ext M s w M s (w.alloc x)∧I3 M s w.heap.size:=by
 refine⟨⟨fun b o v e=> ?_,fun o ds e=> ?_,r.ko,r.inj,fun t n e=> ?_,r.eX,r.fz⟩, ?_,⟨fun o ho=> ?_,fun t c z hl e=> ?_,fun off=>r.Uc (Nat.le_refl _) off⟩⟩
 ·obtain⟨h3,h4⟩:=r.comm b o v e
  refine⟨?_,h4⟩
  rw [World.cell?_alloc_lt]
  ·exact h3
  ·exact r.CA e
 ·obtain⟨vs,T,h3,h4,h5,h6⟩:=r.obj o ds e
  exact⟨vs,T,by rw [heap_alloc_old w _ _ h3.lt];exact h3,h4,h5,h6⟩
 ·rcases r.tok t n e with h3 | ⟨b,cap,size,fj,T',h3,h4,h5⟩
  ·exact .inl h3
  ·exact .inr ⟨b,cap,size,fj,T',h3,by rw [heap_alloc_old w _ _ (kY h4)];exact h4,h5⟩
 ·exact⟨Le.refl M s,fun b hb _ _=>heap_alloc_old w _ b hb,fun o h3 h4=>by omega,fun t b c z h e=> .inl ⟨h,c,z,e⟩,fun _ _ h=>(h rfl).elim,by simp,rfl,rfl,rfl⟩
 ·have:=r.pP ho;omega
 ·have:=r.sE hl e;omega
theorem Rel.acb {M:Map} {s:St} {w:World} (r:Rel M s w) {B:eU} (e:Ext B.M B.s B.w M s w) {b:Nat} (u:I3 M s b) (hb:B.w.heap.size≤b)
 (ds:List D) (vs:Array Value) (T:TypeId) (hh:w.heap[b]? = some (.cells vs T (0,0))) (hl:vs.size=ds.length) (h1 : ∀ v∈vs,v.oneCell'=true)
 (h2 : ∀ (i:Nat) (d:D) (v:Value),ds[i]? = some d→vs[i]? = some v→RD M s d v) :
 Rel (M.dM s.az.length b) {s with az:=s.az++ [ds]} w∧Ext B.M B.s B.w (M.dM s.az.length b) {s with az:=s.az++ [ds]} w∧
 Le M s (M.dM s.az.length b) {s with az:=s.az++ [ds]}:=by
 have le:=s8 (M:=M) s b ds
 have pw : ∀ o,o<s.az.length→(M.dM s.az.length b).mu o=M.mu o:=le.mu
 have dS:(M.dM s.az.length b).mu s.az.length=b:=by simp [Map.dM,Map.mu]
 refine⟨⟨r.comm,fun o qz e'=> ?_,fun o ho off=> ?_,fun o o' ho lH e'=> ?_,r.tok,fun t b' c z o hl e' ho=> ?_,r.fz⟩, ?_,le⟩
 ·rcases Nat.lt_or_ge o s.az.length with ho | ho
  ·rw [List.getElem?_append_left ho]at e'
   obtain⟨fj,T',h3,h4,h5,h6⟩:=r.obj o qz e'
   refine⟨fj,T', ?_,h4,⟨h5.1,by rw [le.ty o ho];exact h5.2⟩,fun i d v e1 e2=>(h6 i d v e1 e2).mono le⟩
   rw [pw o ho,le.ob o ho];exact h3
  ·rw [List.getElem?_append_right ho]at e'
   have:o=s.az.length:=by
    have:=(List.getElem?_eq_some_iff.1 e').1
    simp at this;omega
   subst this
   simp at e';subst e'
   refine⟨vs,T, ?_,hl,⟨h1,fun T' h=>by simp [Map.dM,Map.ty,Ob.ty?]at h⟩,fun i d v e1 e2=>(h2 i d v e1 e2).mono le⟩
   rw [dS];exact lN.of hh (by simp [Map.dM,Map.ob])
 ·simp at ho
  rcases Nat.lt_or_ge o s.az.length with h3 | h3
  ·rw [pw o h3];exact r.ko o h3 off
  ·have:o=s.az.length:=by omega
   subst this
   rw [dS];exact u.g off
 ·simp at ho lH
  rcases Nat.lt_or_ge o s.az.length with h3 | h3 <;> rcases Nat.lt_or_ge o' s.az.length with h4 | h4
  ·rw [pw o h3,pw o' h4]at e';exact r.inj o o' h3 h4 e'
  ·have:o'=s.az.length:=by omega
   subst this
   rw [pw o h3,dS]at e'
   exact(u.o o h3 e').elim
  ·have:o=s.az.length:=by omega
   subst this
   rw [pw o' h4,dS]at e'
   exact(u.o o' h4 e'.symm).elim
  ·omega
 ·simp at ho
  rcases Nat.lt_or_ge o s.az.length with h3 | h3
  ·rw [pw o h3];exact r.eX t b' c z o hl e' h3
  ·have:o=s.az.length:=by omega
   subst this
   rw [dS]
   intro he
   subst he
   exact u.t t c z hl e'
 ·refine⟨e.le.trans le,e.kept,fun o h3 h4=> ?_,e.pM,e.rX,e.size,e.os,e.tape,e.output⟩
  simp at h4
  rcases Nat.lt_or_ge o s.az.length with h5 | h5
  ·rw [pw o h5];exact e.pL o h3 h5
  ·have:o=s.az.length:=by omega
   subst this
   rw [dS];exact hb
theorem HZ {nt:Nat} {ops:Array Oper} {i:Nat} {o:Oper} {t:Nat} {z:List D} (hi:ops[i]? = some o) (hc:cI P nt ops o=some (.op (some t) none (.alloc z)))
 {w:World} {act:Act} {K:Act→World→Prop} {Q:Exit→Act→World→Prop}
 (hK : ∀ vs T,vs.size=z.length→(∀ v∈vs,v.oneCell'=true)→(∀ (M:Map) (s:St) (i:Nat) (d:D) (v:Value),z[i]? = some d→vs[i]? = some v→RD M s d v)→
  K (act.put (some t) (.pointer (some ⟨w.heap.size,0,none⟩))) (w.alloc (.cells vs T))):wpOp P ops Q i K act w:=by
 obtain⟨g,hg,_,hb⟩:=yE hc
 have pd:=rC hb
 simp only [AI.dst]at pd
 simp only [wpOp,hi]
 have kO:g=none∧Bc P o=some (.alloc z):=by
  unfold qW at hb
  split at hb
  ·split at hb
   ·obtain⟨xs,_,h⟩:=map_some hb;cases h
   ·cases hb
  ·obtain⟨xs,_,h⟩:=map_some hb;cases h
  ·split at hb
   ·cases hb
   ·split at hb
    ·rename_i mQ
     simp only [Option.some.injEq,AI.op.injEq]at hb
     obtain⟨_,_,h⟩:=hb
     split at h <;> cases h
    ·rename_i ao mQ
     simp only [Option.some.injEq,AI.op.injEq]at hb
     obtain⟨_,h1,h2⟩:=hb
     subst h2
     exact⟨h1,mQ⟩
    ·cases hb
 obtain⟨rfl,mQ⟩:=kO
 obtain⟨T,hT,hz⟩:=NU mQ
 have hw:Region.wanted o (yielded ops act.tmps)=true:=by
  have:o.guard=none:=by
   cases DE:o.guard with
   | none=>rfl
   | some p=>
    obtain⟨j,b⟩:=p
    rw [DE]at hg
    unfold s7 at hg
    simp only at hg
    split at hg <;> cases hg
  simp [Region.wanted,this]
 simp only [hw,if_true]
 left
 unfold zeroOf at hz
 split at hz
 ·rename_i inf Q4
  split at hz
  ·rename_i v hv
   split at hz
   ·have dA:(execOp act.eval o).run P w = .ok (.value (.pointer (some ⟨w.heap.size,0,none⟩))) (w.alloc (.cells v.cells T)):=by
     obtain⟨dst,op,type,pos,after,guard⟩:=o
     simp only at hT
     subst hT
     simp [execOp,Instr.alloc,zeroValue,gF P Q4,hv,newVar,newRow]
    have h3:=fun M s=>ki (M:=M) (s:=s) hz
    obtain⟨h1,h2,_⟩:=h3 ⟨fun _ _=>none,fun _=>(0, .any),fun _=>none⟩ ⟨[],[]⟩
    unfold Oper.wp
    rw [dA,Oper.upon_value, ← pd]
    exact hK _ _ (by rw [h1];simp) (fun u hu=>h2 u (by simpa using hu)) (fun M s i d u e1 e2=>(h3 M s).2.2 i d u e1 (by simpa using e2))
   ·cases hz
  ·cases hz
 ·cases hz
end
end Go.Abs

/-! Par2 -/

namespace Go.Abs
section
variable {is:List AI} {af pt:List (List Nat)}
theorem xQ {pq:List Nat} {l l':List Nat} (h:l'.Sublist l) (hb:jX is pq l=true):jX is pq l'=true:=by
 induction h with
 | slnil=>rfl
 | cons a h ih=>
  simp only [jX,Bool.and_eq_true]at hb
  exact ih hb.2
 | cons_cons a h ih=>
  simp only [jX,Bool.and_eq_true,Bool.or_eq_true]at hb ⊢
  refine⟨hb.1.imp id fun h1=> ?_,ih hb.2⟩
  rw [List.all_eq_true]at h1 ⊢
  exact fun x hx=>h1 x (h.subset hx)
theorem zo {f:Nat→Bool} {l l':List Nat} (h:l'.Sublist l) (ha:l.all f=true):l'.all f=true:=by
 rw [List.all_eq_true]at ha ⊢
 exact fun x hx=>ha x (h.subset hx)
theorem H0 {l l':List Nat} (h:l'.Sublist l):iC is l'≤iC is l:=(h.filter _).length_le
theorem Kp {pre CM:List Nat} {q b:Nat} (h:CM.Sublist pre) (hs:nK is pt pre q b=true):nK is pt CM q b=true:=by
 unfold nK at *
 split at hs
 ·exact zo h hs
 ·exact zo h hs
 ·simp only [Bool.and_eq_true]at hs ⊢
  exact⟨zo h hs.1,xQ h hs.2⟩
 ·simp only [Bool.and_eq_true,decide_eq_true_eq]at hs ⊢
  exact⟨⟨zo h hs.1.1,xQ h hs.1.2⟩,Nat.le_trans (H0 (h.filter _)) hs.2⟩
theorem F1 : ∀ {R:List (Nat×Nat)} {pre CM:List Nat},CM.Sublist pre→sh is af pt pre R=true→sh is af pt CM R=true
 | [],_,_,_,_=>rfl
 | (q,b)::R,pre,CM,h,ho=>by
  simp only [sh,Bool.and_eq_true,Bool.not_eq_true']at ho ⊢
  obtain⟨⟨⟨h1,h2⟩,h3⟩,h4⟩:=ho
  refine⟨⟨⟨Kp h h1, ?_⟩,h3⟩,F1 (h.cons_cons q) h4⟩
  rw [← Bool.not_eq_true,List.contains_iff_mem]at h2 ⊢
  exact fun hm=>h2 (h.subset hm)
theorem CN : ∀ {X:List (Nat×Nat)} {e:Nat×Nat} {Y:List (Nat×Nat)} {pre:List Nat},sh is af pt pre (X++e::Y)=true→sh is af pt pre (X++Y)=true
 | [],(q,b),Y,pre,h=>by
  simp only [List.nil_append,sh,Bool.and_eq_true]at h
  exact F1 (List.sublist_cons_self q pre) h.2
 | (a,c)::X,e,Y,pre,h=>by
  simp only [List.cons_append,sh,Bool.and_eq_true]at h ⊢
  obtain⟨⟨⟨h1,h2⟩,h3⟩,h4⟩:=h
  refine⟨⟨⟨h1,h2⟩, ?_⟩,CN h4⟩
  rw [List.all_eq_true]at h3 ⊢
  intro j hj
  have:=h3 j hj
  simp only [Bool.and_eq_true,Bool.not_eq_true']at this ⊢
  refine⟨this.1, ?_⟩
  have h5:=this.2
  rw [← Bool.not_eq_true,List.contains_iff_mem]at h5 ⊢
  refine fun hm=>h5 ?_
  simp only [List.map_append,List.map_cons,List.mem_append,List.mem_cons]at hm ⊢
  exact hm.imp id .inr
theorem rE : ∀ {X:List (Nat×Nat)} {q b:Nat} {Y:List (Nat×Nat)} {pre:List Nat},sh is af pt pre (X++(q,b)::Y)=true→
 nK is pt ((X.map (·.1)).reverse++pre) q b=true∧q∉X.map (·.1)∧q∉pre∧(∀ j∈gf af q,j≠q∧j∉Y.map (·.1))∧sh is af pt (q::((X.map (·.1)).reverse++pre)) Y=true
 | [],q,b,Y,pre,h=>by
  simp only [List.nil_append,sh,Bool.and_eq_true,Bool.not_eq_true']at h
  obtain⟨⟨⟨h1,h2⟩,h3⟩,h4⟩:=h
  rw [← Bool.not_eq_true,List.contains_iff_mem]at h2
  refine⟨h1,by simp,h2,fun j hj=> ?_,h4⟩
  rw [List.all_eq_true]at h3
  have:=h3 j hj
  simp only [Bool.and_eq_true,bne_iff_ne,Bool.not_eq_true', ← Bool.not_eq_true,List.contains_iff_mem]at this
  exact this
 | (a,c)::X,q,b,Y,pre,h=>by
  simp only [List.cons_append,sh,Bool.and_eq_true]at h
  obtain⟨_,h4⟩:=h
  obtain⟨g1,g2,g3,g4,g5⟩:=rE h4
  simp only [List.map_cons,List.reverse_cons,List.append_assoc,List.singleton_append]
  refine⟨g1, ?_,fun h=>g3 (List.mem_cons_of_mem _ h),g4,g5⟩
  intro hm
  rcases List.mem_cons.1 hm with rfl | hm
  ·exact g3 (by simp)
  ·exact g2 hm
theorem zp : ∀ {Y:List (Nat×Nat)} {pre:List Nat},sh is af pt pre Y=true→∀ x∈Y,x.1∉pre∧(iu is x.1 = .alloc→∀ a∈pre,ke is a x.1=true)
 | [],_,_,x,hx=>by cases hx
 | (q,b)::Y,pre,h,x,hx=>by
  simp only [sh,Bool.and_eq_true,Bool.not_eq_true']at h
  obtain⟨⟨⟨h1,h2⟩,_⟩,h4⟩:=h
  rw [← Bool.not_eq_true,List.contains_iff_mem]at h2
  rcases List.mem_cons.1 hx with rfl | hx
  ·refine⟨h2,fun hk a ha=> ?_⟩
   unfold nK at h1
   simp only [hk]at h1
   rw [List.all_eq_true]at h1
   exact h1 a ha
  ·obtain⟨g1,g2⟩:=zp h4 x hx
   exact⟨fun h=>g1 (List.mem_cons_of_mem _ h),fun hk a ha=>g2 hk a (List.mem_cons_of_mem _ ha)⟩
theorem zW : ∀ {n:Nat},vL af pt n=true→∀ i,i<n→∀ j∈gf pt i,j∈gf af i∨∃ k∈gf af i,j∈gf pt k
 | 0,_,i,hi=>by omega
 | n+1,h,i,hi=>by
  simp only [vL,Bool.and_eq_true]at h
  rcases Nat.lt_or_ge i n with h1 | h1
  ·exact zW h.2 i h1
  ·have:i=n:=by omega
   subst this
   intro j hj
   have:=h.1
   rw [List.all_eq_true]at this
   have:=this j hj
   simp only [Bool.or_eq_true,List.contains_iff_mem,List.any_eq_true]at this
   exact this
theorem vT {pq:List Nat} : ∀ {l:List Nat},jX is pq l=true→∀ (x:Nat) (l1 l2:List Nat),l=l1++x::l2→iu is x = .alloc→x∈pq→∀ y∈l2,y∈pq
 | [],_,x,l1,l2,h=>by simp at h
 | a::l,hb,x,l1,l2,h=>by
  simp only [jX,Bool.and_eq_true,Bool.or_eq_true,Bool.not_eq_true',Bool.and_eq_false_iff]at hb
  intro hk hx y hy
  cases l1 with
  | nil=>
   simp only [List.nil_append,List.cons.injEq]at h
   obtain⟨rfl,rfl⟩:=h
   rcases hb.1 with h1 | h1
   ·rcases h1 with h1 | h1
    ·simp [hk]at h1
    ·rw [← Bool.not_eq_true,List.contains_iff_mem]at h1
     exact(h1 hx).elim
   ·rw [List.all_eq_true]at h1
    have:=h1 y hy
    rwa [List.contains_iff_mem]at this
  | cons b l1=>
   simp only [List.cons_append,List.cons.injEq]at h
   exact vT hb.2 x l1 l2 h.2 hk hx y hy
end
structure Pd where
 q:Nat
 t:Nat
 z:List D
 b:Nat
structure Yw (is:List AI) (R:List (Nat×Nat)) (B:eU) (M:Map) (s:St) (act:Act) (w:World) (p:Pd):Prop where
 mem:p.q∈R.map (·.1)
 ai:is[p.q]? = some (.op (some p.t) none (.alloc p.z))
 cells : ∃ (vs:Array Value) (T:TypeId),w.heap[p.b]? = some (.cells vs T (0,0))∧vs.size=p.z.length∧(∀ v∈vs,v.oneCell'=true)∧
  ∀ (M:Map) (s:St) (i:Nat) (d:D) (v:Value),p.z[i]? = some d→vs[i]? = some v→RD M s d v
 unk:I3 M s p.b
 base:B.w.heap.size≤p.b
 slot:act.tmps.getD p.t Go.undef = .pointer (some ⟨p.b,0,none⟩)
def wX (P:Program) (is:List AI) (K:Tm→St→Prop) (B:eU) (nt:Nat) (R:List (Nat×Nat)) (dI:List Pd) (act:Act) (w:World):Prop:=
 ∃ (M:Map) (s:St) (tm rF:Tm) (bB:List St),Ext B.M B.s B.w M s w∧Rel M s w∧k5 M s rF act.tmps∧(∀ t,(∀ p∈dI,p.t≠t)→rF.get t=tm.get t)∧
  act.tmps.size=nt∧act.defers = []∧jP P is K R bB tm s∧(∀ p∈dI,Yw is R B M s act w p)∧
  (∀ p∈dI,∀ p'∈dI,p.q=p'.q∨p.t=p'.t∨p.b=p'.b→p=p')
structure pV (is:List AI) (af pt:List (List Nat)) (cW:Array Bool) (R:List (Nat×Nat)) (dI:List Pd):Prop where
 ok:sh is af pt [] R=true
 DO : ∀ i,i<is.length→(cW.getD i false=true↔(i∉R.map (·.1)∨∃ p∈dI,p.q=i))
 cl : ∀ i,i<is.length→cW.getD i false=true→∀ j∈gf pt i,cW.getD j false=true
 size:cW.size=is.length
 lt : ∀ x∈R,x.1<is.length
section
variable {P:Program} {is:List AI} {af pt:List (List Nat)} {K:Tm→St→Prop} {B:eU} {nt:Nat}
theorem Yx {cW:Array Bool} {q b:Nat} {R:List (Nat×Nat)} {dI:List Pd} {act:Act} {w:World} (hs:pV is af pt cW ((q,b)::R) dI) (h:wX P is K B nt ((q,b)::R) dI act w)
 {p:Pd} (hp:p∈dI) (sr:p.q=q) :
 pV is af pt cW R (dI.filter fun p'=>decide (p'.q≠q))∧wX P is K B nt R (dI.filter fun p'=>decide (p'.q≠q)) act w:=by
 have oy : ∀ p',p'∈(dI.filter fun p'=>decide (p'.q≠q))↔p'∈dI∧p'.q≠q:=fun p'=>by simp
 constructor
 ·have nQ:=hs.ok
  have Az:=rE (X:= []) nQ
  refine⟨CN (X:= []) nQ,fun i hi=> ?_,hs.cl,hs.size,fun x hx=>hs.lt x (List.mem_cons_of_mem _ hx)⟩
  rw [hs.DO i hi]
  simp only [List.map_cons,List.mem_cons,not_or]
  have Yy:q∉R.map (·.1):=fun hm=>by
   obtain⟨x,hx,rfl⟩:=List.mem_map.1 hm
   exact(zp Az.2.2.2.2 x hx).1 (by simp)
  constructor
  ·rintro(⟨h1,h2⟩ | ⟨p',h1,h2⟩)
   ·exact .inl h2
   ·by_cases hq:i=q
    ·subst hq;exact .inl Yy
    ·exact .inr ⟨p',(oy p').2 ⟨h1,by rw [h2];exact hq⟩,h2⟩
  ·rintro(h1 | ⟨p',h1,h2⟩)
   ·by_cases hq:i=q
    ·subst hq;exact .inr ⟨p,hp,sr⟩
    ·exact .inl ⟨hq,h1⟩
   ·exact .inr ⟨p',((oy p').1 h1).1,h2⟩
 ·obtain⟨M,s,tm,rF,bB,e,r,ht,o3,hn,hd,hg,uA,q6⟩:=h
  have hk:=uA p hp
  obtain⟨vs,T,hh,hl,h1,h2⟩:=hk.cells
  have uw:=hk.ai
  rw [sr]at uw
  simp only [jP,uw,AI.kind,fP]at hg
  obtain⟨d,s',zO,hg⟩:=hg
  have pz:aW (.alloc p.z) tm s=some (d,s'):=zO
  simp only [aW,Option.some.injEq,Prod.mk.injEq]at pz
  obtain⟨rfl,rfl⟩:=pz
  obtain⟨r',e',le⟩:=r.acb e hk.unk hk.base p.z vs T hh hl h1 (h2 M s)
  refine⟨_,_,_,rF.put (some p.t) (.ptr s.az.length 0),_,e',r',fun u=> ?_,fun t Yz=> ?_,hn,hd,hg,fun p' ny=> ?_,fun p1 h1 p2 h2=>q6 p1 ((oy p1).1 h1).1 p2 ((oy p2).1 h2).1⟩
  ·rw [Tm.kj]
   split
   ·rename_i heq
    cases heq
    rw [hk.slot]
    have:(M.dM s.az.length p.b).mu s.az.length=p.b:=by simp [Map.dM,Map.mu]
    have h5:=RD.ptr (M:=M.dM s.az.length p.b) (s:= {s with az:=s.az++ [p.z]}) s.az.length 0 (by simp) (by simp [Map.dM,Map.ob])
    rw [this]at h5
    exact h5
   ·exact(ht u).mono le
  ·simp only [AI.dst]
   rw [Tm.kj,Tm.kj]
   split
   ·rfl
   ·rename_i fi
    refine o3 t fun p' ny=> ?_
    by_cases hq:p'.q=q
    ·have:=q6 p' ny p hp (.inl (hq.trans sr.symm))
     subst this
     exact fun h=>fi (by rw [h])
    ·exact Yz p' ((oy p').2 ⟨ny,hq⟩)
  ·obtain⟨hp1,YA⟩:=(oy p').1 ny
   have zX:=uA p' hp1
   refine⟨?_,zX.ai,zX.cells,⟨fun o ho=> ?_,zX.unk.t,zX.unk.g⟩,zX.base,zX.slot⟩
   ·have:=zX.mem
    simp only [List.map_cons,List.mem_cons]at this
    exact this.resolve_left YA
   ·simp at ho
    rcases Nat.lt_or_ge o s.az.length with h5 | h5
    ·rw [le.mu o h5];exact zX.unk.o o h5
    ·have:o=s.az.length:=by omega
     subst this
     have:(M.dM s.az.length p.b).mu s.az.length=p.b:=by simp [Map.dM,Map.mu]
     rw [this]
     intro hb
     have:=q6 p hp p' hp1 (.inr (.inr hb))
     subst this
     exact YA sr
theorem norm {cW:Array Bool} {act:Act} {w:World} : ∀ (R:List (Nat×Nat)) (dI:List Pd),pV is af pt cW R dI→wX P is K B nt R dI act w→
 ∃ R' uB,pV is af pt cW R' uB∧wX P is K B nt R' uB act w∧∀ x l,R'=x::l→∀ p∈uB,p.q≠x.1
 | [],dI,hs,h=>⟨[],dI,hs,h,fun _ _ he=>by cases he⟩
 | (q,b)::R,dI,hs,h=>by
  by_cases hp : ∃ p∈dI,p.q=q
  ·obtain⟨p,hp,sr⟩:=hp
   obtain⟨h1,h2⟩:=Yx hs h hp sr
   exact norm R _ h1 h2
  ·refine⟨(q,b)::R,dI,hs,h,fun x l he p YB sr=>hp ⟨p,YB, ?_⟩⟩
   cases he
   exact sr
theorem UC {ops:Array Oper} {q:Nat} {o:Oper} {ai:AI} (hi:ops[q]? = some o) (hc:cI P nt ops o=some ai) {R R':List (Nat×Nat)} {dI:List Pd} {act:Act} {w:World} {M:Map} {s s1:St} {tm rF:Tm} {d:D} {UD:List St}
 (e:Ext B.M B.s B.w M s w) (r:Rel M s w) (ht:k5 M s rF act.tmps) (o3 : ∀ t,(∀ p∈dI,p.t≠t)→rF.get t=tm.get t) (hn:act.tmps.size=nt) (hd:act.defers = [])
 (uA : ∀ p∈dI,Yw is R B M s act w p) (q6 : ∀ p∈dI,∀ p'∈dI,p.q=p'.q∨p.t=p'.t∨p.b=p'.b→p=p')
 (hv:hS P [ai] (fun a b=>a=rF.put ai.dst d∧b=s1) rF s) (hg:jP P is K R' UD (tm.put ai.dst d) s1)
 (oy : ∀ p∈dI,p.q∈R'.map (·.1)) (pd : ∀ p∈dI,ai.dst≠some p.t) {Q:Exit→Act→World→Prop} :
 wpOp P ops Q q (wX P is K B nt R' dI) act w:=by
 refine vm hi hc r (B.laid.ext e) ht hv fun d' v s2 w1 M1 hk e1 r1 oG=> ?_
 obtain⟨k6,rfl⟩:=hk
 have hde:=rD hc
 have hC : ∀ t,o.dst=some t→t<act.tmps.size:=fun t h=>by rw [hn];exact vQ hc t h
 refine⟨M1,s2,tm.put ai.dst d,rF.put ai.dst d,UD,e.trans e1,r1, ?_,fun t Yz=> ?_, ?_, ?_,hg,fun p hp=> ?_,q6⟩
 ·rw [← k6,hde]
  exact(ht.mono e1.le).put hC oG
 ·rw [Tm.kj,Tm.kj,o3 t Yz]
 ·cases ho:o.dst <;> simp [Act.put,hn]
 ·cases ho:o.dst <;> simp [Act.put,hd]
 ·have hk:=uA p hp
  obtain⟨vs,T,hh,hl,h1,h2⟩:=hk.cells
  have hb:=kY hh
  refine⟨oy p hp,hk.ai,⟨vs,T,by rw [e1.kept p.b hb hk.unk.o hk.unk.t];exact hh,hl,h1,h2⟩,hk.unk.mono e1 hb,hk.base, ?_⟩
  rw [← hk.slot]
  have:=pd p hp
  rw [hde]at this
  cases ho:o.dst with
  | none=>rfl
  | some t=>
   rw [ho]at this
   have fi:t≠p.t:=fun h=>this (by rw [h])
   simp [Act.put,Array.getElem?_setIfInBounds_ne fi]
theorem Kq {ai:AI} (hm:fP ai.kind=false) {tm:Tm} {s:St} {d:D} (h:iN ai tm s=some d):hS P [ai] (fun a b=>a=tm.put ai.dst d∧b=s) tm s:=by
 cases ai with
 | op dst g o=>
  have hko:=I2 hm
  have key : ∀ {d},(aW o tm s).map (·.1)=some d→aW o tm s=some (d,s):=by
   intro d h
   cases he:aW o tm s with
   | none=>rw [he]at h;cases h
   | some p=>
    obtain⟨d',s'⟩:=p
    rw [he]at h
    simp only [Option.map_some,Option.some.injEq]at h
    subst h
    rw [HY (by rw [← hko];exact hm) he]
  simp only [hS,AI.dst]
  cases g with
  | none=>
   simp only [iN]at h
   simp only [guarded,key h,and_self]
  | some p=>
   obtain⟨t,want⟩:=p
   simp only [iN]at h
   simp only [guarded]
   split at h
   ·rename_i b hb
    simp only [hb]
    split at h
    ·rename_i heq
     refine⟨fun _=>by simp only [key h,and_self],fun fi=> ?_⟩
     subst heq
     cases b <;> cases fi
    ·rename_i fi
     cases h
     exact⟨fun heq=>(fi heq).elim,fun _=>by simp⟩
   ·rename_i ds hb
    cases h
    simp only [hb,and_self]
   ·cases h
 | call dst g f xs=>cases hm
 | nil dst g n x=>cases hm
 | im dst g t xs=>cases hm
theorem yF {g:Option (Nat×Bool)} {tm:Tm} {A A' C C':Prop} (ha:A→A') (hc:C→C') (hh:guarded g tm A C):guarded g tm A' C':=by
 cases g with
 | none=>exact ha hh
 | some p=>
  obtain⟨t,want⟩:=p
  unfold guarded at *
  simp only at *
  split
  ·rename_i b hb;rw [hb]at hh;exact⟨fun e=>ha (hh.1 e),fun e=>hc (hh.2 e)⟩
  ·rename_i hb;rw [hb]at hh;exact hc hh
  ·rename_i x h1 h2
   split at hh
   ·exact h1 _ ‹_›
   ·exact h2 _ ‹_›
   ·exact hh
theorem F2 {ai:AI} {tm:Tm} {s s1:St} {d:D} (h:qZ P ai tm s d s1):hS P [ai] (fun a b=>a=tm.put ai.dst d∧b=s1) tm s:=by
 cases ai with
 | op dst g o=>
  refine yF (fun e=> ?_) (fun e=> ?_) h
  ·rw [e];exact⟨rfl,rfl⟩
  ·obtain⟨rfl,rfl⟩:=e;exact⟨rfl,rfl⟩
 | call dst g f xs=>
  refine yF (fun e=> ?_) (fun e=> ?_) h
  ·exact e.mono fun x y hxy=>by obtain⟨rfl,rfl⟩:=hxy;exact⟨rfl,rfl⟩
  ·obtain⟨rfl,rfl⟩:=e;exact⟨rfl,rfl⟩
 | nil dst g n x=>exact h.elim
 | im dst g t xs=>exact h.elim
end
end Go.Abs

/-! Par3 -/

namespace Go.Abs
section
variable {P:Program} {is:List AI} {af pt:List (List Nat)} {K:Tm→St→Prop} {B:eU} {nt:Nat}
theorem zq {ops:Array Oper} : ∀ {ol:List Oper} {is:List AI},pO P nt ops ol=some is→is.length=ol.length∧∀ (i:Nat) (o:Oper),ol[i]? = some o→∃ ai,is[i]? = some ai∧cI P nt ops o=some ai
 | [],is,h=>by cases h;exact⟨rfl,by simp⟩
 | o::ol,is,h=>by
  unfold pO at h
  split at h
  ·rename_i ai NF h1 h2
   cases h
   obtain⟨g1,g2⟩:=zq h2
   refine⟨by simp [g1],fun i o' ho=> ?_⟩
   cases i with
   | zero=>simp at ho;subst ho;exact⟨ai,rfl,h1⟩
   | succ i=>exact g2 i o' (by simpa using ho)
  ·cases h
theorem q7 {cW:Array Bool} {i:Nat} (h:i<cW.size):cW.getD i true=cW.getD i false:=by
 simp [h]
theorem pV.done {cW:Array Bool} {X Y:List (Nat×Nat)} {q b:Nat} {dI:List Pd} (hs:pV is af pt cW (X++(q,b)::Y) dI) (hq:q<is.length)
 (DP : ∀ j∈gf pt q,cW.getD j false=true):pV is af pt (cW.setIfInBounds q true) (X++Y) dI:=by
 obtain⟨g1,g2,g3,g4,g5⟩:=rE hs.ok
 have hqY:q∉Y.map (·.1):=fun hm=>by
  obtain⟨x,hx,rfl⟩:=List.mem_map.1 hm
  exact(zp g5 x hx).1 (by simp)
 refine⟨CN hs.ok,fun i hi=> ?_,fun i hi hl j hj=> ?_,by simp [hs.size],fun x hx=>hs.lt x (by simp at hx ⊢;exact hx.imp id .inr)⟩
 ·by_cases sq:i=q
  ·subst sq
   have:i<cW.size:=by rw [hs.size];exact hq
   simp only [List.map_append,List.mem_append,g2,hqY,or_self,not_false_eq_true,true_or,iff_true]
   simp [this]
  ·rw [getD_set_ne false (Ne.symm sq),hs.DO i hi]
   simp [sq]
 ·by_cases sq:i=q
  ·subst sq;exact getD_set_true (DP j hj)
  ·rw [getD_set_ne false (Ne.symm sq)]at hl
   exact getD_set_true (hs.cl i hi hl j hj)
theorem pV.flag {cW:Array Bool} {R:List (Nat×Nat)} {dI:List Pd} (hs:pV is af pt cW R dI) {p:Pd} (hq:p.q<is.length)
 (DP : ∀ j∈gf pt p.q,cW.getD j false=true):pV is af pt (cW.setIfInBounds p.q true) R (p::dI):=by
 refine⟨hs.ok,fun i hi=> ?_,fun i hi hl j hj=> ?_,by simp [hs.size],hs.lt⟩
 ·by_cases sq:i=p.q
  ·subst sq
   have:p.q<cW.size:=by rw [hs.size];exact hq
   simp [this]
  ·rw [getD_set_ne false (Ne.symm sq),hs.DO i hi]
   have fi:p.q≠i:=fun h=>sq h.symm
   simp [fi]
 ·by_cases sq:i=p.q
  ·subst sq;exact getD_set_true (DP j hj)
  ·rw [getD_set_ne false (Ne.symm sq)]at hl
   exact getD_set_true (hs.cl i hi hl j hj)
theorem Kr {ai:AI} (h:ai.kind = .alloc) : ∃ t z,ai = .op (some t) none (.alloc z):=by
 cases ai with
 | op dst g o=>
  unfold AI.kind at h
  split at h
  ·rename_i heq;cases heq;exact⟨_,_,rfl⟩
  ·rename_i heq
   cases heq
   exfalso
   revert h
   cases o <;> simp [AO.kind]
  ·cases h
 | call dst g f xs=>cases h
 | nil dst g n x=>cases h
 | im dst g t xs=>cases h
theorem Ks {ops:Array Oper} (vn:pO P nt ops ops.toList=some is) (Kt:vL af pt is.length=true)
 (hK : ∀ tm bK s,Tm.eqv tm bK→K tm s→K bK s) {cW:Array Bool} {R:List (Nat×Nat)} {dI:List Pd} {act:Act} {w:World} (hs:pV is af pt cW R dI) (h:wX P is K B nt R dI act w)
 (acd : ∀ x l,R=x::l→∀ p∈dI,p.q≠x.1) {q:Nat} (hq:q<is.length) (Bw:cW.getD q false=false) (oG : ∀ j∈gf af q,j<is.length∧cW.getD j false=true)
 {Q:Exit→Act→World→Prop} {K2:Act→World→Prop} (YD : ∀ R' uB a' w',pV is af pt (cW.setIfInBounds q true) R' uB→wX P is K B nt R' uB a' w'→K2 a' w'):wpOp P ops Q q K2 act w:=by
 obtain⟨hlen,hE⟩:=zq vn
 have Uu:q<ops.size:=by rw [hlen]at hq;simpa using hq
 obtain⟨ai,uw,NY⟩:=hE q ops[q] (by simp [Uu])
 have hi:ops[q]? = some ops[q]:=by simp [Uu]
 have DP : ∀ j∈gf pt q,cW.getD j false=true:=fun j hj=>by
  rcases zW Kt q hq j hj with h1 | ⟨k,h1,h2⟩
  ·exact(oG j h1).2
  ·exact hs.cl k (oG k h1).1 (oG k h1).2 j h2
 have NZ : ∀ p∈dI,p.q≠q:=fun p hp sr=>by
  have:=(hs.DO q hq).2 (.inr ⟨p,hp,sr⟩)
  rw [Bw]at this;cases this
 have Yy:q∈R.map (·.1):=by
  by_cases hm:q∈R.map (·.1)
  ·exact hm
  ·have:=(hs.DO q hq).2 (.inl hm)
   rw [Bw]at this;cases this
 obtain⟨⟨q',b⟩,hx,hqq⟩:=List.mem_map.1 Yy
 simp only at hqq
 subst hqq
 obtain⟨X,Y,rfl⟩:=List.append_of_mem hx
 obtain⟨g1,g2,g3,g4,g5⟩:=rE hs.ok
 rw [List.append_nil]at g1 g5
 obtain⟨M,s,tm,rF,bB,e,r,ht,o3,hn,hd,hg,uA,q6⟩:=h
 have N0:iu is q'=ai.kind:=by simp [iu,uw]
 -- what must have come up ahead of it, is not here any more, but for what was allocated early
 have UE : ∀ a∈X.map (·.1),a∈gf pt q'→∃ p∈dI,p.q=a:=fun a ha fQ=>by
  have h1:=DP a fQ
  obtain⟨x,hxX,rfl⟩:=List.mem_map.1 ha
  rcases(hs.DO x.1 (hs.lt x (by simp [hxX]))).1 h1 with h2 | h2
  ·exact(h2 (by simp;exact .inl ⟨x.2,hxX⟩)).elim
  ·exact h2
 have UF : ∀ x l,X=x::l→x.1∉gf pt q':=fun x l hX hxp=>by
  obtain⟨p,hp,sr⟩:=UE x.1 (by simp [hX]) hxp
  exact acd x (l++(q',b)::Y) (by simp [hX]) p hp sr
 have hpk : ∀ p∈dI,iu is p.q = .alloc:=fun p hp=>by simp [iu,(uA p hp).ai,AI.kind]
 have Az : ∀ p∈dI,(p.q∈X.map (·.1)→ke is p.q q'=true)→(∀ t,ai.dst=some t→t≠p.t)∧p.t∉ai.reads:=fun p hp hX=>by
  have hk:=uA p hp
  have hm:=hk.mem
  simp only [List.map_append,List.map_cons,List.mem_append,List.mem_cons]at hm
  rcases hm with hm | hm | hm
  ·have:=hX hm
   simp only [ke,hk.ai,uw]at this
   obtain⟨p1,p2,p3⟩:=apart_spec this
   exact⟨fun t ht he=>p3 p.t rfl (by rw [ht,he]),p1 p.t rfl⟩
  ·exact(NZ p hp hm).elim
  ·obtain⟨x,hxY,UG⟩:=List.mem_map.1 hm
   have:=(zp g5 x hxY).2 (by rw [UG];exact hpk p hp) q' (by simp)
   rw [UG]at this
   simp only [ke,hk.ai,uw]at this
   obtain⟨p1,p2,p3⟩:=apart_spec this
   exact⟨fun t ht he=>p3 t ht (by rw [he];rfl),p2 p.t rfl⟩
 have N1:(∀ p∈dI,p.t∉ai.reads)→∀ t∈ai.reads,tm.get t=rF.get t:=fun hp t ht=>(o3 t fun p YB he=>hp p YB (by rw [he];exact ht)).symm
 have UH : ∀ p∈dI,p.q∈(X++Y).map (·.1):=fun p hp=>by
  have hm:=(uA p hp).mem
  have:=NZ p hp
  simp only [List.map_append,List.map_cons,List.mem_append,List.mem_cons]at hm ⊢
  rcases hm with hm | hm | hm
  ·exact .inl hm
  ·exact(this hm).elim
  ·exact .inr hm
 by_cases zY:ai.kind = .alloc
 ·-- an allocation
  obtain⟨t,z,rfl⟩:=Kr zY
  have fQ : ∀ a∈X.map (·.1),ke is a q'=true:=fun a ha=>by
   unfold nK at g1
   rw [N0,zY]at g1
   simp only [List.all_reverse,List.all_eq_true]at g1
   exact g1 a ha
  have DQ:=fun p hp=>Az p hp (fQ p.q)
  refine HZ hi NY fun vs T hl h1 h2=> ?_
  obtain⟨r1,e1,u1⟩:=r.idle (.cells vs T)
  have YE:t<act.tmps.size:=by
   rw [hn]
   exact vQ NY t (by rw [← rD NY];rfl)
  have:=hs.flag (p:=⟨q',t,z,w.heap.size⟩) hq DP
  refine YD _ _ _ _ this ⟨M,s,tm,rF.put (some t) .junk,bB,e.trans e1,r1,k5.put ht (dst:=some t) (fun u hu=>by cases hu;exact YE) (.junk _),fun u hu=> ?_,by simp [Act.put,hn],by simp [Act.put,hd],hg,fun p hp=> ?_,fun p hp p' ny he=> ?_⟩
  ·have h3:=hu ⟨q',t,z,w.heap.size⟩ (by simp)
   rw [Tm.kj,if_neg (by simpa using h3)]
   exact o3 u fun p hp=>hu p (List.mem_cons_of_mem _ hp)
  ·rcases List.mem_cons.1 hp with rfl | hp
   ·refine⟨by simp,uw,⟨vs,T,heap_alloc_new w _,hl,h1,h2⟩,u1,e.size, ?_⟩
    simp [Act.put,YE]
   ·have hk:=uA p hp
    obtain⟨fj,T',iZ,jg,qD,vS⟩:=hk.cells
    refine⟨hk.mem,hk.ai,⟨fj,T',by rw [heap_alloc_old w _ _ (kY iZ)];exact iZ,jg,qD,vS⟩,hk.unk,hk.base, ?_⟩
    rw [← hk.slot]
    have fi:t≠p.t:=(DQ p hp).1 t rfl
    simp [Act.put,Array.getElem?_setIfInBounds_ne fi]
  ·have dS : ∀ p∈dI,¬ (q'=p.q∨t=p.t∨w.heap.size=p.b):=fun p hp h=>by
    rcases h with h | h | h
    ·exact NZ p hp h.symm
    ·exact(DQ p hp).1 t rfl h
    ·obtain⟨fj,T',iZ,_⟩:=(uA p hp).cells
     have:=kY iZ
     omega
   rcases List.mem_cons.1 hp with rfl | hp <;> rcases List.mem_cons.1 ny with rfl | ny
   ·rfl
   ·exact(dS p' ny he).elim
   ·exact(dS p hp (he.imp Eq.symm (Or.imp Eq.symm Eq.symm))).elim
   ·exact q6 p hp p' ny he
 ·by_cases mQ:fP ai.kind=true
  ·-- a step that changes something: it stands first
   have hkc:ai.kind = .core:=by
    cases hk:ai.kind <;> simp_all [fP]
   have hX:X = []:=by
    cases X with
    | nil=>rfl
    | cons x l=>
     refine(UF x l rfl ?_).elim
     unfold nK at g1
     rw [N0,hkc]at g1
     simp only [List.all_reverse,List.all_eq_true]at g1
     have:=g1 x.1 (by simp)
     rwa [List.contains_iff_mem]at this
   subst hX
   have DQ:=fun p hp=>Az p hp (fun h=>by simp at h)
   simp only [List.nil_append,jP,uw,mQ]at hg
   obtain⟨d,s1,zO,hg⟩:=hg
   have afC:=vj (N1 fun p hp=>(DQ p hp).2) zO
   refine wpOp_mono (fun a' w' hr=>YD _ _ _ _ (hs.done hq DP) hr) ?_
   exact UC hi NY e r ht o3 hn hd uA q6 (F2 afC) hg UH (fun p hp he=>(DQ p hp).1 _ he rfl)
  ·-- a step that changes nothing
   have hm:fP ai.kind=false:=by simpa using mQ
   have nS : ∀ a∈X.map (·.1),a∉gf pt q':=fun a ha fQ=>by
    obtain⟨p,hp,sr⟩:=UE a ha fQ
    have DJ:iu is a = .alloc:=by rw [← sr];exact hpk p hp
    have jL:jX is (gf pt q') (X.map (·.1)).reverse=true:=by
     unfold nK at g1
     rw [N0]at g1
     cases hk:ai.kind with
     | pure=>simp only [hk,Bool.and_eq_true]at g1;exact g1.2
     | load=>simp only [hk,Bool.and_eq_true]at g1;exact g1.1.2
     | alloc=>exact(zY hk).elim
     | core=>rw [hk]at hm;cases hm
    cases X with
    | nil=>simp at ha
    | cons x l=>
     have ha2:a∈((x::l).map (·.1)).reverse:=List.mem_reverse.2 ha
     obtain⟨l1,l2,zZ⟩:=List.append_of_mem ha2
     have AB:=vT jL a l1 l2 zZ DJ fQ
     refine UF x l rfl ?_
     cases gQ:l2.reverse with
     | nil=>
      have h3:l2 = []:=by simpa using gQ
      subst h3
      have:=congrArg List.reverse zZ
      simp at this
      rw [this.1];exact fQ
     | cons y l3=>
      have:=congrArg List.reverse zZ
      simp only [List.reverse_reverse,List.map_cons,List.reverse_append,List.reverse_cons,List.reverse_nil,List.append_assoc,gQ,List.cons_append,List.nil_append,List.cons.injEq]at this
      rw [this.1]
      exact AB y (by rw [← List.mem_reverse,gQ];simp)
   have fQ : ∀ a∈X,ke is a.1 q'=true:=fun a ha=>by
    have h3 : ∀ x∈(X.map (·.1)).reverse,((gf pt q').contains x || ke is x q')=true:=by
     unfold nK at g1
     rw [N0]at g1
     cases hk:ai.kind with
     | pure=>simp only [hk,Bool.and_eq_true]at g1;exact List.all_eq_true.1 g1.1
     | load=>simp only [hk,Bool.and_eq_true]at g1;exact List.all_eq_true.1 g1.1.1
     | alloc=>exact(zY hk).elim
     | core=>rw [hk]at hm;cases hm
    have:=h3 a.1 (List.mem_reverse.2 (List.mem_map_of_mem ha))
    simp only [Bool.or_eq_true,List.contains_iff_mem]at this
    exact this.resolve_left (nS a.1 (List.mem_map_of_mem ha))
   have YF:ai.kind = .load→iC is (X.map (·.1))≤b:=fun hk=>by
    unfold nK at g1
    rw [N0,hk]at g1
    simp only [Bool.and_eq_true,decide_eq_true_eq]at g1
    have h3:=g1.2
    have h4:(X.map (·.1)).reverse.filter (fun a=> !(gf pt q').contains a)=(X.map (·.1)).reverse:=by
     rw [List.filter_eq_self]
     intro a ha
     have:=nS a (List.mem_reverse.1 ha)
     simpa using this
    rw [h4]at h3
    unfold iC at h3 ⊢
    rw [List.filter_reverse,List.length_reverse]at h3
    exact h3
   have DQ:=fun p hp=>Az p hp (fun h=>by
    obtain⟨x,hx,UG⟩:=List.mem_map.1 h
    rw [← UG];exact fQ x hx)
   obtain⟨d,h1,_,pW⟩:=vl hK uw hm Y X bB tm s fQ YF hg
   have qD:iN ai rF s=some d:=by rw [← pB (N1 fun p hp=>(DQ p hp).2)];exact h1
   refine wpOp_mono (fun a' w' hr=>YD _ _ _ _ (hs.done hq DP) hr) ?_
   exact UC hi NY e r ht o3 hn hd uA q6 (Kq hm qD) pW UH (fun p hp he=>(DQ p hp).1 _ he rfl)
theorem z6 {o:Oper} {j:Nat} : j∈lS o↔∃ e∈o.after,Region.binds .any e=true∧e.on=j:=by
 simp only [lS,List.mem_map,List.mem_filter,Array.mem_toList_iff]
 constructor
 ·rintro⟨e,⟨h1,h2⟩,h3⟩;exact⟨e,h1,h2,h3⟩
 ·rintro⟨e,h1,h2,h3⟩;exact⟨e,⟨h1,h2⟩,h3⟩
theorem Kv {ops:Array Oper} (vn:pO P nt ops ops.toList=some is) (Kt:vL (ops.toList.map lS) pt is.length=true)
 (YG : ∀ i,i<is.length→∀ j∈gf (ops.toList.map lS) i,j<is.length) {Q:Exit→Tm→St→Prop} (hK : ∀ tm bK s,Tm.eqv tm bK→K tm s→K bK s)
 (hKQ : ∀ tm s act w,K tm s→Holds B nt tm s act w→ox B nt Q .normal act w) :
 ∀ (fuel:Nat) (cW:Array Bool) (R:List (Nat×Nat)) (dI:List Pd) (act:Act) (w:World) (U:List Nat),U.length≤fuel→(∀ j,j<is.length→cW.getD j false=false→j∈U)→
  pV is (ops.toList.map lS) pt cW R dI→wX P is K B nt R dI act w→wpAny P .any ops (ox B nt Q) fuel cW act w:=by
 obtain⟨hlen,_⟩:=zq vn
 have uC:is.length=ops.size:=by rw [hlen];simp
 have YH : ∀ (j:Nat) (o:Oper),ops[j]? = some o→gf (ops.toList.map lS) j=lS o:=fun j o h=>by
  simp [gf,List.getD,h]
 have fin : ∀ {cW:Array Bool} {dI:List Pd} {act:Act} {w:World},wX P is K B nt [] dI act w→ox B nt Q .normal act w:=by
  intro cW dI act w h
  obtain⟨M,s,tm,rF,bB,e,r,ht,o3,hn,hd,hg,uA,q6⟩:=h
  have FQ : ∀ p∈dI,False:=fun p hp=>by have:=(uA p hp).mem;simp at this
  exact hKQ rF s act w (hK tm rF s (fun t=>(o3 t fun p hp=>(FQ p hp).elim).symm) hg) ⟨M,e,r,ht,hn,hd⟩
 have N2 : ∀ {cW:Array Bool} {R:List (Nat×Nat)} {dI:List Pd} {x:Nat×Nat} {l:List (Nat×Nat)},pV is (ops.toList.map lS) pt cW R dI→R=x::l→(∀ p∈dI,p.q≠x.1)→
  x.1∈Region.ready .any ops cW:=by
  intro cW R dI x l hs hR NZ
  subst hR
  have hx:=hs.lt x (by simp)
  rw [mem_ready]
  have Bw:cW.getD x.1 false=false:=by
   cases hl:cW.getD x.1 false with
   | false=>rfl
   | true=>
    rcases(hs.DO x.1 hx).1 hl with h1 | ⟨p,hp,sr⟩
    ·exact(h1 (by simp)).elim
    ·exact(NZ p hp sr).elim
  have hxo:x.1<ops.size:=by rw [← uC];exact hx
  refine⟨by rw [q7 (by rw [hs.size];exact hx)];exact Bw,ops[x.1],by simp [hxo],fun e he hb=> ?_⟩
  have hm:e.on∈gf (ops.toList.map lS) x.1:=by rw [YH x.1 ops[x.1] (by simp [hxo])];exact z6.2 ⟨e,he,hb,rfl⟩
  obtain⟨_,_,_,g4,_⟩:=rE (X:= []) (q:=x.1) (b:=x.2) hs.ok
  obtain⟨h1,h2⟩:=g4 _ hm
  refine(hs.DO e.on (YG x.1 hx _ hm)).2 (.inl ?_)
  simp only [List.map_cons,List.mem_cons,not_or]
  exact⟨h1,h2⟩
 intro fuel
 induction fuel with
 | zero=>
  intro cW R dI act w U hU Bw hs h
  obtain⟨R',uB,nM,h',hn⟩:=norm R dI hs h
  have hUn:U = []:=List.length_eq_zero_iff.1 (by omega)
  have AB : ∀ j,j<is.length→cW.getD j false=true:=fun j hj=>by
   cases hl:cW.getD j false with
   | true=>rfl
   | false=>have:=Bw j hj hl;rw [hUn]at this;cases this
  have hR:R' = []:=by
   cases hR:R' with
   | nil=>rfl
   | cons x l=>
    have hx:=nM.lt x (by simp [hR])
    have:=N2 nM hR (hn x l hR)
    rw [mem_ready,q7 (by rw [nM.size];exact hx),AB x.1 hx]at this
    cases this.1
  subst hR
  refine⟨?_,fin (cW:=cW) h'⟩
  cases hr:Region.ready .any ops cW with
  | nil=>rfl
  | cons j js=>
   have hj:j∈Region.ready .any ops cW:=by rw [hr];simp
   rw [mem_ready]at hj
   obtain⟨h1,o,ho,_⟩:=hj
   have UI:j<is.length:=by rw [uC];exact(Array.getElem?_eq_some_iff.1 ho).1
   rw [q7 (by rw [hs.size];exact UI),AB j UI]at h1
   cases h1
 | succ fuel ih=>
  intro cW R dI act w U hU Bw hs h
  obtain⟨R',uB,nM,h',hn⟩:=norm R dI hs h
  refine⟨fun hr=> ?_,fun i hi=> ?_⟩
  ·cases hR:R' with
   | nil=>subst hR;exact fin (cW:=cW) h'
   | cons x l=>
    have:=N2 nM hR (hn x l hR)
    rw [hr]at this
    cases this
  ·rw [mem_ready]at hi
   obtain⟨h1,o,ho,Kw⟩:=hi
   have pA:i<is.length:=by rw [uC];exact(Array.getElem?_eq_some_iff.1 ho).1
   rw [q7 (by rw [hs.size];exact pA)]at h1
   refine Ks vn Kt hK nM h' hn pA h1 (fun j hj=>⟨YG i pA j hj, ?_⟩) fun R2 ace a2 w2 DG h2=> ?_
   ·rw [YH i o ho]at hj
    obtain⟨e,he,hb,rfl⟩:=z6.1 hj
    exact Kw e he hb
   ·refine ih _ R2 ace a2 w2 (U.erase i) ?_ (fun j hj hl=> ?_) DG h2
    ·have:=List.length_erase_of_mem (Bw i pA h1)
     omega
    ·have hji:j≠i:=fun e=>by
      subst e
      have:j<cW.size:=by rw [hs.size];exact pA
      simp [this]at hl
     rw [getD_set_ne false (Ne.symm hji)]at hl
     exact(List.mem_erase_of_ne hji).2 (Bw j hj hl)
theorem Sem.par {is:List AI} {kR:List (Nat×Nat)} {Q:Exit→Tm→St→Prop} {tm:Tm} {s:St} (h:jP P is (Q .normal) kR [] tm s):Sem P B nt (.par is kR) Q tm s:=by
 intro c hc act w hh
 obtain⟨id,ops,rfl,hi,hm,pt,hp⟩:=ku hc
 simp only [Fx,Bool.and_eq_true,List.all_eq_true,List.mem_range,List.contains_iff_mem,decide_eq_true_eq]at hp
 obtain⟨⟨⟨⟨h1,h2⟩,h3⟩,h4⟩,h5⟩:=hp
 obtain⟨hlen,_⟩:=zq hi
 have uC:is.length=ops.size:=by rw [hlen];simp
 refine wp_region_any hm ?_
 obtain⟨M,e,r,ht,hn,hd⟩:=hh
 have key : ∀ (R:List (Nat×Nat)) (bB:List St) (tm:Tm) (s:St),jP P is (Q .normal) R bB tm s→jP P is (fun tm s=>∃ bK,tm.eqv bK∧Q .normal bK s) R bB tm s:=by
  intro R
  induction R with
  | nil=>intro bB tm s h;exact⟨tm,fun _=>rfl,h⟩
  | cons x R ih=>
   obtain⟨q,b⟩:=x
   intro bB tm s h
   unfold jP at h ⊢
   split at h
   ·exact h.elim
   ·split at h
    ·obtain⟨d,s',h1,h2⟩:=h;exact⟨d,s',h1,ih _ _ _ h2⟩
    ·obtain⟨d,h1,h2,h3⟩:=h;exact⟨d,h1,h2,ih _ _ _ h3⟩
 have hg:=key _ _ _ _ h
 refine Kv (K:=fun tm s=>∃ bK,tm.eqv bK∧Q .normal bK s) hi h1 h5 (fun tm bK s he ⟨t2,h3,h4⟩=>⟨t2,fun t=>(he t).symm.trans (h3 t),h4⟩)
  (fun tm s act w ⟨t2,h3,h4⟩ ⟨M,e,r,ht,hn,hd⟩=>⟨t2,s,h4,M,e,r,fun t=>by rw [← h3 t];exact ht t,hn,hd⟩) ops.size _ kR [] act _ (List.range is.length) (by simp [uC]) (fun j hj _=>by simpa using hj)
  ⟨h2,fun i hi=> ?_,fun i hi hl=> ?_,by simp [uC],h4⟩ ⟨M,s,tm,tm,[],⟨e.le,e.kept,e.pL,e.pM,e.rX,e.size,e.os,e.tape,e.output⟩,r.of_heap rfl,ht,fun _ _=>rfl,hn,hd,hg,by simp,by simp⟩
 ·have:i<ops.size:=by rw [← uC];exact hi
  have h6:=h3 i hi
  simp only [List.not_mem_nil,false_and,exists_false,or_false]
  rw [show(Array.replicate ops.size false).getD i false=false by simp [this]]
  simp [h6]
 ·have:i<ops.size:=by rw [← uC];exact hi
  rw [show(Array.replicate ops.size false).getD i false=false by simp [this]]at hl
  cases hl
end
end Go.Abs

/-! Step -/

namespace Go.Abs
theorem V1 (k:IntKind) (n:Int):D.row (.int k n)=some [.int k n]:=rfl
theorem Ra (b:Bool):D.row (.bool b)=some [.bool b]:=rfl
theorem V2 (l:List UInt8):D.row (.str l)=some [.str l]:=rfl
theorem Rb:D.row .eM=some [.eM]:=rfl
theorem V3 (o f:Nat):D.row (.ptr o f)=some [.ptr o f]:=rfl
theorem Rc (r:List D) (f:Nat):D.row (.dD r f)=some [.dD r f]:=rfl
theorem N3 (g:Tag) (z:Nat) (r:List (List D)):D.row (.slice g z r)=some [.slice g z r]:=rfl
theorem V4 (cs:List D):D.row (.agg cs)=some cs:=rfl
theorem V5 (v:Value):D.row (.val v)=some [.val v]:=rfl
theorem N4 (T:TypeId) (o:Nat):D.row (.fc T o)=some [.fc T o]:=rfl
theorem V6 (f:Nat) (cs:List D):D.row (.ga f cs)=some [.ga f cs]:=rfl
theorem Re (o:Nat):D.row (.fZ o)=some [.fZ o]:=rfl
theorem Rf (w:Bool):Tag.cut .full w=if w then .full else .shared:=rfl
theorem Kx (w:Bool):Tag.cut .shared w = .shared:=rfl
theorem Rg (t:Nat) (y:Bool) (w:Bool):Tag.cut (.tok t y) w = .tok t y:=rfl
section
variable {P:Program}
def KC (P:Program) (r:List AI) (K:Tm→St→Prop) (tm:Tm) (dst:Option Nat) (d:D) (s:St):Prop:=hS P r K (tm.put dst d) s
def GI (P:Program) (g:D) (want:Bool) (i:AI) (r:List AI) (K:Tm→St→Prop) (tm:Tm) (s:St):Prop:=
 match g with
 | .bool b=>(b=want→hS P (i::r) K tm s)∧(b=(!want)→hS P r K (tm.put i.dst (.tuple [])) s)
 | .tuple _=>hS P r K (tm.put i.dst (.tuple [])) s
 | _=>False
def NI (P:Program) (dst:Option Nat) (neg:Bool) (x:D) (r:List AI) (K:Tm→St→Prop) (tm:Tm) (s:St):Prop:=
 match x with
 | .slice _ _ rows=>∀ b:Bool,(rows≠ []→b=false)→hS P r K (tm.put dst (.bool (if neg then !b else b))) s
 | _=>False
def sJ (d:D) (A C:Prop):Prop:=
 match d with
 | .bool b=>(b=true→A)∧(b=false→C)
 | _=>False
theorem Sem.acf {B:eU} {nt:Nat} {Q:Exit→Tm→St→Prop} {tm:Tm} {s:St} {x:X} {a b:AC} (h:sJ (x.ev tm) (Sem P B nt a Q tm s) (Sem P B nt b Q tm s)):Sem P B nt (.cond x a b) Q tm s:=by
 unfold sJ at h
 split at h
 ·rename_i t ht
  exact Sem.cond ht h.1 h.2
 ·exact h.elim
def fR (P:Program) (K:Tm→St→Prop):List (AI×Nat)→List St→Tm→St→Prop
 | [],_,tm,s=>K tm s
 | (ai,b)::r,bB,tm,s=>
  match fP ai.kind with
  | true=>∃ d s',qZ P ai tm s d s'∧fR P K r (s::bB) (tm.put ai.dst d) s'
  | false=>∃ d,iN ai tm s=some d∧(ai.kind = .load→∀ s'∈bB.take b,iN ai tm s'=some d)∧fR P K r bB (tm.put ai.dst d) s
def lW (is:List AI):List (Nat×Nat)→Option (List (AI×Nat))
 | []=>some []
 | (q,b)::r=>match is[q]?,lW is r with
  | some ai,some l=>some ((ai,b)::l)
  | _,_=>none
theorem CO {is:List AI} {K:Tm→St→Prop} : ∀ {kR:List (Nat×Nat)} {items:List (AI×Nat)} {bB:List St} {tm:Tm} {s:St},lW is kR=some items→fR P K items bB tm s→jP P is K kR bB tm s
 | [],items,bB,tm,s,h,g=>by cases h;exact g
 | (q,b)::r,items,bB,tm,s,h,g=>by
  simp only [lW]at h
  split at h
  ·rename_i ai l h1 h2
   cases h
   simp only [fR]at g
   simp only [jP,h1]
   split at g
   ·rename_i hk
    obtain⟨d,s',g1,g2⟩:=g
    try simp only [hk]
    exact⟨d,s',g1,CO h2 g2⟩
   ·rename_i hk
    obtain⟨d,g1,g2,g3⟩:=g
    try simp only [hk]
    exact⟨d,g1,g2,CO h2 g3⟩
  ·cases h
theorem Sem.afD {B:eU} {nt:Nat} {Q:Exit→Tm→St→Prop} {tm:Tm} {s:St} {is:List AI} {kR:List (Nat×Nat)} {items:List (AI×Nat)} (hi:lW is kR=some items) (h:fR P (Q .normal) items [] tm s):Sem P B nt (.par is kR) Q tm s:=
 Sem.par (CO hi h)
def AI.free:AI→AI
 | .op d _ o=> .op d none o
 | .call d _ f xs=> .call d none f xs
 | .nil d _ n x=> .nil d none n x
 | .im d _ t xs=> .im d none t xs
def GL (P:Program) (g:D) (want:Bool) (i:AI) (b:Nat) (r:List (AI×Nat)) (K:Tm→St→Prop) (bB:List St) (tm:Tm) (s:St):Prop:=
 match g with
 | .bool v=>(v=want→fR P K ((i,b)::r) bB tm s)∧(v=(!want)→fR P K r (if fP i.kind then s::bB else bB) (tm.put i.dst (.tuple [])) s)
 | .tuple _=>fR P K r (if fP i.kind then s::bB else bB) (tm.put i.dst (.tuple [])) s
 | _=>False
def CL (P:Program) (f:Nat) (args:List D) (s:St) (K:D→St→Prop):Prop:=∃ d s',aD P f args s d s'∧K d s'
def KL (P:Program) (K:Tm→St→Prop) (r:List (AI×Nat)) (bB:List St) (tm:Tm) (dst:Option Nat) (d:D) (s:St):Prop:=fR P K r bB (tm.put dst d) s
def mS (i:AI) (tm:Tm) (d:D):List St→Prop
 | []=>True
 | s::r=>iN i tm s=some d∧mS i tm d r
theorem Bx {i:AI} {tm:Tm} {d:D} : ∀ {l:List St},mS i tm d l→∀ s∈l,iN i tm s=some d
 | [],_,s,h=>by cases h
 | a::l,h,s,hs=>by
  rcases List.mem_cons.1 hs with rfl | hs
  ·exact h.1
  ·exact Bx h.2 s hs
def PL (P:Program) (o:AO) (dst:Option Nat) (b:Nat) (r:List (AI×Nat)) (K:Tm→St→Prop) (bB:List St) (tm:Tm) (s:St):Prop:=
 match aW o tm s with
 | some (d,_)=>mS (.op dst none o) tm d (bB.take b)∧fR P K r bB (tm.put dst d) s
 | none=>False
def ML (P:Program) (o:AO) (dst:Option Nat) (r:List (AI×Nat)) (K:Tm→St→Prop) (bB:List St) (tm:Tm) (s:St):Prop:=
 match aW o tm s with
 | some (d,s')=>fR P K r (s::bB) (tm.put dst d) s'
 | none=>False
def AO.core:AO→Bool
 | .alloc _=>true
 | .box _=>true
 | .s5 .. =>true
 | .yd _=>true
 | .store .. =>true
 | .app .. =>true
 | .rm .. =>true
 | .ye .. =>true
 | .yf .. =>true
 | .apps .. =>true
 | .sD=>true
 | .wO .. =>true
 | _=>false
theorem rG (dst:Option Nat) (g:Option (Nat×Bool)) (o:AO):fP (AI.op dst g o).kind=o.core:=by
 cases dst <;> cases g <;> cases o <;> rfl
def OL (P:Program) (o:AO) (dst:Option Nat) (b:Nat) (r:List (AI×Nat)) (K:Tm→St→Prop) (bB:List St) (tm:Tm) (s:St):Prop:=
 match o.core with
 | true=>ML P o dst r K bB tm s
 | false=>PL P o dst b r K bB tm s
theorem F3 {K:Tm→St→Prop} {dst:Option Nat} {o:AO} {b:Nat} {r:List (AI×Nat)} {bB:List St} {tm:Tm} {s:St} (h:OL P o dst b r K bB tm s) :
 fR P K ((.op dst none o,b)::r) bB tm s:=by
 unfold OL at h
 simp only [fR,rG]
 cases hc:o.core with
 | true=>
  simp only [hc,ML]at h
  simp only []
  split at h
  ·rename_i d s' he
   exact⟨d,s',by simpa [qZ,guarded]using he,h⟩
  ·exact h.elim
 | false=>
  simp only [hc,PL]at h
  simp only []
  split at h
  ·rename_i d s' he
   exact⟨d,by simp [iN,he],fun _=>Bx h.1,h.2⟩
  ·exact h.elim
theorem Kz {K:Tm→St→Prop} {dst:Option Nat} {f:Nat} {xs:List X} {b:Nat} {r:List (AI×Nat)} {bB:List St} {tm:Tm} {s:St} (h:CL P f (xs.map (·.ev tm)) s (KL P K r (s::bB) tm dst)) :
 fR P K ((.call dst none f xs,b)::r) bB tm s:=by
 obtain⟨d,s',h1,h2⟩:=h
 exact⟨d,s',h1,h2⟩
theorem YI {K:Tm→St→Prop} {i:AI} {t:Nat} {w:Bool} {b:Nat} {r:List (AI×Nat)} {bB:List St} {tm:Tm} {s:St} {j:AI} (hf:(∃ d o,i = .op d none o∧j = .op d (some (t,w)) o)∨(∃ d f xs,i = .call d none f xs∧j = .call d (some (t,w)) f xs))
 (hg:tm.get t = .bool w) (h:fR P K ((i,b)::r) bB tm s):fR P K ((j,b)::r) bB tm s:=by
 rcases hf with ⟨d,o,rfl,rfl⟩ | ⟨d,f,xs,rfl,rfl⟩
 ·simp only [fR,rG]at h ⊢
  cases hc:o.core <;> simp only [hc]at h ⊢
  ·obtain⟨x,h1,h2,h3⟩:=h
   refine⟨x,by simpa [iN,hg]using h1,fun hk s' nM=> ?_,h3⟩
   have zX:(AI.op d none o).kind = .load:=by
    cases d <;> cases o <;> first | exact hk | (cases hc;done) | (cases hk;done)
   simpa [iN,hg]using h2 zX s' nM
  ·obtain⟨x,s',h1,h2⟩:=h
   exact⟨x,s',by simpa [qZ,guarded,hg]using h1,h2⟩
 ·obtain⟨x,s',h1,h2⟩:=h
  exact⟨x,s',by simpa [qZ,guarded,hg]using h1,h2⟩
theorem N5 {K:Tm→St→Prop} {i:AI} {t:Nat} {w:Bool} {b:Nat} {r:List (AI×Nat)} {bB:List St} {tm:Tm} {s:St} {j:AI} (hf:(∃ d o,i = .op d none o∧j = .op d (some (t,w)) o)∨(∃ d f xs,i = .call d none f xs∧j = .call d (some (t,w)) f xs))
 (hg:tm.get t = .bool (!w)∨∃ l,tm.get t = .tuple l) (h:fR P K r (if fP i.kind then s::bB else bB) (tm.put i.dst (.tuple [])) s):fR P K ((j,b)::r) bB tm s:=by
 rcases hf with ⟨d,o,rfl,rfl⟩ | ⟨d,f,xs,rfl,rfl⟩
 ·simp only [fR,rG]at h ⊢
  cases hc:o.core <;> simp only [hc]at h ⊢
  ·refine⟨.tuple [], ?_,fun hk s' nM=> ?_,h⟩
   ·rcases hg with hg | ⟨l,hg⟩ <;> simp [iN,hg]
   ·rcases hg with hg | ⟨l,hg⟩ <;> simp [iN,hg]
  ·refine⟨.tuple [],s, ?_,h⟩
   rcases hg with hg | ⟨l,hg⟩ <;> simp [qZ,guarded,hg]
 ·refine⟨.tuple [],s, ?_,h⟩
  rcases hg with hg | ⟨l,hg⟩ <;> simp [qZ,guarded,hg]
theorem I4 {K:Tm→St→Prop} {i j:AI} {t:Nat} {w:Bool} {b:Nat} {r:List (AI×Nat)} {bB:List St} {tm:Tm} {s:St} (hf:(∃ d o,i = .op d none o∧j = .op d (some (t,w)) o)∨(∃ d f xs,i = .call d none f xs∧j = .call d (some (t,w)) f xs))
 (h:GL P (tm.get t) w i b r K bB tm s):fR P K ((j,b)::r) bB tm s:=by
 unfold GL at h
 split at h
 ·rename_i v hv
  by_cases e:v=w
  ·exact YI hf (by rw [hv,e]) (h.1 e)
  ·exact N5 hf (.inl (by rw [hv];cases v <;> cases w <;> simp_all)) (h.2 (by cases v <;> cases w <;> simp_all))
 ·rename_i l hl
  exact N5 hf (.inr ⟨l,hl⟩) h
 ·exact h.elim
theorem DR {K:Tm→St→Prop} {dst:Option Nat} {o:AO} {t:Nat} {w:Bool} {b:Nat} {r:List (AI×Nat)} {bB:List St} {tm:Tm} {s:St} (h:GL P (tm.get t) w (.op dst none o) b r K bB tm s) :
 fR P K ((.op dst (some (t,w)) o,b)::r) bB tm s:=I4 (.inl ⟨dst,o,rfl,rfl⟩) h
theorem H2 {K:Tm→St→Prop} {dst:Option Nat} {f:Nat} {xs:List X} {t:Nat} {w:Bool} {b:Nat} {r:List (AI×Nat)} {bB:List St} {tm:Tm} {s:St} (h:GL P (tm.get t) w (.call dst none f xs) b r K bB tm s) :
 fR P K ((.call dst (some (t,w)) f xs,b)::r) bB tm s:=I4 (.inr ⟨dst,f,xs,rfl,rfl⟩) h
theorem CU {f:Nat} {args:List D} {s:St} {d:D} {s':St} {K:D→St→Prop} (h:aD P f args s d s') (hk:K d s'):CL P f args s K:=⟨d,s',h,hk⟩
end
end Go.Abs

/-! Wp -/

namespace Go.Abs
theorem nd {α:Type} {a b:α} (h:a=b):a=b:=h
def GJ (g:D) (w:Bool) (A C:Prop):Prop:=
 match g with
 | .bool b=>(b=w→A)∧(b=(!w)→C)
 | .tuple _=>C
 | _=>False
class Two where
 a:Prop
 c:Prop
def CB (d:D) [b:Two] : Prop:=sJ d b.a b.c
def GB (d:D) (w:Bool) [b:Two] : Prop:=GJ d w b.a b.c
def lX (g:Option (Nat×Bool)) (tm:Tm) (A C:Prop):Prop:=
 match g with
 | none=>A
 | some (t,w)=>GJ (tm.get t) w A C
def jj (P:Program):List AI→(Tm→St→Prop)→Tm→St→Prop
 | [],K,tm,s=>K tm s
 | .op dst g o::r,K,tm,s=>lX g tm (match aW o tm s with | some (d,s')=>jj P r K (tm.put dst d) s' | none=>False) (jj P r K (tm.put dst (.tuple [])) s)
 | .call dst g f xs::r,K,tm,s=>lX g tm (CL P f (xs.map (·.ev tm)) s fun d s'=>jj P r K (tm.put dst d) s') (jj P r K (tm.put dst (.tuple [])) s)
 | .nil dst g neg x::r,K,tm,s=>
  lX g tm (match x.ev tm with
   | .slice _ _ rows=>∀ b:Bool,(rows≠ []→b=false)→jj P r K (tm.put dst (.bool (if neg then !b else b))) s
   | _=>False) (jj P r K (tm.put dst (.tuple [])) s)
 | .im dst g t xs::r,K,tm,s=>
  lX g tm (match tm.get t with
   | .ga f my=>enters P f=true∧CL P f (xs.map (·.ev tm)++my) s fun d s'=>jj P r K (tm.put dst d) s'
   | _=>False) (jj P r K (tm.put dst (.tuple [])) s)
theorem q8 {g:Option (Nat×Bool)} {tm:Tm} {A C A' C':Prop} (h:lX g tm A C) (ha:A→A') (hc:C→C'):guarded g tm A' C':=by
 unfold lX at h
 unfold guarded
 cases g with
 | none=>exact ha h
 | some p=>
  obtain⟨t,w⟩:=p
  simp only [GJ]at h ⊢
  split at h
  ·rename_i hb;try simp only [hb]
   exact⟨fun e=>ha (h.1 e),fun e=>hc (h.2 e)⟩
  ·rename_i hb;try simp only [hb]
   exact hc h
  ·exact h.elim
theorem mY {P:Program} {K:Tm→St→Prop} : ∀ {is:List AI} {tm:Tm} {s:St},jj P is K tm s→hS P is K tm s
 | [],tm,s,h=>h
 | .op dst g o::r,tm,s,h=>by
  refine q8 h (fun h=> ?_) mY
  split at h
  ·rename_i he;try simp only [he]
   exact mY h
  ·exact h.elim
 | .call dst g f xs::r,tm,s,h=>q8 h (fun⟨d,s',h1,h2⟩=>h1.use (mY h2)) mY
 | .nil dst g neg x::r,tm,s,h=>by
  refine q8 h (fun h=> ?_) mY
  split at h
  ·rename_i he;try simp only [he]
   exact fun b hb=>mY (h b hb)
  ·exact h.elim
 | .im dst g t xs::r,tm,s,h=>by
  refine q8 h (fun h=> ?_) mY
  split at h
  ·rename_i he;try simp only [he]
   obtain⟨h0,d,s',h1,h2⟩:=h
   exact⟨h0,h1.use (mY h2)⟩
  ·exact h.elim
def fv (P:Program) (K:Tm→St→Prop):List (AI×Nat)→List St→Tm→St→Prop
 | [],_,tm,s=>K tm s
 | (.op dst g o,b)::r,bB,tm,s=>
  match o.core with
  | true=>lX g tm (match aW o tm s with | some (d,s')=>fv P K r (s::bB) (tm.put dst d) s' | none=>False) (fv P K r (s::bB) (tm.put dst (.tuple [])) s)
  | false=>lX g tm (match aW o tm s with | some (d,_)=>mS (.op dst none o) tm d (bB.take b)∧fv P K r bB (tm.put dst d) s | none=>False) (fv P K r bB (tm.put dst (.tuple [])) s)
 | (.call dst g f xs,_)::r,bB,tm,s=>lX g tm (CL P f (xs.map (·.ev tm)) s fun d s'=>fv P K r (s::bB) (tm.put dst d) s') (fv P K r (s::bB) (tm.put dst (.tuple [])) s)
 | (.nil ..,_)::_,_,_,_=>False
 | (.im ..,_)::_,_,_,_=>False
theorem yH {P:Program} {t:Nat} {w:Bool} {tm:Tm} {i:AI} {b:Nat} {r:List (AI×Nat)} {K:Tm→St→Prop} {bB:List St} {s:St} {A C:Prop} (h:lX (some (t,w)) tm A C) (ha:A→fR P K ((i,b)::r) bB tm s)
 (hc:C→fR P K r (if fP i.kind then s::bB else bB) (tm.put i.dst (.tuple [])) s):GL P (tm.get t) w i b r K bB tm s:=by
 simp only [lX,GJ]at h
 unfold GL
 split at h
 ·rename_i hb;try simp only [hb]
  exact⟨fun e=>ha (h.1 e),fun e=>hc (h.2 e)⟩
 ·rename_i hb;try simp only [hb]
  exact hc h
 ·exact h.elim
theorem lu {P:Program} {K:Tm→St→Prop} : ∀ {l:List (AI×Nat)} {bB:List St} {tm:Tm} {s:St},fv P K l bB tm s→fR P K l bB tm s
 | [],bB,tm,s,h=>h
 | (.op dst g o,b)::r,bB,tm,s,h=>by
  simp only [fv]at h
  cases hc:o.core with
  | true=>
   simp only [hc]at h
   have ha:(match aW o tm s with | some (d,s')=>fv P K r (s::bB) (tm.put dst d) s' | none=>False)→fR P K ((.op dst none o,b)::r) bB tm s:=by
    intro h
    refine F3 ?_
    simp only [OL,hc,ML]
    split at h
    ·rename_i he;try simp only [he]
     exact lu h
    ·exact h.elim
   cases g with
   | none=>exact ha h
   | some p=>
    obtain⟨t,w⟩:=p
    refine DR (yH h ha fun h=> ?_)
    simp only [rG,hc,if_true]
    exact lu h
  | false=>
   simp only [hc]at h
   have ha:(match aW o tm s with | some (d,_)=>mS (.op dst none o) tm d (bB.take b)∧fv P K r bB (tm.put dst d) s | none=>False)→fR P K ((.op dst none o,b)::r) bB tm s:=by
    intro h
    refine F3 ?_
    simp only [OL,hc,PL]
    split at h
    ·rename_i he;try simp only [he]
     exact⟨h.1,lu h.2⟩
    ·exact h.elim
   cases g with
   | none=>exact ha h
   | some p=>
    obtain⟨t,w⟩:=p
    refine DR (yH h ha fun h=> ?_)
    simp only [rG,hc]
    exact lu h
 | (.call dst g f xs,b)::r,bB,tm,s,h=>by
  simp only [fv]at h
  have ha:(CL P f (xs.map (·.ev tm)) s fun d s'=>fv P K r (s::bB) (tm.put dst d) s')→fR P K ((.call dst none f xs,b)::r) bB tm s:=
   fun⟨d,s',h1,h2⟩=>Kz ⟨d,s',h1,lu h2⟩
  cases g with
  | none=>exact ha h
  | some p=>
   obtain⟨t,w⟩:=p
   exact H2 (yH h ha fun h=>lu h)
 | (.nil ..,_)::_,bB,tm,s,h=>h.elim
 | (.im ..,_)::_,bB,tm,s,h=>h.elim
section
variable {P:Program} {B:eU} {nt:Nat}
def gp (P:Program) (B:eU) (nt:Nat):AC→(Exit→Tm→St→Prop)→Tm→St→Prop
 | .skip,Q,tm,s=>Q .normal tm s
 | .run is,Q,tm,s=>jj P is (Q .normal) tm s
 | .par is kR,Q,tm,s=>match lW is kR with | some l=>fv P (Q .normal) l [] tm s | none=>False
 | .seq a b,Q,tm,s=>gp P B nt a (lP (gp P B nt b Q) Q) tm s
 | .cond x a b,Q,tm,s=>sJ (x.ev tm) (gp P B nt a Q tm s) (gp P B nt b Q tm s)
 | .block id a,Q,tm,s=>gp P B nt a (jz id Q) tm s
 | .loop a,Q,tm,s=>bw P B nt a Q tm s
 | .exit id,Q,tm,s=>Q (.exit id) tm s
 | .scope a,Q,tm,s=>nf P B nt a a Q tm s
 | .label _,Q,tm,s=>Q .normal tm s
 | .goto l,Q,tm,s=>Q (.goto l) tm s
 | .ret,Q,tm,s=>Q .ret tm s
theorem gL : ∀ {ac:AC} {Q:Exit→Tm→St→Prop} {tm:Tm} {s:St},gp P B nt ac Q tm s→Sem P B nt ac Q tm s:=by
 intro ac
 induction ac with
 | skip=>exact fun h=>Sem.skip h
 | run is=>exact fun h=>Sem.run (mY h)
 | par is kR=>
  intro Q tm s h
  simp only [gp]at h
  split at h
  ·exact Sem.afD ‹_› (lu h)
  ·exact h.elim
 | seq a b NK NL=>
  intro Q tm s h
  refine Sem.seq ((NK h).mono fun e tm s hq=> ?_)
  cases e with
  | normal=>exact NL hq
  | _=>exact hq
 | cond x a b NK NL=>
  intro Q tm s h
  refine Sem.acf ?_
  simp only [gp]at h
  unfold sJ at h ⊢
  split at h
  ·exact⟨fun e=>NK (h.1 e),fun e=>NL (h.2 e)⟩
  ·exact h.elim
 | block id a ih=>exact fun h=>Sem.block (ih h)
 | loop a ih=>exact fun h=>Sem.loop h
 | exit id=>exact fun h=>Sem.exit h
 | scope a ih=>exact fun h=>Sem.scope h
 | label l=>exact fun h=>Sem.label h
 | goto l=>exact fun h=>Sem.goto h
 | ret=>exact fun h=>Sem.ret h
section
variable (Q:Exit→Tm→St→Prop) (N:Tm→St→Prop) (tm:Tm) (s:St) (a b:AC) (is:List AI) (x:X)
theorem Rh:gp P B nt .skip Q tm s=Q .normal tm s:=nd rfl
theorem V8:gp P B nt (.run is) Q tm s=jj P is (Q .normal) tm s:=nd rfl
theorem V9 (kR:List (Nat×Nat)):gp P B nt (.par is kR) Q tm s=match lW is kR with | some l=>fv P (Q .normal) l [] tm s | none=>False:=nd rfl
theorem Wa:gp P B nt (.seq a b) Q tm s=gp P B nt a (lP (gp P B nt b Q) Q) tm s:=nd rfl
theorem Ri:gp P B nt (.cond x a b) Q tm s = @CB (x.ev tm) ⟨gp P B nt a Q tm s,gp P B nt b Q tm s⟩:=nd rfl
theorem N6 (id:Nat):gp P B nt (.block id a) Q tm s=gp P B nt a (jz id Q) tm s:=nd rfl
theorem Rj:gp P B nt (.loop a) Q tm s=bw P B nt a Q tm s:=nd rfl
theorem N7:gp P B nt (.scope a) Q tm s=nf P B nt a a Q tm s:=nd rfl
theorem Rk (id:Nat):gp P B nt (.exit id) Q tm s=Q (.exit id) tm s:=nd rfl
theorem N8 (id:Nat):gp P B nt (.label id) Q tm s=Q .normal tm s:=nd rfl
theorem Rl (id:Nat):gp P B nt (.goto id) Q tm s=Q (.goto id) tm s:=nd rfl
theorem Wb:gp P B nt .ret Q tm s=Q .ret tm s:=nd rfl
theorem Wc:lP N Q .normal tm s=N tm s:=nd rfl
theorem Wd:lP N Q .ret tm s=Q .ret tm s:=nd rfl
theorem Wf (id:Nat):lP N Q (.exit id) tm s=Q (.exit id) tm s:=nd rfl
theorem Wg (id:Nat):lP N Q (.goto id) tm s=Q (.goto id) tm s:=nd rfl
theorem Rm (id:Nat):jz id Q .normal tm s=Q .normal tm s:=nd rfl
theorem Rn (id:Nat):jz id Q .ret tm s=Q .ret tm s:=nd rfl
theorem Ro (id l:Nat):jz id Q (.goto l) tm s=Q (.goto l) tm s:=nd rfl
theorem Rp (id i:Nat):jz id Q (.exit i) tm s=if i=id then Q .normal tm s else Q (.exit i) tm s:=nd rfl
end
theorem bw.wY {a:AC} {Q:Exit→Tm→St→Prop} {tm:Tm} {s:St} (h:gp P B nt a (lP (bw P B nt a Q) Q) tm s):bw P B nt a Q tm s:=bw.once (gL h)
theorem nf.wY {a r:AC} {Q:Exit→Tm→St→Prop} {tm:Tm} {s:St} (h:gp P B nt r (jc P B nt a Q) tm s):nf P B nt a r Q tm s:=nf.once (gL h)
def su (tm:Tm) (n m:Nat):Tm→Prop
 | []=>True
 | (k,d)::r=>Wk ((tm.get k).fg n m) d∧su tm n m r
theorem su.get {tm:Tm} {n m:Nat} : ∀ {bK:Tm},su tm n m bK→∀ t,Wk ((tm.get t).fg n m) (bK.get t)
 | [],_,t=>Wk.junk _
 | (k,d)::r,h,t=>by
  simp only [Tm.get]
  split
  ·rename_i hk;subst hk;exact h.1
  ·exact su.get h.2 t
theorem Holds.re {Q:Exit→Tm→St→Prop} {tm bK:Tm} {s:St} {jQ:List (List D)} {act:Act} {w:World} (n m:Nat) (hn:B.s.az.length≤n) (hm:B.s.aC.length≤m) (ht:su tm n m bK) (ho:gS (s.cut n m).az jQ)
 (h:Holds B nt tm s act w):Holds B nt bK ⟨jQ,(s.cut n m).aC⟩ act w:=by
 obtain⟨M,e,r,hr,h1,h2⟩:=h
 obtain⟨r',le⟩:=(r.cut n m).yC ho
 have e':=e.cut hn hm
 refine⟨M,e'.trans ⟨le,fun _ _ _ _=>rfl,fun o h1 h2=> ?_,fun t b c z hl e=> .inl ⟨hl,c,z,e⟩,fun _ _ h=>(h rfl).elim,Nat.le_refl _,rfl,rfl,rfl⟩,r',fun k=>((ht.get k) _ _ _ ((hr k).fg n m)).mono le,h1,h2⟩
 rw [← ho.len]at h2
 exact absurd h2 (Nat.not_lt.2 h1)
theorem bw.re {a:AC} {Q:Exit→Tm→St→Prop} {tm:Tm} {s:St} (bK:Tm) (jQ:List (List D)) (n m:Nat) (hn:B.s.az.length≤n) (hm:B.s.aC.length≤m) (ht:su tm n m bK) (ho:gS (s.cut n m).az jQ)
 (h:bw P B nt a Q bK ⟨jQ,(s.cut n m).aC⟩):bw P B nt a Q tm s:=
 fun c hc act w hh=>h c hc act w (hh.re (Q:=Q) n m hn hm ht ho)
theorem nf.re {a r:AC} {Q:Exit→Tm→St→Prop} {tm:Tm} {s:St} (bK:Tm) (jQ:List (List D)) (n m:Nat) (hn:B.s.az.length≤n) (hm:B.s.aC.length≤m) (ht:su tm n m bK) (ho:gS (s.cut n m).az jQ)
 (h:nf P B nt a r Q bK ⟨jQ,(s.cut n m).aC⟩):nf P B nt a r Q tm s:=
 fun c rest hc hr act w hh=>h c rest hc hr act w (hh.re (Q:=Q) n m hn hm ht ho)
theorem bw.ind {ι:Type} {a:AC} {Q:Exit→Tm→St→Prop} (I:ι→Prop) (μ:ι→Nat) (TM:ι→Tm) (ST:ι→St)
 (step : ∀ i,I i→(∀ j,I j→μ j<μ i→bw P B nt a Q (TM j) (ST j))→gp P B nt a (lP (bw P B nt a Q) Q) (TM i) (ST i)) : ∀ i,I i→bw P B nt a Q (TM i) (ST i):=by
 have key : ∀ n i,μ i<n→I i→bw P B nt a Q (TM i) (ST i):=by
  intro n
  induction n with
  | zero=>intro i h;exact absurd h (Nat.not_lt_zero _)
  | succ n ih=>exact fun i h hi=>bw.wY (step i hi fun j hj hC=>ih j (by omega) hj)
 exact fun i hi=>key (μ i+1) i (Nat.lt_succ_self _) hi
theorem drop_cons {α:Type} {l rest:List α} {k:Nat} {x:α} (h:l.drop k=x::rest):l[k]? = some x∧l.drop (k+1)=rest∧decide ((k:Int)<(l.length:Int))=true∧k<l.length:=by
 have h1:l[k]? = some x:=by
  have:(l.drop k)[0]? = some x:=by rw [h];rfl
  simpa using this
 have h2:=(List.getElem?_eq_some_iff.1 h1).1
 refine⟨h1, ?_,by simpa using h2,h2⟩
 have:l.drop (k+1)=(l.drop k).drop 1:=by rw [List.drop_drop]
 rw [this,h];rfl
theorem drop_nil {α:Type} {l:List α} {k:Nat} (h:l.drop k = []):decide ((k:Int)<(l.length:Int))=false:=by
 have:=List.drop_eq_nil_iff.1 h
 simp;omega
theorem bw.pf {a:AC} {Q:Exit→Tm→St→Prop} {tm:Tm} {s:St} (t z':Nat) {z:Nat} (hw:tm.get t = .slice .full z [])
 (h:bw P B nt a Q (tm.set t (.slice (.tok s.aC.length) z' [])) {s with aC:=s.aC++ [some 0]}):bw P B nt a Q tm s:=by
 intro c hc act w ⟨M,e,r,ht,h1,h2⟩
 obtain⟨r',le⟩:=r.blank
 refine h c hc act w ⟨_,yD e le,r',fun k=> ?_,h1,h2⟩
 rw [Tm.zk]
 split
 ·rename_i hk;subst hk;have:=ht k;rw [hw]at this;exact this.own
 ·exact(ht k).mono le
theorem bw.tj {a:AC} {Q:Exit→Tm→St→Prop} {tm:Tm} {s:St} (o i z':Nat) {z:Nat} {cs:List D} (hc:s.az[o]? = some cs) (hi:cs[i]? = some (.slice .full z []))
 (h:bw P B nt a Q tm ⟨s.az.set o (cs.set i (.slice (.tok s.aC.length) z' [])),s.aC++ [some 0]⟩):bw P B nt a Q tm s:=by
 intro c Br act w hh
 obtain⟨M,e,r,ht,h1,h2⟩:=hh
 obtain⟨r',le⟩:=r.blank
 have le':Le M s (M.ej s.aC.length none) ⟨s.az.set o (cs.set i (.slice (.tok s.aC.length) z' [])),s.aC++ [some 0]⟩:=⟨le.G,by simp,le.loc,le.t,le.tk⟩
 have YK:Le (M.ej s.aC.length none) {s with aC:=s.aC++ [some 0]} (M.ej s.aC.length none) ⟨s.az.set o (cs.set i (.slice (.tok s.aC.length) z' [])),s.aC++ [some 0]⟩:=
  ⟨fun _ _ _ h=>h,by simp,fun _ _=>rfl,Nat.le_refl _,fun t n' _ e=>⟨n',e,Nat.le_refl _,fun _=>rfl⟩⟩
 have r2:Rel (M.ej s.aC.length none) ⟨s.az.set o (cs.set i (.slice (.tok s.aC.length) z' [])),s.aC++ [some 0]⟩ w:=by
  refine⟨r'.comm,fun o' ds e=> ?_,fun o ho=>r'.ko o (by simpa using ho),fun o o' ho lH=>r'.inj o o' (by simpa using ho) (by simpa using lH),r'.tok,
   fun t b c z o hv e ho=>r'.eX t b c z o hv e (by simpa using ho),r'.fz⟩
  simp only [List.getElem?_set]at e
  split at e
  ·rename_i ho
   subst ho
   split at e
   ·cases e
    obtain⟨vs,T,g1,g2,g3,g4⟩:=r.obj o cs hc
    refine⟨vs,T,g1,by simpa using g2,g3,fun j d v e1 e2=> ?_⟩
    rw [List.getElem?_set]at e1
    split at e1
    ·rename_i hj
     subst hj
     split at e1
     ·cases e1
      exact((g4 i _ v hi e2).own (z':=z')).mono YK
     ·cases e1
    ·exact(g4 j d v e1 e2).mono le'
   ·cases e
  ·obtain⟨vs,T,g1,g2,g3,g4⟩:=r'.obj o' ds e
   exact⟨vs,T,g1,g2,g3,fun i d v e1 e2=>(g4 i d v e1 e2).mono YK⟩
 have ee:Ext B.M B.s B.w (M.ej s.aC.length none) ⟨s.az.set o (cs.set i (.slice (.tok s.aC.length) z' [])),s.aC++ [some 0]⟩ w:=by
  refine(yD e le).trans ⟨YK,fun _ _ _ _=>rfl,fun o h1 h2=> ?_,fun t b c z hl e=> .inl ⟨hl,c,z,e⟩,fun _ _ h=>(h rfl).elim,Nat.le_refl _,rfl,rfl,rfl⟩
  simp at h2
  exact absurd h2 (Nat.not_lt.2 h1)
 exact h c Br act w ⟨_,ee,r2,fun k=>(ht k).mono le',h1,h2⟩
theorem bY {ac r:AC} {l:Nat} {Q:Exit→Tm→St→Prop} {tm:Tm} {s:St} (hf:qY ac l=some r) (h:gp P B nt r (jc P B nt ac Q) tm s):jc P B nt ac Q (.goto l) tm s:=⟨r,hf,nf.wY h⟩
theorem Rq {ac r:AC} {l:Nat} {Q:Exit→Tm→St→Prop} {tm:Tm} {s:St} (hf:qY ac l=some r) (h:nf P B nt ac r Q tm s):jc P B nt ac Q (.goto l) tm s:=⟨r,hf,h⟩
theorem Sem.jR {a b:AC} {Q:Exit→Tm→St→Prop} {tm:Tm} {s:St} (h:gp P B nt a (lP (Sem P B nt b Q) Q) tm s):Sem P B nt (.seq a b) Q tm s:=Sem.seq (gL h)
theorem Sem.re {a:AC} {Q:Exit→Tm→St→Prop} {tm:Tm} {s:St} (bK:Tm) (jQ:List (List D)) (n m:Nat) (hn:B.s.az.length≤n) (hm:B.s.aC.length≤m) (ht:su tm n m bK) (ho:gS (s.cut n m).az jQ)
 (h:Sem P B nt a Q bK ⟨jQ,(s.cut n m).aC⟩):Sem P B nt a Q tm s:=
 fun c hc act w hh=>h c hc act w (hh.re (Q:=Q) n m hn hm ht ho)
def Has (P:Program) (f nt:Nat) (res:List (Nat×Option (Bool×Nat))) (body:AC):Prop:=∃ fn,P.funcs[f]? = some fn∧cF P fn=some ⟨nt,res,body⟩
theorem aD.go {f:FuncId} {res:List (Nat×Option (Bool×Nat))} {body:AC} {args:List D} {s:St} {d:D} {s':St} (h0:Has P f nt res body) (hl:Nat.ble args.length nt=true)
 (h : ∀ (B:eU) (Q:Exit→Tm→St→Prop),B.s=s→hZ s.az.length s.aC.length res d s'=Q→gp P B nt body Q (nu 0 args) s):aD P f args s d s':=by
 obtain⟨fn,hf,hc⟩:=h0
 exact aD.intro ⟨fn,hf,hc⟩ (Nat.le_of_ble_eq_true hl) fun B hB=>gL (h B _ hB rfl)
theorem aD.aci {f:FuncId} {args row kS:List D} {rows kF:List (List D)} {z z' k k':Nat} (h:aD P f (.ptr 0 0:: .slice (.tok 0) z rows::args) ⟨[row],[some k]⟩ (.slice (.tok 0) z' kF) ⟨[kS],[some k']⟩)
 (ha:D.bT 0 0 args=true) (hr:D.bT 0 0 row=true) (ur:D.bT 0 0 kS=true) (hw:D.ja 0 0 rows=true) (N9:D.ja 0 0 kF=true)
 {s:St} {o t:Nat} (ho:s.az[o]? = some row) (ht:s.aC[t]? = some (some k)):aD P f (.ptr o 0:: .slice (.tok t) z rows::args) s (.slice (.tok t) z' kF) ⟨s.az.set o kS,s.aC.set t (some k')⟩:=by
 refine dT.frame [o] [t] h (by simp) (by simp) (by simpa using (List.getElem?_eq_some_iff.1 ho).1) (by simpa using (List.getElem?_eq_some_iff.1 ht).1) rfl (fun i o' ds e1 e2=> ?_) rfl (fun i t' e1=> ?_)
  (by simp [D.fK,D.dF,Tag.dF,eR _ _ _ ha,iF _ _ _ hw])
  (by simp [D.bT,D.ok,Tag.ok,gG (Nat.zero_le 1) (Nat.zero_le 1) _ ha,mB (Nat.zero_le 1) (Nat.zero_le 1) _ hw]) ?_
 ·cases i with
  | zero=>simp at e1 e2;subst e1;subst e2;exact⟨by rw [eR _ _ _ hr];exact ho,gG (Nat.zero_le 1) (Nat.zero_le 1) _ hr⟩
  | succ i=>simp at e1
 ·cases i with
  | zero=>simp at e1;subst e1;simp [ht]
  | succ i=>simp at e1
 ·rintro _ _ ⟨rfl,rfl⟩
  refine⟨by simp [D.back,D.dF,Tag.dF,jw,iF _ _ _ N9], ?_⟩
  simp [St.back,jA,eR _ _ _ ur]
theorem aD.afG {f:FuncId} {pre post:List D} {rows kF:List (List D)} {z z' k k':Nat} (h:aD P f (pre++ .slice (.tok 0) z rows::post) ⟨[],[some k]⟩ (.slice (.tok 0) z' kF) ⟨[],[some k']⟩)
 (hp:D.bT 0 0 pre=true) (ha:D.bT 0 0 post=true) (hw:D.ja 0 0 rows=true) (N9:D.ja 0 0 kF=true)
 {s:St} {t:Nat} (ht:s.aC[t]? = some (some k)):aD P f (pre++ .slice (.tok t) z rows::post) s (.slice (.tok t) z' kF) ⟨s.az,s.aC.set t (some k')⟩:=by
 refine dT.frame [] [t] h (by simp) (by simp) (by simp) (by simpa using (List.getElem?_eq_some_iff.1 ht).1) rfl (fun i o' ds e1 e2=>by simp at e1) rfl (fun i t' e1=> ?_)
  ?_ ?_ ?_
 ·cases i with
  | zero=>simp at e1;subst e1;simp [ht]
  | succ i=>simp at e1
 ·have h1:=eR [] [t] _ hp
  have h2:=eR [] [t] _ ha
  rw [fe]at h1 h2
  simp [fe,D.dF,Tag.dF,h1,h2,iF _ _ _ hw]
 ·have h1:=gG (n':=0) (m':=1) (Nat.le_refl 0) (Nat.zero_le 1) _ hp
  have h2:=gG (n':=0) (m':=1) (Nat.le_refl 0) (Nat.zero_le 1) _ ha
  rw [yz]at h1 h2 ⊢
  simp only [List.length_nil,List.length_cons,List.all_append,h1,Bool.true_and,List.all_cons,h2,Bool.and_true,D.ok,Tag.ok,mB (Nat.zero_le 0) (Nat.zero_le 1) _ hw]
  rfl
 ·rintro _ _ ⟨rfl,rfl⟩
  refine⟨by simp [D.back,D.dF,Tag.dF,jw,iF _ _ _ N9], ?_⟩
  simp [St.back,jA]
theorem afH (A C:Prop) : @CB (.bool true) ⟨A,C⟩=A:=by simp [CB,sJ]
theorem afI (A C:Prop) : @CB (.bool false) ⟨A,C⟩=C:=by simp [CB,sJ]
theorem YL (b:Bool) (A C:Prop) : @CB (.bool (!b)) ⟨A,C⟩ = @CB (.bool b) ⟨C,A⟩:=by
 cases b <;> simp [CB,sJ]
theorem F4 {b:Bool} {A C:Prop} (h1:b=true→A) (h2:b=false→C) : @CB (.bool b) ⟨A,C⟩:=⟨h1,h2⟩
theorem YM {b:Bool} {A C:Prop} (h:b=true) (h1:b=true→A) : @CB (.bool b) ⟨A,C⟩:=F4 h1 (fun h'=>by rw [h]at h';cases h')
theorem YN {b:Bool} {A C:Prop} (h:b=false) (h1:b=false→C) : @CB (.bool b) ⟨A,C⟩:=F4 (fun h'=>by rw [h]at h';cases h') h1
theorem acj {n m:Nat} {res:List (Nat×Option (Bool×Nat))} {d:D} {s':St} {tm:Tm} {s:St} {Q:Exit→Tm→St→Prop} (hQ:hZ n m res d s'=Q)
 (h : ∃ l,aA res tm s=some l∧Wk ((aB l).fg n m) d∧gS (s.cut n m).az s'.az∧(s.cut n m).aC=s'.aC):Q .ret tm s:=hQ ▸ h
theorem ack {n m:Nat} {res:List (Nat×Option (Bool×Nat))} {d:D} {s':St} {tm:Tm} {s:St} {Q:Exit→Tm→St→Prop} (hQ:hZ n m res d s'=Q)
 (h : ∃ l,aA res tm s=some l∧Wk ((aB l).fg n m) d∧gS (s.cut n m).az s'.az∧(s.cut n m).aC=s'.aC):Q .normal tm s:=hQ ▸ h
end
attribute [go_sem] Rh V8 V9 Wa Ri N6 Rj N7 Rk N8 Rl Wb Wc Wd Wf Wg Rm Rn Ro Rp
theorem Oa : ∀ (tm:Tm) (s:St) (x:X),aW (AO.mv x) tm s=some (X.ev tm x,s):=
 fun tm s x=>nd (aW.eq_1 tm s x)
theorem Oc : ∀ (tm:Tm) (s:St) (c a b:X),
 aW (AO.pick c a b) tm s =
  match X.ev tm c with
  | D.bool t=>some (if t=true then X.ev tm a else X.ev tm b,s)
  | x=>none:=
 fun tm s c a b=>nd (aW.eq_2 tm s c a b)
theorem Od : ∀ (tm:Tm) (s:St) (zero:List D),
 aW (AO.alloc zero) tm s=some (D.ptr s.az.length 0,{az:=s.az++ [zero],aC:=s.aC}):=
 fun tm s zero=>nd (aW.eq_3 tm s zero)
theorem Oe : ∀ (tm:Tm) (s:St) (x:X),
 aW (AO.box x) tm s =
  match (X.ev tm x).row with
  | some r=>some (D.ptr s.az.length 0,{az:=s.az++ [r],aC:=s.aC})
  | none=>none:=
 fun tm s x=>nd (aW.eq_4 tm s x)
theorem Og : ∀ (tm:Tm) (s:St) (zero:List D) (parts:List (Nat×Nat×X)),
 aW (AO.build zero parts) tm s =
  match pN zero (List.map (fun(p:Nat×Nat×X)=>(p.fst,p.snd.fst,X.ev tm p.snd.snd)) parts)with
  | some cs=>some (D.agg cs,s)
  | none=>none:=
 fun tm s zero parts=>nd (aW.eq_5 tm s zero parts)
theorem Oh : ∀ (tm:Tm) (s:St) (zero:List D) (size n:Nat) (parts:List (Nat×X)),
 aW (AO.cT zero size n parts) tm s =
  match iR size (hY zero n) (List.map (fun(p:Nat×X)=>(p.fst,X.ev tm p.snd)) parts)with
  | some rows=>some (D.slice Tag.full size rows,s)
  | none=>none:=
 fun tm s zero size n parts=>nd (aW.eq_6 tm s zero size n parts)
theorem Oi : ∀ (tm:Tm) (s:St) (zero:List D) (size n:Nat) (parts:List (Nat×X)),
 aW (AO.s5 zero size n parts) tm s =
  match iR size (hY zero n) (List.map (fun(p:Nat×X)=>(p.fst,X.ev tm p.snd)) parts)with
  | some rows=>
   some (D.slice (Tag.tok s.aC.length) size rows,{az:=s.az,aC:=s.aC++ [some rows.length]})
  | none=>none:=
 fun tm s zero size n parts=>nd (aW.eq_7 tm s zero size n parts)
theorem Oj : ∀ (tm:Tm) (s:St) (x:X),
 aW (AO.yd x) tm s =
  match X.ev tm x with
  | D.slice (Tag.tok t _) z rows=>
   if rows≠ []∧s.aC[t]? = some (some rows.length)then
    some (D.slice Tag.shared z rows,{az:=s.az,aC:=s.aC.set t none})
   else none
  | x=>none:=
 fun tm s x=>nd (aW.eq_8 tm s x)
theorem Ol : ∀ (tm:Tm) (s:St) (x:X) (agg:Bool) (size:Nat),
 aW (AO.load x agg size) tm s =
  match X.ev tm x with
  | D.ptr o off=>
   match s.az[o]? with
   | some cs=>
    match part cs off agg size with
    | some d=>some (d,s)
    | none=>none
   | none=>none
  | D.dD row off=>
   match part row off agg size with
   | some d=>some (d,s)
   | none=>none
  | x=>none:=
 fun tm s x agg size=>nd (aW.eq_9 tm s x agg size)
theorem KA : ∀ (tm:Tm) (s:St) (p x:X) (size:Nat),
 aW (AO.store p x size) tm s =
  match X.ev tm p,(X.ev tm x).row with
  | D.ptr o off,some r=>
   match s.az[o]? with
   | some cs=>
    if r.length=size∧off+size≤cs.length then
     some (D.tuple [],{az:=s.az.set o (iM cs off r),aC:=s.aC})
    else none
   | none=>none
  | x,eO=>none:=
 fun tm s p x size=>nd (aW.eq_10 tm s p x size)
theorem KB : ∀ (tm:Tm) (s:St) (x:X),
 aW (AO.db x) tm s =
  match X.ev tm x with
  | D.ptr o off=>some (D.ptr o off,s)
  | D.dD row off=>some (D.dD row off,s)
  | x=>none:=
 fun tm s x=>nd (aW.eq_11 tm s x)
theorem KD : ∀ (tm:Tm) (s:St) (op:BinOp) (x y:X),
 aW (AO.bin op x y) tm s =
  match vb op (X.ev tm x) (X.ev tm y)with
  | some d=>some (d,s)
  | none=>none:=
 fun tm s op x y=>nd (aW.eq_12 tm s op x y)
theorem KE : ∀ (tm:Tm) (s:St) (neg:Bool) (x y:X),
 aW (AO.xH neg x y) tm s =
  match X.ev tm x,X.ev tm y with
  | D.bool a,D.bool b=>some (D.bool (if neg=true then !a==b else a==b),s)
  | x,eO=>none:=
 fun tm s neg x y=>nd (aW.eq_13 tm s neg x y)
theorem KF : ∀ (tm:Tm) (s:St) (neg:Bool) (ks:List Nat) (x y:X),
 aW (AO.eqs neg ks x y) tm s =
  match X.ev tm x,X.ev tm y with
  | D.agg a,D.agg b=>
   match kf ks a b with
   | some e=>some (D.bool (if neg=true then !e else e),s)
   | none=>none
  | x,eO=>none:=
 fun tm s neg ks x y=>nd (aW.eq_14 tm s neg ks x y)
theorem KH : ∀ (tm:Tm) (s:St) (neg:Bool) (x y:X),
 aW (AO.DA neg x y) tm s =
  match X.ev tm x,X.ev tm y with
  | D.eM,D.eM=>some (D.bool !neg,s)
  | D.ptr o off,D.eM=>some (D.bool neg,s)
  | D.dD row off,D.eM=>some (D.bool neg,s)
  | x,eO=>none:=
 fun tm s neg x y=>nd (aW.eq_15 tm s neg x y)
theorem KI : ∀ (tm:Tm) (s:St) (op:UnOp) (x:X),
 aW (AO.un op x) tm s =
  match Fz op (X.ev tm x)with
  | some d=>some (d,s)
  | none=>none:=
 fun tm s op x=>nd (aW.eq_16 tm s op x)
theorem KK : ∀ (tm:Tm) (s:St) (k:IntKind) (x:X),
 aW (AO.conv k x) tm s =
  match X.ev tm x with
  | D.int k_1 n=>some (D.int k (k.wrap n),s)
  | x=>none:=
 fun tm s k x=>nd (aW.eq_17 tm s k x)
theorem KM : ∀ (tm:Tm) (s:St) (x:X),
 aW (AO.A9 x) tm s =
  match X.ev tm x with
  | D.slice g size rows=>
   match mX rows with
   | some b=>some (D.str b,s)
   | none=>none
  | x=>none:=
 fun tm s x=>nd (aW.eq_18 tm s x)
theorem KN : ∀ (tm:Tm) (s:St) (x:X),
 aW (AO.vK x) tm s =
  match X.ev tm x with
  | D.str l=>some (D.slice Tag.shared 1 (List.map (fun(c:UInt8)=> [D.int IntKind.u8 ↑c.toNat]) l),s)
  | x=>none:=
 fun tm s x=>nd (aW.eq_19 tm s x)
theorem KO : ∀ (tm:Tm) (s:St) (size:Nat) (x:X) (lo hi:Option X),
 aW (AO.Fw size x lo hi) tm s =
  match X.ev tm x with
  | D.slice g z rows=>
   match yh (Option.map (fun(x:X)=>X.ev tm x) lo),
    yi (Option.map (fun(x:X)=>X.ev tm x) hi) rows.length with
   | some l,some h=>
    if(rows = []∨z=size)∧0≤l∧l≤h∧h≤ ↑rows.length then
     some
      (D.slice (if l=0 then g.cut (decide (h = ↑rows.length))else Tag.shared) z
       (List.drop l.toNat (List.take h.toNat rows)),
       s)
    else none
   | x,eO=>none
  | x=>none:=
 fun tm s size x lo hi=>nd (aW.eq_20 tm s size x lo hi)
theorem KP : ∀ (tm:Tm) (s:St) (x:X) (lo hi:Option X),
 aW (AO.va x lo hi) tm s =
  match X.ev tm x with
  | D.str t=>
   match yh (Option.map (fun(x:X)=>X.ev tm x) lo),yi (Option.map (fun(x:X)=>X.ev tm x) hi) t.length with
   | some l,some h=>
    if 0≤l∧l≤h∧h≤ ↑t.length then some (D.str (List.drop l.toNat (List.take h.toNat t)),s)else none
   | x,eO=>none
  | x=>none:=
 fun tm s x lo hi=>nd (aW.eq_21 tm s x lo hi)
theorem KQ : ∀ (tm:Tm) (s:St) (x:X) (off:Nat),
 aW (AO.av x off) tm s =
  match X.ev tm x with
  | D.ptr o k=>some (D.ptr o (k+off),s)
  | D.dD row k=>some (D.dD row (k+off),s)
  | x=>none:=
 fun tm s x off=>nd (aW.eq_22 tm s x off)
theorem KR : ∀ (tm:Tm) (s:St) (x:X) (off:Nat) (agg:Bool) (size:Nat),
 aW (AO.rl x off agg size) tm s =
  match X.ev tm x with
  | D.agg cs=>
   match part cs off agg size with
   | some d=>some (d,s)
   | none=>none
  | x=>none:=
 fun tm s x off agg size=>nd (aW.eq_23 tm s x off agg size)
theorem KS : ∀ (tm:Tm) (s:St) (x i:X) (size:Nat),
 aW (AO.ca x i size) tm s =
  match X.ev tm x,X.ev tm i with
  | D.slice g z rows,D.int k n=>
   if 0≤n∧z=size then
    match rows[n.toNat]? with
    | some row=>some (D.dD row 0,s)
    | none=>none
   else none
  | x,eO=>none:=
 fun tm s x i size=>nd (aW.eq_24 tm s x i size)
theorem KT : ∀ (tm:Tm) (s:St) (x i:X),
 aW (AO.nJ x i) tm s =
  match X.ev tm x,X.ev tm i with
  | D.str t,D.int k n=>
   if 0≤n then
    match t[n.toNat]? with
    | some c=>some (D.int IntKind.u8 ↑c.toNat,s)
    | none=>none
   else none
  | x,eO=>none:=
 fun tm s x i=>nd (aW.eq_25 tm s x i)
theorem KU : ∀ (tm:Tm) (s:St) (x:X) (i:Nat),
 aW (AO.ext x i) tm s =
  match X.ev tm x with
  | D.tuple ds=>
   match ds[i]? with
   | some d=>some (d,s)
   | none=>none
  | x=>none:=
 fun tm s x i=>nd (aW.eq_26 tm s x i)
theorem KV : ∀ (tm:Tm) (s:St) (x:X),
 aW (AO.ll x) tm s =
  match X.ev tm x with
  | D.str t=>some (D.int IntKind.i64 ↑t.length,s)
  | x=>none:=
 fun tm s x=>nd (aW.eq_27 tm s x)
theorem KW : ∀ (tm:Tm) (s:St) (x:X),
 aW (AO.len x) tm s =
  match X.ev tm x with
  | D.slice g size rows=>some (D.int IntKind.i64 ↑rows.length,s)
  | x=>none:=
 fun tm s x=>nd (aW.eq_28 tm s x)
theorem KX : ∀ (tm:Tm) (s:St) (size bytes:Nat) (x y:X),
 aW (AO.app size bytes x y) tm s=kp size bytes (X.ev tm x) (X.ev tm y) s:=
 fun tm s size bytes x y=>nd (aW.eq_29 tm s size bytes x y)
theorem KY : ∀ (tm:Tm) (s:St) (isMax:Bool) (x y:X),
 aW (AO.mm isMax x y) tm s =
  match X.ev tm x,X.ev tm y with
  | D.int k a,D.int k' b=>
   if k=k' then some (D.int k (if isMax=true then if b > a then b else a else if b<a then b else a),s)
   else none
  | x,eO=>none:=
 fun tm s isMax x y=>nd (aW.eq_30 tm s isMax x y)
theorem KZ (tm:Tm) (s:St) (r:List D) (T:TypeId):aW (AO.rm (.eM::r) T) tm s=some (.ptr s.az.length 0,{az:=s.az++ [.fc T s.az.length::r],aC:=s.aC}):=nd rfl
theorem K0 (tm:Tm) (s:St) (x:X) (T:TypeId):aW (AO.ye x T) tm s =
 match (x.ev tm).row with
 | some (.eM::r)=>some (.ptr s.az.length 0,{az:=s.az++ [.fc T s.az.length::r],aC:=s.aC})
 | _=>none:=nd rfl
theorem K1 (tm:Tm) (s:St) (x y:X):aW (AO.apps x y) tm s =
 match y.ev tm with
 | .str l=>yj (x.ev tm) (.slice .shared 1 (l.map fun c=> [.int .u8 c.toNat])) s
 | _=>none:=nd rfl
theorem K3 (tm:Tm) (s:St) (x y:X):aW (AO.yf x y) tm s=yj (x.ev tm) (y.ev tm) s:=nd rfl
theorem K4 (tm:Tm) (s:St) (f:Nat) (xs:List X):aW (AO.sC f xs) tm s=some (.ga f (xs.map fun x=>x.ev tm),s):=nd rfl
theorem K5 (tm:Tm) (s:St):aW AO.sD tm s=some (.fZ s.az.length,{az:=s.az++ [[]],aC:=s.aC}):=nd rfl
theorem K6 (tm:Tm) (s:St) (m k v:X):aW (AO.wO m k v) tm s =
 match m.ev tm,k.ev tm,v.ev tm with
 | .fZ o, .str key, .slice g z rows=>
  match s.az[o]? with
  | some cs=>match vd key (.slice g z rows) cs with | some oo=>some (.tuple [],{az:=s.az.set o oo,aC:=s.aC}) | none=>none
  | none=>none
 | _,_,_=>none:=nd rfl
theorem K7 (tm:Tm) (s:St) (m k:X) (zero:D):aW (AO.uh m k zero) tm s =
 match m.ev tm,k.ev tm with
 | .fZ o, .str key=>
  match s.az[o]? with
  | some cs=>match wP key zero cs with | some d=>some (d,s) | none=>none
  | none=>none
 | _,_=>none:=nd rfl
theorem F5 (f:Nat) (xs:List X):(AO.sC f xs).core=false:=nd rfl
theorem F6:AO.sD.core=true:=nd rfl
theorem F7 (m k v:X):(AO.wO m k v).core=true:=nd rfl
theorem F8 (m k:X) (zero:D):(AO.uh m k zero).core=false:=nd rfl
theorem Om (n m f:Nat) (cs:List D):D.fg n m (.ga f cs) = .ga f (D.gE n m cs):=nd (by simp only [D.fg])
theorem On (n m:Nat) (o:Nat):D.fg n m (.fZ o)=if o<n then .fZ o else .junk:=nd (by simp only [D.fg])
theorem K8 (d:Option Nat) (g:Option (Nat×Bool)) (t:Nat) (xs:List X):(AI.im d g t xs).dst=d:=nd rfl
theorem F9 (x y:X):(AO.yf x y).core=true:=nd rfl
theorem Ga (z:List D) (T:TypeId):(AO.rm z T).core=true:=nd rfl
theorem Gb (x:X) (T:TypeId):(AO.ye x T).core=true:=nd rfl
theorem Gc (x y:X):(AO.apps x y).core=true:=nd rfl
theorem Oo (n m:Nat) (v:Value):D.fg n m (.val v) = .val v:=nd (by simp only [D.fg])
theorem Oq (n m:Nat) (T:TypeId) (o:Nat):D.fg n m (.fc T o)=if o<n then .fc T o else .junk:=nd (by simp only [D.fg])
theorem Rr : ∀ (tm:Tm) (t:Nat),X.ev tm (X.s t)=tm.get t:=
 fun tm t=>nd (X.ev.eq_1 tm t)
theorem Rs : ∀ (tm:Tm) (d:D),X.ev tm (X.k d)=d:=
 fun tm d=>nd (X.ev.eq_2 tm d)
theorem K9 : ∀ (tm:Tm) (d:D) (t:Nat),tm.put (some t) d=tm.set t d:=
 fun tm d t=>nd (Tm.put.eq_1 tm d t)
theorem La : ∀ (tm:Tm) (d:D),tm.put none d=tm:=
 fun tm d=>nd (Tm.put.eq_2 tm d)
theorem Lb : ∀ (x:Nat) (eO:D),Tm.set [] x eO = [(x,eO)]:=
 fun x eO=>nd (Tm.set.eq_1 x eO)
theorem Lc : ∀ (x:Nat) (eO:D) (k:Nat) (e:D) (r:List (Nat×D)),
 Tm.set ((k,e)::r) x eO=if k=x then(k,eO)::r else(k,e)::Tm.set r x eO:=
 fun x eO k e r=>nd (Tm.set.eq_2 x eO k e r)
theorem Ld : ∀ (x:Nat),Tm.get [] x=D.junk:=
 fun x=>nd (Tm.get.eq_1 x)
theorem Lf : ∀ (x k:Nat) (d:D) (r:List (Nat×D)),Tm.get ((k,d)::r) x=if k=x then d else Tm.get r x:=
 fun x k d r=>nd (Tm.get.eq_2 x k d r)
theorem Ot : ∀ (x:Nat),nu x [] = []:=
 fun x=>nd (nu.eq_1 x)
theorem Ou : ∀ (x:Nat) (d:D) (r:List D),nu x (d::r)=(x,d)::nu (x+1) r:=
 fun x d r=>nd (nu.eq_2 x d r)
theorem Lg : ∀ (d:Option Nat) (g:Option (Nat×Bool)) (o:AO),(AI.op d g o).dst=d:=
 fun d g o=>nd (AI.dst.eq_1 d g o)
theorem Lh : ∀ (d:Option Nat) (g:Option (Nat×Bool)) (f:Nat) (xs:List X),(AI.call d g f xs).dst=d:=
 fun d g f xs=>nd (AI.dst.eq_2 d g f xs)
theorem Li : ∀ (d:Option Nat) (g:Option (Nat×Bool)) (neg:Bool) (eO:X),(AI.nil d g neg eO).dst=d:=
 fun d g neg eO=>nd (AI.dst.eq_3 d g neg eO)
theorem Rt : ∀ (cs:List D) (off size:Nat),
 part cs off true size=if off+size≤cs.length then some (D.agg (List.take size (List.drop off cs)))else none:=
 fun cs off size=>nd (part.eq_1 cs off size)
theorem Ru : ∀ (cs:List D) (off size:Nat),part cs off false size=cs[off]? :=
 fun cs off size=>nd (part.eq_2 cs off size)
theorem Lj : ∀ (cs:List D) (off:Nat) (r:List D),
 iM cs off r=List.take off cs++r++List.drop (off+r.length) cs:=
 fun cs off r=>nd (iM.eq_1 cs off r)
theorem Ov : ∀ (cells:List D),pN cells [] = some cells:=
 fun cells=>nd (pN.eq_1 cells)
theorem Ow : ∀ (cells:List D) (off size:Nat) (d:D) (rest:List (Nat×Nat×D)),
 pN cells ((off,size,d)::rest) =
  match d.row with
  | none=>none
  | some r=>if r.length=size∧off+size≤cells.length then pN (iM cells off r) rest else none:=
 fun cells off size d rest=>nd (pN.eq_2 cells off size d rest)
theorem Gd : ∀ (size:Nat) (rows:List (List D)),iR size rows [] = some rows:=
 fun size rows=>nd (iR.eq_1 size rows)
theorem Ge : ∀ (size:Nat) (rows:List (List D)) (i:Nat) (d:D) (rest:List (Nat×D)),
 iR size rows ((i,d)::rest) =
  match d.row with
  | none=>none
  | some r=>if r.length=size∧i<rows.length then iR size (rows.set i r) rest else none:=
 fun size rows i d rest=>nd (iR.eq_2 size rows i d rest)
theorem Gf : ∀ (zero:List D),hY zero 0 = []:=
 fun zero=>nd (hY.eq_1 zero)
theorem Gg : ∀ (zero:List D) (i:Nat),hY zero i.succ=zero::hY zero i:=
 fun zero i=>nd (hY.eq_2 zero i)
theorem Rv : ∀ (op:BinOp) (k:IntKind) (a:Int) (k':IntKind) (b:Int),
 vb op (D.int k a) (D.int k' b)=if k=k' then fq op k a b else none:=
 fun op k a k' b=>nd (vb.eq_1 op k a k' b)
theorem Rw : ∀ (op:BinOp) (a b:List UInt8),vb op (D.str a) (D.str b)=mN op a b:=
 fun op a b=>nd (vb.eq_2 op a b)
theorem Lk : ∀ (k:IntKind) (a b:Int),fq BinOp.add k a b=some (D.int k (k.wrap (a+b))):=
 fun k a b=>nd (fq.eq_1 k a b)
theorem Ll : ∀ (k:IntKind) (a b:Int),fq BinOp.sub k a b=some (D.int k (k.wrap (a - b))):=
 fun k a b=>nd (fq.eq_2 k a b)
theorem Lm : ∀ (k:IntKind) (a b:Int),fq BinOp.mul k a b=some (D.int k (k.wrap (a*b))):=
 fun k a b=>nd (fq.eq_3 k a b)
theorem Ln : ∀ (k:IntKind) (a b:Int),
 fq BinOp.quo k a b=if b=0 then none else some (D.int k (k.wrap (a.tdiv b))):=
 fun k a b=>nd (fq.eq_4 k a b)
theorem Lo : ∀ (k:IntKind) (a b:Int),fq BinOp.rem k a b=if b=0 then none else some (D.int k (a.tmod b)):=
 fun k a b=>nd (fq.eq_5 k a b)
theorem Lp : ∀ (k:IntKind) (a b:Int),fq BinOp.eql k a b=some (D.bool (a==b)):=
 fun k a b=>nd (fq.eq_6 k a b)
theorem Lq : ∀ (k:IntKind) (a b:Int),fq BinOp.neq k a b=some (D.bool (a != b)):=
 fun k a b=>nd (fq.eq_7 k a b)
theorem Lr : ∀ (k:IntKind) (a b:Int),fq BinOp.lss k a b=some (D.bool (decide (a<b))):=
 fun k a b=>nd (fq.eq_8 k a b)
theorem Ls : ∀ (k:IntKind) (a b:Int),fq BinOp.leq k a b=some (D.bool (decide (a≤b))):=
 fun k a b=>nd (fq.eq_9 k a b)
theorem H3 : ∀ (k:IntKind) (a b:Int),fq BinOp.gtr k a b=some (D.bool (decide (a > b))):=
 fun k a b=>nd (fq.eq_10 k a b)
theorem H4 : ∀ (k:IntKind) (a b:Int),fq BinOp.geq k a b=some (D.bool (decide (a≥b))):=
 fun k a b=>nd (fq.eq_11 k a b)
theorem Lt : ∀ (a b:List UInt8),
 mN BinOp.add a b=if a.length+b.length≤bQ then some (D.str (a++b))else none:=
 fun a b=>nd (mN.eq_1 a b)
theorem Lu : ∀ (a b:List UInt8),mN BinOp.eql a b=some (D.bool (a==b)):=
 fun a b=>nd (mN.eq_2 a b)
theorem Lv : ∀ (a b:List UInt8),mN BinOp.neq a b=some (D.bool !a==b):=
 fun a b=>nd (mN.eq_3 a b)
theorem Lw : ∀ (a b:List UInt8),mN BinOp.lss a b=some (D.bool (bytesLess a b)):=
 fun a b=>nd (mN.eq_4 a b)
theorem Wh : ∀ (k:IntKind) (n:Int),Fz UnOp.neg (D.int k n)=some (D.int k (k.wrap (0 - n))):=
 fun k n=>nd (Fz.eq_1 k n)
theorem Wi : ∀ (b:Bool),Fz UnOp.not (D.bool b)=some (D.bool !b):=
 fun b=>nd (Fz.eq_2 b)
theorem Ly : ∀ (k:IntKind) (a:Int) (k':IntKind) (b:Int),
 lT 0 (D.int k a) (D.int k' b)=if k=k' then some (a==b)else none:=
 fun k a k' b=>nd (lT.eq_1 k a k' b)
theorem Lz : ∀ (a b:Bool),lT 1 (D.bool a) (D.bool b)=some (a==b):=
 fun a b=>nd (lT.eq_2 a b)
theorem LA : ∀ (a b:List UInt8),lT 2 (D.str a) (D.str b)=some (a==b):=
 fun a b=>nd (lT.eq_3 a b)
theorem H5:kf [] [] [] = some true:=
 nd (kf.eq_1)
theorem H6 : ∀ (k:Nat) (ks:List Nat) (UJ:D) (xs:List D) (y:D) (ys:List D),
 kf (k::ks) (UJ::xs) (y::ys) =
  match lT k UJ y with
  | none=>none
  | some true=>kf ks xs ys
  | some false=>some false:=
 fun k ks UJ xs y ys=>nd (kf.eq_2 k ks UJ xs y ys)
theorem Wj:yh none=some 0:=
 nd (yh.eq_1)
theorem Wl : ∀ (k:IntKind) (n:Int),yh (some (D.int k n))=some n:=
 fun k n=>nd (yh.eq_2 k n)
theorem Wm : ∀ (len:Nat),yi none len=some ↑len:=
 fun len=>nd (yi.eq_1 len)
theorem Wn : ∀ (len:Nat) (k:IntKind) (n:Int),yi (some (D.int k n)) len=some n:=
 fun len k n=>nd (yi.eq_2 len k n)
theorem H7 : ∀ (zero:List D),(AO.alloc zero).core=true:=
 fun zero=>nd (AO.core.eq_1 zero)
theorem H8 : ∀ (eO:X),(AO.box eO).core=true:=
 fun eO=>nd (AO.core.eq_2 eO)
theorem H9 : ∀ (zero:List D) (size n:Nat) (parts:List (Nat×X)),(AO.s5 zero size n parts).core=true:=
 fun zero size n parts=>nd (AO.core.eq_3 zero size n parts)
theorem Ia : ∀ (eO:X),(AO.yd eO).core=true:=
 fun eO=>nd (AO.core.eq_4 eO)
theorem Ib : ∀ (p eO:X) (size:Nat),(AO.store p eO size).core=true:=
 fun p eO size=>nd (AO.core.eq_5 p eO size)
theorem Ic : ∀ (size bytes:Nat) (eO y:X),(AO.app size bytes eO y).core=true:=
 fun size bytes eO y=>nd (AO.core.eq_6 size bytes eO y)
theorem Ie : ∀ (val:Nat) (zero:List D),(AI.op (some val) none (AO.alloc zero)).kind=AK.alloc:=
 fun val zero=>nd (AI.kind.eq_1 val zero)
theorem Ig : ∀ (zero:List D),(AO.alloc zero).kind=AK.core:=
 fun zero=>nd (AO.kind.eq_1 zero)
theorem Ih : ∀ (eO:X),(AO.box eO).kind=AK.core:=
 fun eO=>nd (AO.kind.eq_2 eO)
theorem Ii : ∀ (zero:List D) (size n:Nat) (parts:List (Nat×X)),(AO.s5 zero size n parts).kind=AK.core:=
 fun zero size n parts=>nd (AO.kind.eq_3 zero size n parts)
theorem Ij : ∀ (eO:X),(AO.yd eO).kind=AK.core:=
 fun eO=>nd (AO.kind.eq_4 eO)
theorem Ik : ∀ (p eO:X) (size:Nat),(AO.store p eO size).kind=AK.core:=
 fun p eO size=>nd (AO.kind.eq_5 p eO size)
theorem Il : ∀ (size bytes:Nat) (eO y:X),(AO.app size bytes eO y).kind=AK.core:=
 fun size bytes eO y=>nd (AO.kind.eq_6 size bytes eO y)
theorem Io : ∀ (eO:X) (agg:Bool) (size:Nat),(AO.load eO agg size).kind=AK.load:=
 fun _ _ _=>nd rfl
theorem LB:fP AK.core=true:=
 nd (fP.eq_1)
theorem LC:fP AK.alloc=true:=
 nd (fP.eq_2)
theorem LD : ∀ (i:AI) (tm:Tm) (d:D),mS i tm d [] = True:=
 fun i tm d=>nd (mS.eq_1 i tm d)
theorem LF : ∀ (i:AI) (tm:Tm) (d:D) (s:St) (r:List St),
 mS i tm d (s::r)=(iN i tm s=some d∧mS i tm d r):=
 fun i tm d s r=>nd (mS.eq_2 i tm d s r)
theorem Wo : ∀ (tm:Tm) (s:St) (dst:Option Nat) (o:AO),
 iN (AI.op dst none o) tm s=Option.map (fun(x:D×St)=>x.fst) (aW o tm s):=
 fun tm s dst o=>nd (iN.eq_1 tm s dst o)
theorem Wp : ∀ (tm:Tm) (s:St) (dst:Option Nat) (t:Nat) (want:Bool) (o:AO),
 iN (AI.op dst (some (t,want)) o) tm s =
  match tm.get t with
  | D.bool b=>if b=want then Option.map (fun(x:D×St)=>x.fst) (aW o tm s)else some (D.tuple [])
  | D.tuple vs=>some (D.tuple [])
  | x=>none:=
 fun tm s dst t want o=>nd (iN.eq_2 tm s dst t want o)
theorem Ip : ∀ (is:List AI),lW is [] = some []:=
 fun is=>nd (lW.eq_1 is)
theorem Iq : ∀ (is:List AI) (q b:Nat) (r:List (Nat×Nat)),
 lW is ((q,b)::r) =
  match is[q]?,lW is r with
  | some ai,some l=>some ((ai,b)::l)
  | x,eO=>none:=
 fun is q b r=>nd (lW.eq_2 is q b r)
theorem Wq : ∀ (tm:Tm) (n m:Nat),su tm n m [] = True:=
 fun tm n m=>nd (su.eq_1 tm n m)
theorem Wr : ∀ (tm:Tm) (n m k:Nat) (d:D) (r:List (Nat×D)),
 su tm n m ((k,d)::r)=(Wk (D.fg n m (tm.get k)) d∧su tm n m r):=
 fun tm n m k d r=>nd (su.eq_2 tm n m k d r)
theorem Rx : ∀ (n m o off:Nat),D.fg n m (D.ptr o off)=if o<n then D.ptr o off else D.junk:=
 fun n m o off=>nd (D.fg.eq_1 n m o off)
theorem Ry : ∀ (n m:Nat) (row:List D) (off:Nat),D.fg n m (D.dD row off)=D.dD (D.gE n m row) off:=
 fun n m row off=>nd (D.fg.eq_2 n m row off)
theorem Rz : ∀ (n m:Nat) (g:Tag) (z:Nat) (rows:List (List D)),
 D.fg n m (D.slice g z rows)=D.slice (Tag.fg m g) z (D.jv n m rows):=
 fun n m g z rows=>nd (D.fg.eq_3 n m g z rows)
theorem RA : ∀ (n m:Nat) (cs:List D),D.fg n m (D.agg cs)=D.agg (D.gE n m cs):=
 fun n m cs=>nd (D.fg.eq_4 n m cs)
theorem RB : ∀ (n m:Nat) (ds:List D),D.fg n m (D.tuple ds)=D.tuple (D.gE n m ds):=
 fun n m ds=>nd (D.fg.eq_5 n m ds)
theorem RC : ∀ (n m:Nat),D.fg n m D.junk=D.junk:=
 fun n m=>nd (D.fg.eq_6 n m)
theorem RE : ∀ (n m:Nat) (k:IntKind) (eO:Int),D.fg n m (D.int k eO)=D.int k eO:=
 fun n m k eO=>nd (D.fg.eq_7 n m k eO)
theorem RF : ∀ (n m:Nat) (b:Bool),D.fg n m (D.bool b)=D.bool b:=
 fun n m b=>nd (D.fg.eq_8 n m b)
theorem RG : ∀ (n m:Nat) (l:List UInt8),D.fg n m (D.str l)=D.str l:=
 fun n m l=>nd (D.fg.eq_9 n m l)
theorem Ox : ∀ (n m:Nat),D.fg n m D.eM=D.eM:=
 fun n m=>nd (D.fg.eq_10 n m)
theorem Oy : ∀ (n m:Nat),D.gE n m [] = []:=
 fun n m=>nd (D.gE.eq_1 n m)
theorem Oz : ∀ (n m:Nat) (d:D) (r:List D),D.gE n m (d::r)=D.fg n m d::D.gE n m r:=
 fun n m d r=>nd (D.gE.eq_2 n m d r)
theorem OA : ∀ (n m:Nat),D.jv n m [] = []:=
 fun n m=>nd (D.jv.eq_1 n m)
theorem OB : ∀ (n m:Nat) (d:List D) (r:List (List D)),D.jv n m (d::r)=D.gE n m d::D.jv n m r:=
 fun n m d r=>nd (D.jv.eq_2 n m d r)
theorem LG : ∀ (m t:Nat) (y:Bool),Tag.fg m (Tag.tok t y)=if t<m then Tag.tok t y else Tag.shared:=
 fun _ _ _=>nd rfl
theorem LH : ∀ (s:St) (n m:Nat),
 s.cut n m = {az:=List.map (D.gE n m) (List.take n s.az),aC:=List.take m s.aC}:=
 fun s n m=>nd (St.cut.eq_1 s n m)
theorem RH : ∀ (d:D),aB [d] = d:=
 fun d=>nd (aB.eq_1 d)
theorem RI (size bytes t:Nat) (rows:List (List D)) (g:Tag) (r:List D) (s:St):kp size bytes (.slice (.tok t) size rows) (.slice g size [r]) s =
 if(rows.length+1)*(bytes+1)≤bQ∧s.aC[t]? = some (some rows.length)then some (.slice (.tok t) size (rows++ [r]),⟨s.az,s.aC.set t (some (rows.length+1))⟩)else none:=by
 simp only [kp,List.length_singleton]
 by_cases h1:(rows.length+1)*(bytes+1)≤bQ <;> by_cases h2:s.aC[t]? = some (some rows.length) <;> simp [h1,h2]
theorem RJ {size bytes t:Nat} {rows new:List (List D)} {g:Tag} {s:St} (h1:(rows.length+new.length)*(bytes+1)≤bQ) (h2:s.aC[t]? = some (some rows.length)) :
 kp size bytes (.slice (.tok t) size rows) (.slice g size new) s=some (.slice (.tok t) size (rows++new),⟨s.az,s.aC.set t (some (rows.length+new.length))⟩):=by
 cases new with
 | nil=>
  have:s.aC.set t (some rows.length)=s.aC:=by
   apply List.ext_getElem?
   intro i
   rw [List.getElem?_set]
   split
   ·rename_i hi;subst hi;rw [h2,if_pos (List.getElem?_eq_some_iff.1 h2).1]
   ·rfl
  simp only [List.length_nil,Nat.add_zero]at h1
  simp [kp,h1,this]
 | cons x l=>
  simp only [kp,h1,h2]
  simp
theorem OC (size bytes z:Nat) (g:Tag) (r:List D) (s:St):kp size bytes (.slice .full z []) (.slice g size [r]) s =
 if bytes+1≤bQ then some (.slice (.tok s.aC.length) size [r],⟨s.az,s.aC++ [some 1]⟩)else none:=by
 simp [kp]
theorem Ws {P:Program} {B:eU} {nt:Nat} (ac:AC) (Q:Exit→Tm→St→Prop) (tm:Tm) (s:St):jc P B nt ac Q .normal tm s=Q .normal tm s:=nd rfl
theorem Wt {P:Program} {B:eU} {nt:Nat} (ac:AC) (Q:Exit→Tm→St→Prop) (tm:Tm) (s:St):jc P B nt ac Q .ret tm s=Q .ret tm s:=nd rfl
theorem Wu {P:Program} {B:eU} {nt:Nat} (ac:AC) (Q:Exit→Tm→St→Prop) (tm:Tm) (s:St) (i:Nat):jc P B nt ac Q (.exit i) tm s=Q (.exit i) tm s:=nd rfl
theorem Wv (m:Nat):Tag.fg m .full = .full:=nd rfl
theorem OD (m:Nat):Tag.fg m .shared = .shared:=nd rfl
theorem acm {P:Program} (K:Tm→St→Prop) (tm:Tm) (s:St):jj P [] K tm s=K tm s:=nd rfl
theorem s_op {P:Program} (dst:Option Nat) (o:AO) (r:List AI) (K:Tm→St→Prop) (tm:Tm) (s:St) :
 jj P (.op dst none o::r) K tm s=(match aW o tm s with | some (d,s')=>jj P r K (tm.put dst d) s' | none=>False):=nd rfl
def KJ (P:Program) (r:List AI) (K:Tm→St→Prop) (tm:Tm) (dst:Option Nat) (d:D) (s:St):Prop:=jj P r K (tm.put dst d) s
theorem afK {P:Program} (r:List AI) (K:Tm→St→Prop) (tm:Tm) (dst:Option Nat) (d:D) (s:St):KJ P r K tm dst d s=jj P r K (tm.put dst d) s:=nd rfl
theorem s_call {P:Program} (dst:Option Nat) (f:Nat) (xs:List X) (r:List AI) (K:Tm→St→Prop) (tm:Tm) (s:St) :
 jj P (.call dst none f xs::r) K tm s=CL P f (xs.map (·.ev tm)) s (KJ P r K tm dst):=nd rfl
def NJ (P:Program) (dst:Option Nat) (neg:Bool) (x:D) (r:List AI) (K:Tm→St→Prop) (tm:Tm) (s:St):Prop:=
 match x with
 | .slice _ _ rows=>∀ b:Bool,(rows≠ []→b=false)→jj P r K (tm.put dst (.bool (if neg then !b else b))) s
 | _=>False
theorem YO {P:Program} (dst:Option Nat) (neg:Bool) (x:X) (r:List AI) (K:Tm→St→Prop) (tm:Tm) (s:St) :
 jj P (.nil dst none neg x::r) K tm s=NJ P dst neg (x.ev tm) r K tm s:=nd rfl
theorem Ww {P:Program} (dst:Option Nat) (neg:Bool) (g:Tag) (z:Nat) (d:List D) (l:List (List D)) (r:List AI) (K:Tm→St→Prop) (tm:Tm) (s:St) :
 NJ P dst neg (.slice g z (d::l)) r K tm s=jj P r K (tm.put dst (.bool neg)) s:=by
 simp only [NJ,ne_eq,reduceCtorEq,not_false_eq_true,true_imp_iff,eq_iff_iff]
 refine⟨fun h=>by have:=h false rfl;cases neg <;> exact this,fun h b hb=> ?_⟩
 subst hb;cases neg <;> exact h
theorem Gh {P:Program} {dst:Option Nat} {neg:Bool} {g:Tag} {z:Nat} {l:List (List D)} {r:List AI} {K:Tm→St→Prop} {tm:Tm} {s:St}
 (h1:l = []→jj P r K (tm.put dst (.bool (!neg))) s) (h2:jj P r K (tm.put dst (.bool neg)) s):NJ P dst neg (.slice g z l) r K tm s:=by
 intro b hb
 cases b with
 | false=>cases neg <;> exact h2
 | true=>
  have:l = []:=Decidable.byContradiction fun h=>by cases hb h
  cases neg <;> exact h1 this
theorem aco {P:Program} (dst:Option Nat) (t:Nat) (w:Bool) (o:AO) (r:List AI) (K:Tm→St→Prop) (tm:Tm) (s:St) :
 jj P (.op dst (some (t,w)) o::r) K tm s = @GB (tm.get t) w ⟨(jj P (.op dst none o::r) K tm s),(jj P r K (tm.put dst (.tuple [])) s)⟩:=nd rfl
def CV (P:Program) (x:D) (acp:List D) (s:St) (K:D→St→Prop):Prop:=
 match x with
 | .ga f my=>enters P f=true∧CL P f (acp++my) s K
 | _=>False
theorem Wx {P:Program} (dst:Option Nat) (t:Nat) (xs:List X) (r:List AI) (K:Tm→St→Prop) (tm:Tm) (s:St) :
 jj P (.im dst none t xs::r) K tm s=CV P (tm.get t) (xs.map (·.ev tm)) s (KJ P r K tm dst):=nd rfl
theorem CV.use {P:Program} {f:Nat} {my acp:List D} {s s':St} {d:D} {K:D→St→Prop} (he:enters P f=true) (h:aD P f (acp++my) s d s') (k:K d s'):CV P (.ga f my) acp s K:=⟨he,d,s',h,k⟩
theorem RK {P:Program} (dst:Option Nat) (t:Nat) (w:Bool) (u:Nat) (xs:List X) (r:List AI) (K:Tm→St→Prop) (tm:Tm) (s:St) :
 jj P (.im dst (some (t,w)) u xs::r) K tm s = @GB (tm.get t) w ⟨(jj P (.im dst none u xs::r) K tm s),(jj P r K (tm.put dst (.tuple [])) s)⟩:=nd rfl
theorem Wy {P:Program} (dst:Option Nat) (t:Nat) (w:Bool) (f:Nat) (xs:List X) (r:List AI) (K:Tm→St→Prop) (tm:Tm) (s:St) :
 jj P (.call dst (some (t,w)) f xs::r) K tm s = @GB (tm.get t) w ⟨(jj P (.call dst none f xs::r) K tm s),(jj P r K (tm.put dst (.tuple [])) s)⟩:=nd rfl
theorem YQ {P:Program} (dst:Option Nat) (t:Nat) (w:Bool) (neg:Bool) (x:X) (r:List AI) (K:Tm→St→Prop) (tm:Tm) (s:St) :
 jj P (.nil dst (some (t,w)) neg x::r) K tm s = @GB (tm.get t) w ⟨(jj P (.nil dst none neg x::r) K tm s),(jj P r K (tm.put dst (.tuple [])) s)⟩:=nd rfl
theorem afL (b:Bool) (A C:Prop) : @GB (.bool b) true ⟨A,C⟩ = @CB (.bool b) ⟨A,C⟩:=nd rfl
theorem afM (b:Bool) (A C:Prop) : @GB (.bool b) false ⟨A,C⟩ = @CB (.bool b) ⟨C,A⟩:=by
 cases b <;> simp [GB,CB,GJ,sJ]
theorem afN (l:List D) (w:Bool) (A C:Prop) : @GB (.tuple l) w ⟨A,C⟩=C:=nd rfl
theorem acq {P:Program} {K:Tm→St→Prop} (bB:List St) (tm:Tm) (s:St):fv P K [] bB tm s=K tm s:=nd rfl
def OJ (P:Program) (o:AO) (dst:Option Nat) (b:Nat) (r:List (AI×Nat)) (K:Tm→St→Prop) (bB:List St) (tm:Tm) (s:St):Bool→Prop
 | true=>match aW o tm s with | some (d,s')=>fv P K r (s::bB) (tm.put dst d) s' | none=>False
 | false=>match aW o tm s with | some (d,_)=>mS (.op dst none o) tm d (bB.take b)∧fv P K r bB (tm.put dst d) s | none=>False
theorem afP {P:Program} {K:Tm→St→Prop} (dst:Option Nat) (o:AO) (b:Nat) (r:List (AI×Nat)) (bB:List St) (tm:Tm) (s:St) :
 fv P K ((.op dst none o,b)::r) bB tm s=OJ P o dst b r K bB tm s o.core:=by
 simp only [fv,lX]
 cases o.core <;> rfl
theorem afQ {P:Program} (o:AO) (dst:Option Nat) (b:Nat) (r:List (AI×Nat)) (K:Tm→St→Prop) (bB:List St) (tm:Tm) (s:St) :
 OJ P o dst b r K bB tm s true=match aW o tm s with | some (d,s')=>fv P K r (s::bB) (tm.put dst d) s' | none=>False:=nd rfl
theorem afR {P:Program} (o:AO) (dst:Option Nat) (b:Nat) (r:List (AI×Nat)) (K:Tm→St→Prop) (bB:List St) (tm:Tm) (s:St) :
 OJ P o dst b r K bB tm s false=match aW o tm s with | some (d,_)=>mS (.op dst none o) tm d (bB.take b)∧fv P K r bB (tm.put dst d) s | none=>False:=nd rfl
theorem acr {P:Program} {K:Tm→St→Prop} (dst:Option Nat) (t:Nat) (w:Bool) (o:AO) (b:Nat) (r:List (AI×Nat)) (bB:List St) (tm:Tm) (s:St) :
 fv P K ((.op dst (some (t,w)) o,b)::r) bB tm s = @GB (tm.get t) w ⟨(fv P K ((.op dst none o,b)::r) bB tm s),(fv P K r (if o.core then s::bB else bB) (tm.put dst (.tuple [])) s)⟩:=by
 simp only [GB,fv,lX]
 cases o.core <;> rfl
def KG (P:Program) (K:Tm→St→Prop) (r:List (AI×Nat)) (bB:List St) (tm:Tm) (dst:Option Nat) (d:D) (s:St):Prop:=fv P K r bB (tm.put dst d) s
theorem afS {P:Program} (K:Tm→St→Prop) (r:List (AI×Nat)) (bB:List St) (tm:Tm) (dst:Option Nat) (d:D) (s:St):KG P K r bB tm dst d s=fv P K r bB (tm.put dst d) s:=nd rfl
theorem g_call {P:Program} {K:Tm→St→Prop} (dst:Option Nat) (f:Nat) (xs:List X) (b:Nat) (r:List (AI×Nat)) (bB:List St) (tm:Tm) (s:St) :
 fv P K ((.call dst none f xs,b)::r) bB tm s=CL P f (xs.map (·.ev tm)) s (KG P K r (s::bB) tm dst):=nd rfl
theorem Wz {P:Program} {K:Tm→St→Prop} (dst:Option Nat) (t:Nat) (w:Bool) (f:Nat) (xs:List X) (b:Nat) (r:List (AI×Nat)) (bB:List St) (tm:Tm) (s:St) :
 fv P K ((.call dst (some (t,w)) f xs,b)::r) bB tm s = @GB (tm.get t) w ⟨(fv P K ((.call dst none f xs,b)::r) bB tm s),(fv P K r (s::bB) (tm.put dst (.tuple [])) s)⟩:=nd rfl
class Ok (p:Prop):Prop where
 out:p
instance:Ok True:=⟨trivial⟩
instance {p q:Prop} [Ok p] [Ok q] : Ok (p∧q):=⟨⟨Ok.out,Ok.out⟩⟩
instance {α:Type} (a:α):Ok (a=a):=⟨rfl⟩
instance (d:D):Ok (Wk d .junk):=⟨Wk.junk d⟩
instance {l l':List D} [Ok (lV l l')] : Ok (Wk (.tuple l) (.tuple l')):=⟨Wk.tuple Ok.out⟩
instance {l l':List D} [Ok (lV l l')] : Ok (Wk (.agg l) (.agg l')):=⟨Wk.agg Ok.out⟩
instance {g:Tag} {z:Nat} {l l':List (List D)} [Ok (gS l l')] : Ok (Wk (.slice g z l) (.slice g z l')):=⟨Wk.rows Ok.out⟩
instance {g:Tag} {z:Nat} {l l':List (List D)} [Ok (gS l l')] : Ok (Wk (.slice g z l) (.slice .shared z l')):=⟨Wk.slice Ok.out⟩
instance (z z':Nat):Ok (Wk (.slice .full z []) (.slice .full z' [])):=⟨Wk.afB z z'⟩
instance (g:Tag) (z z':Nat):Ok (Wk (.slice g z []) (.slice .shared z' [])):=⟨Wk.nil g z z'⟩
instance (d:D):Ok (Wk d d):=⟨Wk.refl d⟩
instance:Ok (lV [] []):=⟨.nil⟩
instance {d d':D} {l l':List D} [Ok (Wk d d')] [Ok (lV l l')] : Ok (lV (d::l) (d'::l')):=⟨.cons Ok.out Ok.out⟩
instance (l:List D):Ok (lV l l):=⟨lV.refl l⟩
instance:Ok (gS [] []):=⟨.nil⟩
instance {d d':List D} {l l':List (List D)} [Ok (lV d d')] [Ok (gS l l')] : Ok (gS (d::l) (d'::l')):=⟨.cons Ok.out Ok.out⟩
instance {a a' b b':List (List D)} [Ok (gS a a')] [Ok (gS b b')] : Ok (gS (a++b) (a'++b')):=⟨gS.append Ok.out Ok.out⟩
instance (l:List (List D)):Ok (gS l l):=⟨gS.refl l⟩
theorem bs:(∀ b,(true || b)=true)∧(∀ b,(false || b)=b)∧(∀ b,(b || true)=true)∧(∀ b,(b || false)=b)∧(∀ b,(true && b)=b)∧(∀ b,(false && b)=false)∧(∀ b,(b && true)=b)∧(∀ b,(b && false)=false)∧
 (!true)=false∧(!false)=true∧(∀ b,(!!b)=b)∧((false=true)=False)∧(∀ (α β:Type) (a:α) (f:α→Option β),(some a).bind f=f a)∧
 (∀ (α β γ:Type) (x:Option α) (f:α→Option β) (g:β→Option γ),(x.bind f).bind g=x.bind fun y=>(f y).bind g):=
 ⟨Bool.true_or,Bool.false_or,Bool.or_true,Bool.or_false,Bool.true_and,Bool.false_and,Bool.and_true,Bool.and_false,rfl,rfl,Bool.not_not,by simp,fun _ _ _ _=>rfl,fun _ _ _ x f g=>Option.bind_assoc x f g⟩
attribute [go_sem] YL afH afI acm s_op afK s_call YO Ww aco Wy YQ afL afM afN acq afP afQ afR acr afS g_call Wz AO.core AI.kind AO.kind fP
attribute [go_sem] Wx RK K4 K5 K6 K7 F5 F6 F7 F8 Om On K8 V6 Re
attribute [go_sem] K3 F9 KZ K0 K1 Ga Gb Gc Oo Oq V5 N4 V1 Ra V2 Rb V3 Rc N3 V4 Rf Kx Rg
attribute [go_sem] Oa Oc Od Oe Og Oh Oi Oj Ol KA KB KD KE KF KH KI KK KM KN KO KP KQ KR KS KT KU KV KW KX KY Rr Rs K9 La Lb Lc Ld Lf Ot Ou Lg Lh Li Rt Ru Lj Ov Ow Gd Ge Gf Gg Rv Rw Lk Ll Lm Ln Lo Lp Lq Lr Ls H3 H4 Lt Lu Lv Lw Wh Wi Ly Lz LA H5 H6 Wj Wl Wm Wn H7 H8 H9 Ia Ib Ic Ie Ig Ih Ii Ij Ik Il Io LB LC LD LF Wo Wp Ip Iq Wq Wr Rx Ry Rz RA RB RC RE RF RG Ox Oy Oz OA OB LG LH RH RI OC Wv OD Ws Wt Wu
attribute [go_sem] List.map_cons List.map_nil List.getElem?_cons_zero List.getElem?_cons_succ List.length_cons List.length_nil List.set_cons_zero List.set_cons_succ List.take_succ_cons List.take_zero List.take_nil List.drop_succ_cons List.drop_zero List.drop_nil List.cons_append List.nil_append List.append_nil Nat.zero_add Nat.add_zero Option.map_some Option.map_none
attribute [go_sem] Bool.not_false Bool.not_true List.length_map List.getElem?_map Int.toNat_natCast Int.natCast_nonneg Int.toNat_zero and_self and_true true_and
attribute [go_sem_proc ↓] reduceIte
attribute [go_sem_proc] Int.reduceLE reduceCtorEq Nat.reduceEqDiff Nat.reduceLeDiff Nat.reduceAdd Nat.reduceMul Nat.reduceSub Nat.reduceLT
theorem bD {b:Bool} {A C:Prop} (h1:b=true→A) (h:b=true:=by assumption) : @CB (.bool b) ⟨A,C⟩:=YM h h1
theorem bE {b:Bool} {A C:Prop} (h1:b=false→C) (h:b=false:=by assumption) : @CB (.bool b) ⟨A,C⟩:=YN h h1
theorem bF {b:Bool} {A C:Prop} (h1:b=true→A) (h2:b=false→C) : @CB (.bool b) ⟨A,C⟩:=⟨h1,h2⟩
theorem aJ {a b:Prop} (x:a) (y:b):a∧b:=⟨x,y⟩
theorem bM {α:Type _} (a b:α):(some a=some b)=(a=b):=Option.some.injEq a b
theorem bN {α:Sort _} {p:α→Prop} {a:α} : (∃ x,a=x∧p x)↔p a:=exists_eq_left'
theorem lI {n m:Nat} (h:Nat.ble n m=true):n≤m:=Nat.le_of_ble_eq_true h
theorem aH {n m:Nat} {res:List (Nat×Option (Bool×Nat))} {d:D} {s':St} {e:Exit} {tm:Tm} {s:St} {Q:Exit→Tm→St→Prop} (hQ:hZ n m res d s'=Q) (h : ∃ l,aA res tm s=some l∧Wk ((aB l).fg n m) d∧gS (s.cut n m).az s'.az∧(s.cut n m).aC=s'.aC) (he:e = .ret∨e = .normal:=by first | exact .inl rfl | exact .inr rfl):Q e tm s:=by cases he with | inl x=>cases x;exact acj hQ h | inr x=>cases x;exact ack hQ h
theorem rH {p:Prop} (h:p:=by repeat' (first | exact Ok.out | with_reducible refine aJ ?_ ?_ | (simp;done))):p:=h
theorem bR {p:Prop} (h:p:=by repeat' (first | exact Ok.out | with_reducible refine aJ ?_ ?_)):p:=h
theorem lJ {p:Prop} (h:p:=by(try cases h);simp only [aA,aB,bM,bN,go_sem,hC,hE,hF,hM];repeat' (first | exact Ok.out | with_reducible refine aJ ?_ ?_ | (simp;done))):p:=h
theorem lX_ {p:Prop} (h:p:=by simp only [go_sem,hC,hE,hF,hM];repeat' (first | exact Ok.out | with_reducible refine aJ ?_ ?_)):p:=h
theorem dc {P:Program} {B:eU} {nt:Nat} {a:AC} {Q:Exit→Tm→St→Prop} {tm bK:Tm} {s:St} {jQ:List (List D)} (n m:Nat) (h:bw P B nt a Q bK ⟨jQ,(s.cut n m).aC⟩) (hn:B.s.az.length≤n:=by rw [hB];exact lI rfl) (hm:B.s.aC.length≤m:=by rw [hB];exact lI rfl) (ht:su tm n m bK:=by exact lX_) (ho:gS (s.cut n m).az jQ:=by exact lX_):bw P B nt a Q tm s:=bw.re bK jQ n m hn hm ht ho h
theorem dV {P:Program} {B:eU} {nt:Nat} {a:AC} {Q:Exit→Tm→St→Prop} {tm bK:Tm} {s:St} {jQ:List (List D)} (n m:Nat) (ht:su tm n m bK) (ho:gS (s.cut n m).az jQ) (h:bw P B nt a Q bK ⟨jQ,(s.cut n m).aC⟩) (hn:B.s.az.length≤n:=by rw [hB];exact lI rfl) (hm:B.s.aC.length≤m:=by rw [hB];exact lI rfl):bw P B nt a Q tm s:=bw.re bK jQ n m hn hm ht ho h
theorem bL:0<1∧0<1∧0<1∧0<1:=⟨Nat.zero_lt_one,Nat.zero_lt_one,Nat.zero_lt_one,Nat.zero_lt_one⟩
end Go.Abs

/-! Types -/

namespace Go.Abs
mutual
theorem LI (n m:Nat) : ∀ d,D.ok 0 0 d=true→D.fg n m d=d
 | .junk,_=>by simp [D.fg]
 | .int k n,_=>by simp [D.fg]
 | .bool b,_=>by simp [D.fg]
 | .str l,_=>by simp [D.fg]
 | .eM,_=>by simp [D.fg]
 | .val v,_=>by simp [D.fg]
 | .fc T o,h=>by simp [D.ok]at h
 | .fZ o,h=>by simp [D.ok]at h
 | .ga f cs,h=>by
  simp only [D.ok]at h
  simp only [D.fg,gT n m cs h]
 | .ptr o f,h=>by simp [D.ok]at h
 | .dD r f,h=>by
  simp only [D.ok]at h
  simp only [D.fg,gT n m r h]
 | .slice g z rows,h=>by
  simp only [D.ok,Bool.and_eq_true]at h
  simp only [D.fg,By n m rows h.2]
  cases g with
  | tok t y=>simp [Tag.ok]at h
  | full=>rfl
  | shared=>rfl
 | .agg cs,h=>by
  simp only [D.ok]at h
  simp only [D.fg,gT n m cs h]
 | .tuple cs,h=>by
  simp only [D.ok]at h
  simp only [D.fg,gT n m cs h]
theorem gT (n m:Nat) : ∀ l,D.bT 0 0 l=true→D.gE n m l=l
 | [],_=>by simp [D.gE]
 | d::r,h=>by
  simp only [D.bT,Bool.and_eq_true]at h
  simp only [D.gE,LI n m d h.1,gT n m r h.2]
theorem By (n m:Nat) : ∀ l,D.ja 0 0 l=true→D.jv n m l=l
 | [],_=>by simp [D.jv]
 | d::r,h=>by
  simp only [D.ja,Bool.and_eq_true]at h
  simp only [D.jv,gT n m d h.1,By n m r h.2]
end
theorem gB {α:Type} {f:α→List D} (h : ∀ x,D.bT 0 0 (f x)=true) (l:List α):D.ja 0 0 (l.map f)=true:=by
 simp [Bu,h]
theorem lY {α:Type} {f:α→List D} (h : ∀ x,D.bT 0 0 (f x)=true) (n m:Nat) (l:List α):D.jv n m (l.map f)=l.map f:=By n m _ (gB h l)
theorem I5 (n m:Nat) : ∀ a b,D.jv n m (a++b)=D.jv n m a++D.jv n m b
 | [],b=>by simp [D.jv]
 | x::a,b=>by simp [D.jv,I5 n m a b]
abbrev ay:=List UInt8
structure bA where
 kind:Int
 text:ay
 n:Int
 pos:Int
deriving DecidableEq
structure Ex where
 op:Int
 n:Int
 name:ay
 kids:List Ex
structure Ar where
 ref:Bool
 name:ay
 x:Ex
structure Sm where
 id:Int
 kind:Int
 labels:List ay
 name:ay
 proc:ay
 x:Ex
 has:Bool
 args:List Ar
 a7:List Sm
 aX:List Sm
structure Pm where
 name:ay
 ref:Bool
structure Pc where
 name:ay
 params:List Pm
 vars:List ay
 body:List Sm
 fin:List ay
structure Pg where
 globals:List ay
 procs:List Pc
def iG:Ex:=⟨0,0,[],[]⟩
def ar0:Ar:=⟨false,[],iG⟩
def DS:Sm:=⟨0,0,[],[],[],iG,false,[],[],[]⟩
def rI:Pg:=⟨[],[]⟩
def encStr (s:ay):List D:= [.str s]
def dU (t:bA):List D:= [.int .i64 t.kind, .str t.text, .int .i64 t.n, .int .i64 t.pos]
def sl (z:Nat) (rows:List (List D)):D:= .slice .shared z rows
mutual
def bC:Ex→List D
 | ⟨op,n,name,kids⟩=> [.int .i64 op, .int .i64 n, .str name, .slice .shared 4 (tn kids)]
def tn:List Ex→List (List D)
 | []=> []
 | x::l=>bC x::tn l
end
theorem DT : ∀ l,tn l=l.map bC
 | []=>by simp [tn]
 | x::l=>by simp [tn,DT l]
theorem ib (x:Ex):bC x = [.int .i64 x.op, .int .i64 x.n, .str x.name, .slice .shared 4 (x.kids.map bC)]:=by
 cases x;simp [bC,DT]
def ek (a:Ar):List D:= [.bool a.ref, .str a.name, .int .i64 a.x.op, .int .i64 a.x.n, .str a.x.name, .slice .shared 4 (a.x.kids.map bC)]
mutual
def bh:Sm→List D
 | ⟨id,kind,labels,name,proc,x,has,args,a7,aX⟩=> [.int .i64 id, .int .i64 kind, .slice .shared 1 (labels.map encStr), .str name, .str proc,
  .int .i64 x.op, .int .i64 x.n, .str x.name, .slice .shared 4 (x.kids.map bC), .bool has, .slice .shared 6 (args.map ek), .slice .shared 13 (rJ a7), .slice .shared 13 (rJ aX)]
def rJ:List Sm→List (List D)
 | []=> []
 | x::l=>bh x::rJ l
end
theorem DU : ∀ l,rJ l=l.map bh
 | []=>by simp [rJ]
 | x::l=>by simp [rJ,DU l]
theorem dt (s:Sm):bh s = [.int .i64 s.id, .int .i64 s.kind, .slice .shared 1 (s.labels.map encStr), .str s.name, .str s.proc,
 .int .i64 s.x.op, .int .i64 s.x.n, .str s.x.name, .slice .shared 4 (s.x.kids.map bC), .bool s.has, .slice .shared 6 (s.args.map ek), .slice .shared 13 (s.a7.map bh), .slice .shared 13 (s.aX.map bh)]:=by
 cases s;simp [bh,DU]
def ff (p:Pm):List D:= [.str p.name, .bool p.ref]
def cL (p:Pc):List D:= [.str p.name, .slice .shared 2 (p.params.map ff), .slice .shared 1 (p.vars.map encStr), .slice .shared 13 (p.body.map bh), .slice .shared 1 (p.fin.map encStr)]
def cB (p:Pg):List D:= [.slice .shared 1 (p.globals.map encStr), .slice .shared 5 (p.procs.map cL)]
theorem YR (x:bA):(dU x).length=4:=nd rfl
theorem WA (x:bA):List.take 4 (dU x)=dU x:=nd rfl
theorem WB (x:bA):List.drop 4 (dU x) = []:=nd rfl
theorem OE (x:bA):(dU x)[0]? = some (.int .i64 x.kind):=nd rfl
theorem OF (x:bA):(dU x)[1]? = some (.str x.text):=nd rfl
theorem OG (x:bA):(dU x)[2]? = some (.int .i64 x.n):=nd rfl
theorem OH (x:bA):(dU x)[3]? = some (.int .i64 x.pos):=nd rfl
theorem acs (Bz:Int) (UK:ay) (n_:Int) (YT:Int):dU ⟨Bz,UK,n_,YT⟩ = [.int .i64 Bz, .str UK, .int .i64 n_, .int .i64 YT]:=by simp only [dU]
theorem acu (x:Ex):(bC x).length=4:=by simp only [ib];rfl
theorem YU (x:Ex):List.take 4 (bC x)=bC x:=by simp only [ib];rfl
theorem YV (x:Ex):List.drop 4 (bC x) = []:=by simp only [ib];rfl
theorem RL (x:Ex):(bC x)[0]? = some (.int .i64 x.op):=by simp only [ib];rfl
theorem RM (x:Ex):(bC x)[1]? = some (.int .i64 x.n):=by simp only [ib];rfl
theorem RN (x:Ex):(bC x)[2]? = some (.str x.name):=by simp only [ib];rfl
theorem RO (x:Ex):(bC x)[3]? = some (.slice .shared 4 (x.kids.map bC)):=by simp only [ib];rfl
theorem afT (op_:Int) (n_:Int) (nA:ay) (UL:List Ex):bC ⟨op_,n_,nA,UL⟩ = [.int .i64 op_, .int .i64 n_, .str nA, .slice .shared 4 (UL.map bC)]:=by simp only [ib]
theorem acv (x:Ar):(ek x).length=6:=nd rfl
theorem YW (x:Ar):List.take 6 (ek x)=ek x:=nd rfl
theorem YX (x:Ar):List.drop 6 (ek x) = []:=nd rfl
theorem RP (x:Ar):(ek x)[0]? = some (.bool x.ref):=nd rfl
theorem RQ (x:Ar):(ek x)[1]? = some (.str x.name):=nd rfl
theorem RR (x:Ar):(ek x)[2]? = some (.int .i64 x.x.op):=nd rfl
theorem RS (x:Ar):(ek x)[3]? = some (.int .i64 x.x.n):=nd rfl
theorem RT (x:Ar):(ek x)[4]? = some (.str x.x.name):=nd rfl
theorem RU (x:Ar):(ek x)[5]? = some (.slice .shared 4 (x.x.kids.map bC)):=nd rfl
theorem RV (x:Ar):List.take 4 (List.drop 2 (ek x))=bC x.x:=by simp only [ek,ib];rfl
theorem afU (Gi:Bool) (nA:ay) (x_:Ex):ek ⟨Gi,nA,x_⟩ = [.bool Gi, .str nA, .int .i64 x_.op, .int .i64 x_.n, .str x_.name, .slice .shared 4 (x_.kids.map bC)]:=by simp only [ek]
theorem acw (x:Sm):(bh x).length=13:=by simp only [dt];rfl
theorem YY (x:Sm):List.take 13 (bh x)=bh x:=by simp only [dt];rfl
theorem YZ (x:Sm):List.drop 13 (bh x) = []:=by simp only [dt];rfl
theorem RW (x:Sm):(bh x)[0]? = some (.int .i64 x.id):=by simp only [dt];rfl
theorem RX (x:Sm):(bh x)[1]? = some (.int .i64 x.kind):=by simp only [dt];rfl
theorem RY (x:Sm):(bh x)[2]? = some (.slice .shared 1 (x.labels.map encStr)):=by simp only [dt];rfl
theorem RZ (x:Sm):(bh x)[3]? = some (.str x.name):=by simp only [dt];rfl
theorem R1 (x:Sm):(bh x)[4]? = some (.str x.proc):=by simp only [dt];rfl
theorem R3 (x:Sm):(bh x)[5]? = some (.int .i64 x.x.op):=by simp only [dt];rfl
theorem R4 (x:Sm):(bh x)[6]? = some (.int .i64 x.x.n):=by simp only [dt];rfl
theorem R5 (x:Sm):(bh x)[7]? = some (.str x.x.name):=by simp only [dt];rfl
theorem R6 (x:Sm):(bh x)[8]? = some (.slice .shared 4 (x.x.kids.map bC)):=by simp only [dt];rfl
theorem R7 (x:Sm):(bh x)[9]? = some (.bool x.has):=by simp only [dt];rfl
theorem OI (x:Sm):(bh x)[10]? = some (.slice .shared 6 (x.args.map ek)):=by simp only [dt];rfl
theorem OM (x:Sm):(bh x)[11]? = some (.slice .shared 13 (x.a7.map bh)):=by simp only [dt];rfl
theorem ON (x:Sm):(bh x)[12]? = some (.slice .shared 13 (x.aX.map bh)):=by simp only [dt];rfl
theorem R8 (x:Sm):List.take 4 (List.drop 5 (bh x))=bC x.x:=by simp only [dt,ib];rfl
theorem afV (id_:Int) (Bz:Int) (I6:List ay) (nA:ay) (UM:ay) (x_:Ex) (Y0:Bool) (UN:List Ar) (Y1:List Sm) (Y2:List Sm):bh ⟨id_,Bz,I6,nA,UM,x_,Y0,UN,Y1,Y2⟩ = [.int .i64 id_, .int .i64 Bz, .slice .shared 1 (I6.map encStr), .str nA, .str UM, .int .i64 x_.op, .int .i64 x_.n, .str x_.name, .slice .shared 4 (x_.kids.map bC), .bool Y0, .slice .shared 6 (UN.map ek), .slice .shared 13 (Y1.map bh), .slice .shared 13 (Y2.map bh)]:=by simp only [dt]
theorem acx (x:Pm):(ff x).length=2:=nd rfl
theorem Y3 (x:Pm):List.take 2 (ff x)=ff x:=nd rfl
theorem Y4 (x:Pm):List.drop 2 (ff x) = []:=nd rfl
theorem R9 (x:Pm):(ff x)[0]? = some (.str x.name):=nd rfl
theorem Sb (x:Pm):(ff x)[1]? = some (.bool x.ref):=nd rfl
theorem afW (nA:ay) (Gi:Bool):ff ⟨nA,Gi⟩ = [.str nA, .bool Gi]:=by simp only [ff]
theorem acy (x:Pc):(cL x).length=5:=nd rfl
theorem Y5 (x:Pc):List.take 5 (cL x)=cL x:=nd rfl
theorem Y6 (x:Pc):List.drop 5 (cL x) = []:=nd rfl
theorem Sc (x:Pc):(cL x)[0]? = some (.str x.name):=nd rfl
theorem Sd (x:Pc):(cL x)[1]? = some (.slice .shared 2 (x.params.map ff)):=nd rfl
theorem Se (x:Pc):(cL x)[2]? = some (.slice .shared 1 (x.vars.map encStr)):=nd rfl
theorem Sf (x:Pc):(cL x)[3]? = some (.slice .shared 13 (x.body.map bh)):=nd rfl
theorem Sg (x:Pc):(cL x)[4]? = some (.slice .shared 1 (x.fin.map encStr)):=nd rfl
theorem afX (nA:ay) (I7:List Pm) (UO:List ay) (UP:List Sm) (Y7:List ay):cL ⟨nA,I7,UO,UP,Y7⟩ = [.str nA, .slice .shared 2 (I7.map ff), .slice .shared 1 (UO.map encStr), .slice .shared 13 (UP.map bh), .slice .shared 1 (Y7.map encStr)]:=by simp only [cL]
theorem acz (x:Pg):(cB x).length=2:=nd rfl
theorem Y8 (x:Pg):List.take 2 (cB x)=cB x:=nd rfl
theorem Y9 (x:Pg):List.drop 2 (cB x) = []:=nd rfl
theorem Si (x:Pg):(cB x)[0]? = some (.slice .shared 1 (x.globals.map encStr)):=nd rfl
theorem Sj (x:Pg):(cB x)[1]? = some (.slice .shared 5 (x.procs.map cL)):=nd rfl
theorem afY (Gj:List ay) (OO:List Pc):cB ⟨Gj,OO⟩ = [.slice .shared 1 (Gj.map encStr), .slice .shared 5 (OO.map cL)]:=by simp only [cB]
attribute [go_sem] YR WA WB OE OF OG OH acs acu YU YV RL RM RN RO afT acv YW YX RP RQ RR RS RT RU RV afU acw YY YZ RW RX RY RZ R1 R3 R4 R5 R6 R7 OI OM ON R8 afV acx Y3 Y4 R9 Sb afW acy Y5 Y6 Sc Sd Se Sf Sg afX acz Y8 Y9 Si Sj afY
theorem BA (s:ay):D.bT 0 0 (encStr s)=true:=rfl
theorem Fb (t:bA):D.bT 0 0 (dU t)=true:=rfl
mutual
theorem gH : ∀ x,D.bT 0 0 (bC x)=true
 | ⟨op,n,name,kids⟩=>by simp [bC,D.bT,D.ok,Tag.ok,UQ kids]
theorem UQ : ∀ l,D.ja 0 0 (tn l)=true
 | []=>rfl
 | x::l=>by simp [tn,D.ja,gH x,UQ l]
end
theorem Gk (a:Ar):D.bT 0 0 (ek a)=true:=by simp [ek,D.bT,D.ok,Tag.ok,gB gH]
mutual
theorem mC : ∀ x,D.bT 0 0 (bh x)=true
 | ⟨id,kind,labels,name,proc,x,has,args,a7,aX⟩=>by simp [bh,D.bT,D.ok,Tag.ok,LJ a7,LJ aX,gB BA,gB gH,gB Gk]
theorem LJ : ∀ l,D.ja 0 0 (rJ l)=true
 | []=>rfl
 | x::l=>by simp [rJ,D.ja,mC x,LJ l]
end
theorem LK (p:Pm):D.bT 0 0 (ff p)=true:=rfl
theorem yI (p:Pc):D.bT 0 0 (cL p)=true:=by simp [cL,D.bT,D.ok,Tag.ok,gB LK,gB BA,gB mC]
theorem jC (p:Pg):D.bT 0 0 (cB p)=true:=by simp [cB,D.bT,D.ok,Tag.ok,gB BA,gB yI]
theorem Za (n m:Nat) (x:bA):D.gE n m (dU x)=dU x:=gT n m _ (Fb x)
theorem acA (n m:Nat) (x:Ex):D.gE n m (bC x)=bC x:=gT n m _ (gH x)
theorem acB (n m:Nat) (x:Ar):D.gE n m (ek x)=ek x:=gT n m _ (Gk x)
theorem acC (n m:Nat) (x:Sm):D.gE n m (bh x)=bh x:=gT n m _ (mC x)
theorem acD (n m:Nat) (x:Pm):D.gE n m (ff x)=ff x:=gT n m _ (LK x)
theorem acE (n m:Nat) (x:Pc):D.gE n m (cL x)=cL x:=gT n m _ (yI x)
theorem acF (n m:Nat) (x:Pg):D.gE n m (cB x)=cB x:=gT n m _ (jC x)
attribute [go_sem] Za acA acB acC acD acE acF
theorem eI (l:List ay):D.ja 0 0 (l.map encStr)=true:=gB BA l
theorem Gl (l:List bA):D.ja 0 0 (l.map dU)=true:=gB Fb l
theorem UR (l:List Ex):D.ja 0 0 (l.map bC)=true:=gB gH l
theorem Fc (l:List Ar):D.ja 0 0 (l.map ek)=true:=gB Gk l
theorem nB (l:List Sm):D.ja 0 0 (l.map bh)=true:=gB mC l
theorem LL (l:List Pm):D.ja 0 0 (l.map ff)=true:=gB LK l
theorem Fe (l:List Pc):D.ja 0 0 (l.map cL)=true:=gB yI l
theorem OP (n m:Nat) (l:List ay):D.jv n m (l.map encStr)=l.map encStr:=lY BA n m l
theorem lZ (n m:Nat) (l:List bA):D.jv n m (l.map dU)=l.map dU:=lY Fb n m l
theorem acG (n m:Nat) (l:List Ex):D.jv n m (l.map bC)=l.map bC:=lY gH n m l
theorem acH (n m:Nat) (l:List Ar):D.jv n m (l.map ek)=l.map ek:=lY Gk n m l
theorem acI (n m:Nat) (l:List Sm):D.jv n m (l.map bh)=l.map bh:=lY mC n m l
theorem acJ (n m:Nat) (l:List Pm):D.jv n m (l.map ff)=l.map ff:=lY LK n m l
theorem US (n m:Nat) (l:List Pc):D.jv n m (l.map cL)=l.map cL:=lY yI n m l
theorem Zb (x:Ex) (r:List D):bC x++r = .int .i64 x.op:: .int .i64 x.n:: .str x.name:: .slice .shared 4 (x.kids.map bC)::r:=by rw [ib];rfl
theorem WC (d:D) (x:Ex):d::bC x = [d, .int .i64 x.op, .int .i64 x.n, .str x.name, .slice .shared 4 (x.kids.map bC)]:=by rw [ib]
attribute [go_sem] Zb WC
theorem acK:((0:Nat):Int)=0:=nd rfl
theorem acL:((1:Nat):Int)=1:=nd rfl
theorem acM:((2:Nat):Int)=2:=nd rfl
attribute [go_sem] acK acL acM I5 List.length_append List.map_append encStr iG ar0 DS rI OP lZ acG acH acI acJ US
theorem mx (a b:Nat):(if(b:Int) > (a:Int)then(b:Int)else(a:Int))=((max a b:Nat):Int):=by split <;> omega
theorem dJ {x:Int} (h1 : -9223372036854775808≤x) (h2:x<9223372036854775808):IntKind.wrap .i64 x=x:=by
 rw [IntKind.wrap_i64];omega
@[go_sem] theorem aP {n:Nat} (h:n<4611686018427387904):IntKind.wrap .i64 ((n:Int)+1)=((n+1:Nat):Int):=by
 rw [dJ] <;> omega
def inc (n:Nat):Option Nat:=if n<4611686018427387904 then some (n+1)else none
theorem Gm {n k:Nat} (h:inc n=some k):IntKind.wrap .i64 ((n:Int)+1)=((n+1:Nat):Int)∧k=n+1:=by
 unfold inc at h
 split at h
 ·rename_i hn;cases h;exact⟨aP hn,rfl⟩
 ·cases h
def Gn (n:Int):Option Int:=if -4611686018427387904<n∧n<4611686018427387904 then some (n+1)else none
theorem DV {n k:Int} (h:Gn n=some k):IntKind.wrap .i64 (n+1)=n+1∧k=n+1:=by
 unfold Gn at h
 split at h
 ·rename_i hn;cases h;exact⟨dJ (by omega) (by omega),rfl⟩
 ·cases h
@[go_sem] theorem aeI {n:Nat} (h:n+1<4611686018427387904):IntKind.wrap .i64 ((n:Int)+1)=((n+1:Nat):Int):=by
 rw [dJ] <;> omega
@[go_sem] theorem aeJ {n:Nat} (h:n<4611686018427387904):IntKind.wrap .i64 ((n:Int)+2)=((n+2:Nat):Int):=by
 rw [dJ] <;> omega
def vo {α:Type} (l:List α) (i:Nat):Option α:=if i<4611686018427387904 then l[i]? else none
theorem uD {α:Type} {l:List α} {i:Nat} {x:α} (h:vo l i=some x):i<4611686018427387904∧l[i]? = some x:=by
 unfold vo at h
 split at h
 ·exact⟨‹_›,h⟩
 ·cases h
def push {α:Type} (k:Nat) (l:List α) (x:α):Option (List α):=if(l.length+1)*k≤bQ then some (l++ [x])else none
theorem fG {α:Type} {k:Nat} {l l':List α} {x:α} (h:push k l x=some l'):(l.length+1)*k≤bQ∧l'=l++ [x]:=by
 unfold push at h
 split at h
 ·cases h;exact⟨‹_›,rfl⟩
 ·cases h
end Go.Abs

/-! Mir -/

namespace Go.Abs
mutual
def Ex.size:Ex→Nat
 | ⟨_,_,_,kids⟩=>1+Ex.aR kids
def Ex.aR:List Ex→Nat
 | []=>0
 | x::l=>1+x.size+Ex.aR l
end
mutual
def Ex.depth:Ex→Nat
 | ⟨_,_,_,kids⟩=>Ex.fS kids+1
def Ex.fS:List Ex→Nat
 | []=>0
 | x::l=>max x.depth (Ex.fS l)
end
def yJ (x:Ex):Option Int:=if x.size<4611686018427387904 then some (x.depth:Int)else none
theorem Ex.cd {x:Ex} : ∀ {l:List Ex},x∈l→x.size<Ex.aR l
 | y::l,h=>by
  simp only [Ex.aR]
  rcases List.mem_cons.1 h with rfl | h
  ·omega
  ·have:=Ex.cd h;omega
theorem Ex.c9 : ∀ (l:List Ex),l.length≤Ex.aR l
 | []=>Nat.le_refl _
 | x::l=>by simp only [Ex.aR,List.length_cons];have:=Ex.c9 l;omega
theorem Ex.LM : ∀ (n:Nat) (x:Ex),x.size≤n→x.depth≤x.size:=by
 intro n
 induction n with
 | zero=>intro x h;cases x;simp only [Ex.size]at h;omega
 | succ n ih=>
  rintro⟨op,m,name,kids⟩ h
  simp only [Ex.size,Ex.depth]at h ⊢
  have : ∀ l:List Ex,Ex.aR l≤n→Ex.fS l≤Ex.aR l:=by
   intro l
   induction l with
   | nil=>intro _;simp [Ex.fS]
   | cons x l Zc=>
    intro h
    simp only [Ex.aR,Ex.fS]at h ⊢
    have:=ih x (by omega)
    have:=Zc (by omega)
    omega
  have:=this kids (by omega)
  omega
def fw (t:bA):Int×Int:=
 if t.kind != 4 then(0,0)
 else if t.text == [124,124]then(17,1)
 else if t.text == [38,38]then(16,2)
 else if t.text == [61,61]then(14,3)
 else if t.text == [33,61]then(15,3)
 else if t.text == [60]then(10,4)
 else if t.text == [60,61]then(11,4)
 else if t.text == [62]then(12,4)
 else if t.text == [62,61]then(13,4)
 else if t.text == [43]then(8,5)
 else if t.text == [45]then(9,5)
 else if t.text == [42]then(5,6)
 else if t.text == [47]then(6,6)
 else if t.text == [37]then(7,6)
 else(0,0)
structure Rd where
 l:List bA
 i:Nat
 code:Int
 jk:Int
 n:Nat
abbrev Rd.good (r:Rd):Bool:=r.code==0
def Rd.gi (r:Rd):Option bA:=(vo r.l r.i).bind fun t=>if decide (0≤t.kind) && decide (t.kind≤4)then some t else none
theorem mD {r:Rd} {t:bA} (h:r.gi=some t):r.i<4611686018427387904∧r.l[r.i]? = some t∧0≤t.kind∧t.kind≤4:=by
 unfold Rd.gi at h
 rw [Option.bind_eq_some_iff]at h
 obtain⟨u,h1,h⟩:=h
 obtain⟨g1,g2⟩:=uD h1
 by_cases hk:(decide (0≤u.kind) && decide (u.kind≤4))=true
 ·rw [if_pos hk]at h
  cases h
  simp only [Bool.and_eq_true,decide_eq_true_eq]at hk
  exact⟨g1,g2,hk.1,hk.2⟩
 ·rw [if_neg hk]at h;cases h
def Rd.bad (c:Int) (r:Rd):Option Rd:=if r.good then r.gi.bind fun t=>some {r with code:=c,jk:=t.pos}else some r
def Rd.is (text:ay) (r:Rd):Option Bool:=r.gi.bind fun t=>some ((t.kind==3 || t.kind==4) && t.text==text)
def Rd.take (text:ay) (r:Rd):Option (Bool×Rd):=
 if !r.good then some (false,r)else(r.is text).bind fun b=>if !b then some (false,r)else some (true,{r with i:=r.i+1})
def Rd.want (text:ay) (r:Rd):Option Rd:=(r.take text).bind fun p=>if !p.1 then p.2.bad 3 else some p.2
def Rd.name (room:Bool) (r:Rd):Option (ay×Rd):=
 r.gi.bind fun t=>if !r.good || t.kind != 1 then(r.bad 3).bind fun r=>some ([],r)else if !room then(r.bad 4).bind fun r=>some ([],r)else some (t.text,{r with i:=r.i+1})
def Rd.on (r:Rd):Rd:= {r with i:=r.i+1}
mutual
def Rd.one:Nat→Rd→Option (Ex×Rd)
 | 0,_=>none
 | n+1,r=>r.gi.bind fun t=>
  if !r.good then some (iG,r)
  else if t.kind==2 then some (⟨1,t.n,[],[]⟩,{r with i:=r.i+1})
  else if t.kind==1 then some (⟨2,0,t.text,[]⟩,{r with i:=r.i+1})
  else(r.take [40]).bind fun p=>
   if p.1 then(Rd.two n 1 p.2).bind fun x=>(x.2.want [41]).bind fun r=>some (x.1,r)
   else(p.2.take [45]).bind fun p=>
    if p.1 then(Rd.one n p.2).bind fun x=>some (⟨3,0,[],[x.1]⟩,x.2)
    else(p.2.take [33]).bind fun p=>
     if p.1 then(Rd.one n p.2).bind fun x=>some (⟨4,0,[],[x.1]⟩,x.2)
     else(p.2.bad 3).bind fun r=>some (iG,r)
def Rd.two:Nat→Int→Rd→Option (Ex×Rd)
 | 0,_,_=>none
 | n+1,least,r=>(Rd.one n r).bind fun x=>Rd.jD n least x.1 x.2
def Rd.jD:Nat→Int→Ex→Rd→Option (Ex×Rd)
 | 0,_,_,_=>none
 | n+1,least,x,r=>
  if r.good then r.gi.bind fun t=>
   if decide ((fw t).2<least) || (fw t).1==0 then some (x,r)
   else(Rd.two n ((fw t).2+1) {r with i:=r.i+1}).bind fun y=>Rd.jD n least ⟨(fw t).1,0,[],[x,y.1]⟩ y.2
  else some (x,r)
end
def Rd.whole (n:Nat) (r:Rd):Option (Ex×Rd):=
 r.gi.bind fun t=>(Rd.two n 1 r).bind fun x=>
  if x.2.good then(yJ x.1).bind fun d=>if decide (d > 20)then some (x.1,{x.2 with code:=4,jk:=t.pos})else some (x.1,x.2)
  else some (x.1,x.2)
def Rd.names:Nat→List ay→Int→Rd→Option (List ay×Rd)
 | 0,_,_,_=>none
 | n+1,l,dL,r=>
  if r.good then(r.name (decide ((l.length:Int)<dL))).bind fun p=>(push 17 l p.1).bind fun l=>(p.2.take [44]).bind fun q=>
   if !q.1 then(q.2.want [59]).bind fun r=>some (l,r)else Rd.names n l dL q.2
  else some (l,r)
def Rd.ahead (sign:ay) (r:Rd):Option Bool:=
 if r.good then r.gi.bind fun t=>if t.kind==1 then(vo r.l (r.i+1)).bind fun u=>some (u.kind==4 && u.text==sign)else some false
 else some false
def Rd.labels:Nat→List ay→Rd→Option (List ay×Rd)
 | 0,_,_=>none
 | n+1,l,r=>(r.ahead [58]).bind fun b=>if b then r.gi.bind fun t=>(push 17 l t.text).bind fun l=>Rd.labels n l {r with i:=r.i+2}else some (l,r)
def Rd.nT (r:Rd):Option Bool:=
 r.gi.bind fun t=>some (if t.kind==1 then true else if t.kind != 3 then false
  else t.text == [105,102] || t.text == [119,104,105,108,101] || t.text == [98,114,101,97,107] || t.text == [99,111,110,116,105,110,117,101] || t.text == [114,101,116,117,114,110] || t.text == [103,111,116,111] || t.text == [114,101,97,100] || t.text == [112,114,105,110,116])
def Rd.jx (m:Nat):Nat→List Ar→Rd→Option (List Ar×Rd)
 | 0,_,_=>none
 | n+1,l,r=>
  if r.good then(r.take [114,101,102]).bind fun p=>
   if p.1 then(p.2.name true).bind fun x=>(push 81 l ⟨true,x.1,iG⟩).bind fun l=>(x.2.take [44]).bind fun c=>if !c.1 then some (l,c.2)else Rd.jx m n l c.2
   else(Rd.whole m p.2).bind fun x=>(push 81 l ⟨false,[],x.1⟩).bind fun l=>(x.2.take [44]).bind fun c=>if !c.1 then some (l,c.2)else Rd.jx m n l c.2
  else some (l,r)
def Rd.other (sign:ay) (r:Rd):Option Bool:=if r.good then(r.is sign).bind fun b=>some !b else some false
def Rd.call (m:Nat) (name proc:ay) (r:Rd):Option (Sm×Rd):=
 (r.want [40]).bind fun r=>(r.other [41]).bind fun b=>
  if b then(Rd.jx m m [] r).bind fun q=>(q.2.want [41]).bind fun r=>(r.want [59]).bind fun r=>some (⟨0,4,[],name,proc,iG,false,q.1,[],[]⟩,r)
  else(r.want [41]).bind fun r=>(r.want [59]).bind fun r=>some (⟨0,4,[],name,proc,iG,false,[],[],[]⟩,r)
def Rd.named (m:Nat) (r:Rd):Option (Sm×Rd):=
 (r.name true).bind fun x=>(x.2.is [40]).bind fun b=>
  if b then Rd.call m [] x.1 x.2
  else(x.2.want [61]).bind fun r=>(r.ahead [40]).bind fun b=>
   if b then(r.name true).bind fun y=>Rd.call m x.1 y.1 y.2
   else(Rd.whole m r).bind fun y=>(y.2.want [59]).bind fun r=>some (⟨0,1,[],x.1,[],y.1,false,[],[],[]⟩,r)
def Rd.plain (m:Nat) (word:ay) (r:Rd):Option (Sm×Rd):=
 if word == [98,114,101,97,107]then some (⟨0,7,[],[],[],iG,false,[],[],[]⟩,r)
 else if word == [99,111,110,116,105,110,117,101]then some (⟨0,8,[],[],[],iG,false,[],[],[]⟩,r)
 else if word == [114,101,116,117,114,110]then(r.is [59]).bind fun b=>
  if !b then(Rd.whole m r).bind fun x=>some (⟨0,9,[],[],[],x.1,true,[],[],[]⟩,x.2)else some (⟨0,9,[],[],[],iG,false,[],[],[]⟩,r)
 else if word == [103,111,116,111]then(r.name true).bind fun x=>some (⟨0,10,[],x.1,[],iG,false,[],[],[]⟩,x.2)
 else if word == [114,101,97,100]then(r.name true).bind fun x=>some (⟨0,2,[],x.1,[],iG,false,[],[],[]⟩,x.2)
 else if word == [112,114,105,110,116]then(Rd.whole m r).bind fun x=>some (⟨0,3,[],[],[],x.1,false,[],[],[]⟩,x.2)
 else some (DS,r)
def Rd.head (m:Nat) (r:Rd):Option (Ex×Rd):=(r.want [40]).bind fun r=>(Rd.whole m r).bind fun x=>(x.2.want [41]).bind fun r=>some (x.1,r)
mutual
def Rd.rows (m:Nat):Nat→Int→Bool→Rd→Option ((List Sm×List ay)×Rd)
 | 0,_,_,_=>none
 | n+1,nest,body,r=>Rd.fE m n nest body [] r
def Rd.fE (m:Nat):Nat→Int→Bool→List Sm→Rd→Option ((List Sm×List ay)×Rd)
 | 0,_,_,_,_=>none
 | n+1,nest,body,out,r=>
  if r.good then(Rd.labels m [] r).bind fun l=>(l.2.is [125]).bind fun b=>
   if b && (body || (l.1.length:Int)==0)then some ((out,l.1),{l.2 with i:=l.2.i+1})
   else(Rd.stmt m n nest l.2).bind fun s=>(push 209 out {s.1 with labels:=l.1}).bind fun out=>Rd.fE m n nest body out s.2
  else some (([],[]),r)
def Rd.stmt (m:Nat):Nat→Int→Rd→Option (Sm×Rd)
 | 0,_,_=>none
 | n+1,nest,r=>r.nT.bind fun b=>
  if !b then(r.bad 3).bind fun r=>some (DS,r)
  else(inc r.n).bind fun k=>
   if decide ((k:Int) > 200) || decide (nest > 12)then(({r with n:=k} : Rd).bad 4).bind fun r=>some (DS,r)
   else({r with n:=k} : Rd).gi.bind fun t=>
    if t.kind==1 then Rd.named m {r with n:=k}
    else if t.text == [105,102]then Rd.choice m n nest {r with n:=k,i:=r.i+1}
    else if t.text == [119,104,105,108,101]then(Rd.head m {r with n:=k,i:=r.i+1}).bind fun x=>(Rd.block m n nest x.2).bind fun b=>some (⟨0,6,[],[],[],x.1,false,[],b.1,[]⟩,b.2)
    else(Rd.plain m t.text {r with n:=k,i:=r.i+1}).bind fun s=>(s.2.want [59]).bind fun r=>some (s.1,r)
def Rd.block (m:Nat):Nat→Int→Rd→Option (List Sm×Rd)
 | 0,_,_=>none
 | n+1,nest,r=>(r.want [123]).bind fun r=>(Gn nest).bind fun k=>(Rd.rows m n k false r).bind fun p=>some (p.1.1,p.2)
def Rd.choice (m:Nat):Nat→Int→Rd→Option (Sm×Rd)
 | 0,_,_=>none
 | n+1,nest,r=>(Rd.head m r).bind fun x=>(Rd.block m n nest x.2).bind fun t=>(t.2.take [101,108,115,101]).bind fun q=>
  if q.1 then(Rd.block m n nest q.2).bind fun e=>some (⟨0,5,[],[],[],x.1,false,[],t.1,e.1⟩,e.2)
  else some (⟨0,5,[],[],[],x.1,false,[],t.1,[]⟩,q.2)
end
def Rd.params:Nat→List Pm→Rd→Option (List Pm×Rd)
 | 0,_,_=>none
 | n+1,l,r=>
  if r.good then(r.take [114,101,102]).bind fun q=>(q.2.name (decide ((l.length:Int)<8))).bind fun x=>(push 25 l ⟨x.1,q.1⟩).bind fun l=>(x.2.take [44]).bind fun c=>
   if !c.1 then some (l,c.2)else Rd.params n l c.2
  else some (l,r)
def Rd.vars (m:Nat):Nat→List ay→Rd→Option (List ay×Rd)
 | 0,_,_=>none
 | n+1,l,r=>(r.take [118,97,114]).bind fun q=>if q.1 then(Rd.names m l 16 q.2).bind fun x=>Rd.vars m n x.1 x.2 else some (l,q.2)
def Rd.lQ (m:Nat) (name:ay) (ps:List Pm) (r:Rd):Option (Pc×Rd):=
 (Rd.vars m m [] r).bind fun v=>(Rd.rows m m 1 true v.2).bind fun b=>some (⟨name,ps,v.1,b.1.1,b.1.2⟩,b.2)
def Rd.proc (m:Nat) (r:Rd):Option (Pc×Rd):=
 (r.name true).bind fun x=>(x.2.want [40]).bind fun r=>(r.other [41]).bind fun b=>
  if b then(Rd.params m [] r).bind fun q=>(q.2.want [41]).bind fun r=>(r.want [123]).bind fun r=>Rd.lQ m x.1 q.1 r
  else(r.want [41]).bind fun r=>(r.want [123]).bind fun r=>Rd.lQ m x.1 [] r
def Rd.globals (m:Nat):Nat→List ay→Rd→Option (List ay×Rd)
 | 0,_,_=>none
 | n+1,l,r=>(r.take [103,108,111,98,97,108]).bind fun q=>if q.1 then(Rd.names m l 16 q.2).bind fun x=>Rd.globals m n x.1 x.2 else some (l,q.2)
def Rd.rK (r:Rd):Option Bool:=if r.good then r.is [112,114,111,99]else some false
def Rd.oK (r:Rd):Option Bool:=if r.good then r.gi.bind fun t=>some (t.kind != 0)else some false
def Rd.procs (m:Nat):Nat→List Pc→Rd→Option (List Pc×Rd)
 | 0,_,_=>none
 | n+1,l,r=>r.rK.bind fun b=>
  if b then
   if(l.length:Int)==16 then(r.bad 4).bind fun r=>some (l,r)
   else(Rd.proc m {r with i:=r.i+1}).bind fun x=>(push 113 l x.1).bind fun l=>Rd.procs m n l x.2
  else r.oK.bind fun b=>if b then(r.bad 3).bind fun r=>some (l,r)else some (l,r)
def Rd.program (m:Nat) (r:Rd):Option (Pg×Rd):=(Rd.globals m m [] r).bind fun g=>(Rd.procs m m [] g.2).bind fun q=>some (⟨g.1,q.1⟩,q.2)
mutual
def Ex.beq:Ex→Ex→Bool
 | ⟨op,n,name,kids⟩,⟨UT,n',o4,sK⟩=>if op != UT || n != n' || !(name==o4) || (kids.length:Int) != (sK.length:Int)then false else Ex.fa kids sK
def Ex.fa:List Ex→List Ex→Bool
 | [],_=>true
 | _::_,[]=>true
 | x::l,y::l'=>if !Ex.beq x y then false else Ex.fa l l'
end
mutual
theorem Ex.beq_refl : ∀ x:Ex,Ex.beq x x=true
 | ⟨op,n,name,kids⟩=>by simp [Ex.beq,Ex.fH kids]
theorem Ex.fH : ∀ l:List Ex,Ex.fa l l=true
 | []=>rfl
 | x::l=>by simp [Ex.fa,Ex.beq_refl x,Ex.fH l]
end
end Go.Abs

/-! MirTree -/

namespace Go.Abs
def Ar.aR:List Ar→Nat
 | []=>0
 | a::l=>1+a.x.size+Ar.aR l
mutual
def Sm.size:Sm→Nat
 | ⟨_,_,labels,_,_,x,_,args,a7,aX⟩=>1+labels.length+x.size+Ar.aR args+Sm.aR a7+Sm.aR aX
def Sm.aR:List Sm→Nat
 | []=>0
 | s::l=>1+s.size+Sm.aR l
end
def Pc.size (f:Pc):Nat:=1+f.params.length+f.vars.length+f.fin.length+Sm.aR f.body
def Pc.aR:List Pc→Nat
 | []=>0
 | f::l=>1+f.size+Pc.aR l
def Pg.size (p:Pg):Nat:=1+p.globals.length+Pc.aR p.procs
mutual
def Sm.num (b:Bool) (n:Nat):Sm→Sm×Nat
 | ⟨id,kind,labels,name,proc,x,has,args,a7,aX⟩=>
  (⟨if b then((n+1:Nat):Int)else id,kind,labels,name,proc,x,has,args,(Sm.cR b (n+1) a7).1,(Sm.cR b (Sm.cR b (n+1) a7).2 aX).1⟩,(Sm.cR b (Sm.cR b (n+1) a7).2 aX).2)
def Sm.cR (b:Bool) (n:Nat):List Sm→List Sm×Nat
 | []=>([],n)
 | s::l=>((Sm.num b n s).1::(Sm.cR b (Sm.num b n s).2 l).1,(Sm.cR b (Sm.num b n s).2 l).2)
end
def Pc.cR (n:Nat):List Pc→List Pc
 | []=> []
 | f::l=> {f with body:=(Sm.cR true n f.body).1}::Pc.cR (Sm.cR true n f.body).2 l
def Pg.number (p:Pg):Pg:= {p with procs:=Pc.cR 0 p.procs}
def Pg.vV (p:Pg):Option Pg:=if p.size<1073741824 then some p.number else none
mutual
theorem Sm.Zd (b:Bool) (n:Nat) : ∀ s:Sm,(Sm.num b n s).2≤n+s.size
 | ⟨id,kind,labels,name,proc,x,has,args,a7,aX⟩=>by
  simp only [Sm.num,Sm.size]
  have h1:=Sm.s3 b (n+1) a7
  have h2:=Sm.s3 b (Sm.cR b (n+1) a7).2 aX
  omega
theorem Sm.s3 (b:Bool) (n:Nat) : ∀ l:List Sm,(Sm.cR b n l).2≤n+Sm.aR l
 | []=>by simp [Sm.cR,Sm.aR]
 | s::l=>by
  simp only [Sm.cR,Sm.aR]
  have h1:=Sm.Zd b n s
  have h2:=Sm.s3 b (Sm.num b n s).2 l
  omega
end
theorem Sm.c9 : ∀ (l:List Sm),l.length≤Sm.aR l
 | []=>Nat.le_refl _
 | x::l=>by simp only [Sm.aR,List.length_cons];have:=Sm.c9 l;omega
theorem Ar.c9 : ∀ (l:List Ar),l.length≤Ar.aR l
 | []=>Nat.le_refl _
 | x::l=>by simp only [Ar.aR,List.length_cons];have:=Ar.c9 l;omega
theorem Pc.c9 : ∀ (l:List Pc),l.length≤Pc.aR l
 | []=>Nat.le_refl _
 | x::l=>by simp only [Pc.aR,List.length_cons];have:=Pc.c9 l;omega
theorem Ar.cd {x:Ar} : ∀ {l:List Ar},x∈l→x.x.size<Ar.aR l
 | y::l,h=>by
  simp only [Ar.aR]
  rcases List.mem_cons.1 h with rfl | h
  ·omega
  ·have:=Ar.cd h;omega
theorem Sm.cd {x:Sm} : ∀ {l:List Sm},x∈l→x.size<Sm.aR l
 | y::l,h=>by
  simp only [Sm.aR]
  rcases List.mem_cons.1 h with rfl | h
  ·omega
  ·have:=Sm.cd h;omega
theorem Pc.cd {x:Pc} : ∀ {l:List Pc},x∈l→x.size<Pc.aR l
 | y::l,h=>by
  simp only [Pc.aR]
  rcases List.mem_cons.1 h with rfl | h
  ·omega
  ·have:=Pc.cd h;omega
theorem Sm.Gp (b:Bool) (n:Nat) : ∀ l:List Sm,(Sm.cR b n l).1.length=l.length
 | []=>rfl
 | s::l=>by simp only [Sm.cR,List.length_cons,Sm.Gp b _ l]
end Go.Abs

/-! Cnt -/

namespace Go.Abs
mutual
def Sm.fI:Sm→Nat
 | ⟨_,_,_,_,_,_,_,_,a7,aX⟩=>1+Sm.dB a7+Sm.dB aX
def Sm.dB:List Sm→Nat
 | []=>0
 | s::l=>s.fI+Sm.dB l
end
end Go.Abs

/-! MirFlat -/

namespace Go.Abs
structure Im where
 s:Sm
 proc:Int
 up:Int
 next:Int
 loop:Int
mutual
def Im.one (proc up next loop:Int) (out:List Im):Sm→List Im
 | ⟨id,kind,labels,name,pc,x,has,args,a7,aX⟩=>
  Im.rows proc ((out.length:Int)+1) (if kind==6 then(out.length:Int)+1 else next) (if kind==6 then(out.length:Int)+1 else loop)
   (Im.rows proc ((out.length:Int)+1) (if kind==6 then(out.length:Int)+1 else next) (if kind==6 then(out.length:Int)+1 else loop) (out++ [⟨⟨id,kind,labels,name,pc,x,has,args,a7,aX⟩,proc,up,next,loop⟩]) a7) aX
def Im.rows (proc up next loop:Int) (out:List Im):List Sm→List Im
 | []=>out
 | s::l=>Im.rows proc up next loop (Im.one proc up (if l.length=0 then next else(out.length:Int)+1+(s.fI:Int)) loop out s) l
end
theorem Im.Ze (proc up next loop:Int) (out:List Im) (s:Sm):Im.one proc up next loop out s =
 Im.rows proc ((out.length:Int)+1) (if s.kind==6 then(out.length:Int)+1 else next) (if s.kind==6 then(out.length:Int)+1 else loop)
  (Im.rows proc ((out.length:Int)+1) (if s.kind==6 then(out.length:Int)+1 else next) (if s.kind==6 then(out.length:Int)+1 else loop) (out++ [⟨s,proc,up,next,loop⟩]) s.a7) s.aX:=by
 cases s;simp only [Im.one]
mutual
theorem WD (proc up next loop:Int) (out:List Im) : ∀ s:Sm,(Im.one proc up next loop out s).length=out.length+s.fI
 | ⟨id,kind,labels,name,pc,x,has,args,a7,aX⟩=>by
  simp only [Im.one,Sm.fI]
  rw [fM,fM]
  simp only [List.length_append,List.length_cons,List.length_nil];omega
theorem fM (proc up next loop:Int) (out:List Im) : ∀ l:List Sm,(Im.rows proc up next loop out l).length=out.length+Sm.dB l
 | []=>rfl
 | s::l=>by
  simp only [Im.rows,Sm.dB]
  rw [fM,WD];omega
end
mutual
theorem AG : ∀ s:Sm,s.fI≤s.size
 | ⟨_,_,labels,_,_,x,_,args,a7,aX⟩=>by
  have:=jZ a7;have:=jZ aX
  simp only [Sm.fI,Sm.size];omega
theorem jZ : ∀ l:List Sm,Sm.dB l≤Sm.aR l
 | []=>Nat.le_refl _
 | s::l=>by
  have:=AG s;have:=jZ l
  simp only [Sm.dB,Sm.aR];omega
end
structure Sh where
 L:List Im
 lo:List Int
 hi:List Int
def Sh.go (i:Nat) (h:Sh):List Pc→Sh
 | []=>h
 | f::l=>Sh.go (i+1) ⟨Im.rows i 0 (-1) 0 h.L f.body,h.lo++ [(h.L.length:Int)+1],h.hi++ [((Im.rows i 0 (-1) 0 h.L f.body).length:Int)+1]⟩ l
def Pg.eL (p:Pg):Sh:=Sh.go 0 ⟨[],[],[]⟩ p.procs
end Go.Abs

/-! Nums -/

namespace Go.Abs
def Sk:Nat:=3
def QF:Nat:=4
def OQ:Nat:=5
def rL:Nat:=6
def QG:Nat:=7
def QH:Nat:=8
def QI:Nat:=9
def QJ:Nat:=10
def QK:Nat:=11
def pX:Nat:=12
def abx:Nat:=13
def mZ:Nat:=14
def acN:Nat:=15
def q9:Nat:=16
def Zf:Nat:=17
def wZ:Nat:=18
def pY:Nat:=19
def aby:Nat:=20
def pC:Nat:=21
def sL:Nat:=22
def kV:Nat:=23
def o5:Nat:=24
def tp:Nat:=25
def r8:Nat:=26
def o6:Nat:=27
def mE:Nat:=28
def abz:Nat:=29
def abA:Nat:=30
def abB:Nat:=31
def acO:Nat:=32
def tq:Nat:=33
def XQ:Nat:=34
def abC:Nat:=35
def acP:Nat:=36
def abD:Nat:=37
def acQ:Nat:=38
def aeK:Nat:=39
def abE:Nat:=40
def XR:Nat:=41
def Zg:Nat:=42
def Zh:Nat:=43
def r9:Nat:=44
def vq:Nat:=45
def QL:Nat:=46
def Sl:Nat:=47
def QM:Nat:=48
def Zi:Nat:=49
def Zj:Nat:=50
def Zk:Nat:=51
def UU:Nat:=52
def Zl:Nat:=53
def kl:Nat:=54
def km:Nat:=55
def l5:Nat:=56
def jl:Nat:=57
def ie:Nat:=58
def mT:Nat:=59
def ld:Nat:=60
def vr:Nat:=61
def fl:Nat:=62
def nC:Nat:=63
def b7:Nat:=64
def fT:Nat:=65
def o7:Nat:=66
def tr:Nat:=67
def pZ:Nat:=68
def oL:Nat:=69
def tt:Nat:=70
def p6:Nat:=71
def qN:Nat:=72
def yK:Nat:=73
def lx:Nat:=74
def o8:Nat:=75
def nU:Nat:=76
def uE:Nat:=77
def sM:Nat:=78
def Sn:Nat:=79
def Zm:Nat:=80
def AH:Nat:=81
def XS:Nat:=82
def abF:Nat:=83
def abG:Nat:=84
def acR:Nat:=85
def jm:Nat:=86
def UW:Nat:=87
def abH:Nat:=88
def WE:Nat:=89
def UX:Nat:=90
def acS:Nat:=91
def abI:Nat:=92
def abJ:Nat:=93
def abK:Nat:=94
def p7:Nat:=95
def j7:Nat:=96
def sN:Nat:=97
def Sp:Nat:=98
def Zn:Nat:=99
def Zo:Nat:=100
def Zp:Nat:=101
def abL:Nat:=102
def UY:Nat:=103
def XT:Nat:=104
def XU:Nat:=105
def Zq:Nat:=106
def acT:Nat:=107
def XV:Nat:=108
def XW:Nat:=109
def abM:Nat:=110
def abN:Nat:=111
def XX:Nat:=112
def XY:Nat:=113
def XZ:Nat:=114
def p8:Nat:=115
def sa:Nat:=116
def iU:Nat:=117
def jS:Nat:=118
def p9:Nat:=119
def tu:Nat:=120
def tv:Nat:=121
def qa:Nat:=122
def sb:Nat:=123
def vt:Nat:=124
def lR:Nat:=125
def iw:Nat:=126
def iK:Nat:=127
def oM:Nat:=128
def w7:Nat:=129
def tw:Nat:=130
def di:Nat:=131
def ix:Nat:=132
def cr:Nat:=133
def eW:Nat:=134
def ew:Nat:=135
def ng:Nat:=136
def dj:Nat:=137
def gb:Nat:=138
def kx:Nat:=139
def jE:Nat:=140
def UZ:Nat:=141
def Ir:Nat:=142
def Zr:Nat:=143
def Zs:Nat:=144
def acU:Nat:=145
def WG:Nat:=146
def abO:Nat:=147
def tx:Nat:=148
def j8:Nat:=149
def BB:Nat:=150
def abP:Nat:=151
def WH:Nat:=152
def Zt:Nat:=153
def Zu:Nat:=154
def X0:Nat:=155
def CP:Nat:=156
def jF:Nat:=157
def nV:Nat:=158
def qb:Nat:=159
def sc:Nat:=160
def ly:Nat:=161
def qc:Nat:=162
def fU:Nat:=163
def nD:Nat:=164
def sd:Nat:=165
def fu:Nat:=166
def kI:Nat:=167
def BD:Nat:=168
def U0:Nat:=169
def dY:Nat:=170
def cM:Nat:=171
def fN:Nat:=172
def lz:Nat:=173
def n8:Nat:=174
def Is:Nat:=175
def U1:Nat:=176
def qd:Nat:=177
def tz:Nat:=178
def vu:Nat:=179
def ra:Nat:=180
def w8:Nat:=181
def abQ:Nat:=182
def abR:Nat:=183
def X1:Nat:=184
def X2:Nat:=185
def abS:Nat:=186
def Zv:Nat:=187
def abT:Nat:=188
def EL:Nat:=189
def n9:Nat:=190
def vv:Nat:=191
def gZ:Nat:=192
def yL:Nat:=193
def A6:Nat:=194
def yM:Nat:=195
def zH:Nat:=196
def zr:Nat:=197
def vJ:Nat:=198
def QN:Nat:=199
def x9:Nat:=200
def AJ:Nat:=201
def QO:Nat:=202
def QP:Nat:=203
def l6:Nat:=204
def nh:Nat:=205
def oN:Nat:=206
def oO:Nat:=207
def X3:Nat:=208
def tA:Nat:=209
def tB:Nat:=210
def acV:Nat:=211
def acW:Nat:=212
def abU:Nat:=213
def abV:Nat:=214
def Zw:Nat:=215
def U2:Nat:=216
def X4:Nat:=217
def WI:Nat:=218
def oP:Nat:=219
def A7:Nat:=220
def HS:Nat:=221
def Iu:Nat:=222
def ya:Nat:=223
def Cw:Nat:=224
def OR:Nat:=225
def l7:Nat:=226
def mF:Nat:=227
def l8:Nat:=228
def kJ:Nat:=229
def iy:Nat:=230
def mH:Nat:=231
def X5:Nat:=232
def Zx:Nat:=233
def EM:Nat:=234
def CQ:Nat:=235
def WJ:Nat:=236
def vw:Nat:=237
def Cx:Nat:=238
def kK:Nat:=239
def fx:Nat:=240
def X6:Nat:=241
def ig:Nat:=242
def kW:Nat:=243
def jn:Nat:=244
def sO:Nat:=245
end Go.Abs

/-! Codes0 -/

namespace Go.Abs
abbrev AI.o (t:Nat) (a:AO):AI:= .op (some t) none a
abbrev AI.g (t c:Nat) (b:Bool) (a:AO):AI:= .op (some t) (some (c,b)) a
abbrev AI.c (t f:Nat) (l:List X):AI:= .call (some t) none f l
abbrev AI.d (t c:Nat) (b:Bool) (f:Nat) (l:List X):AI:= .call (some t) (some (c,b)) f l
abbrev AI.m (t:Nat) (x:X):AI:= .op (some t) none (.mv x)
abbrev aU:X:= .s 0
abbrev bn:X:= .s 1
abbrev cH:X:= .s 2
abbrev bI:X:= .s 3
abbrev cU:X:= .s 4
abbrev bo:X:= .s 5
abbrev bP:X:= .s 6
abbrev bO:X:= .s 7
abbrev cf:X:= .s 8
abbrev cA:X:= .s 9
abbrev bW:X:= .s 10
abbrev b8:X:= .s 11
abbrev cp:X:= .s 12
abbrev bZ:X:= .s 13
abbrev bU:X:= .s 14
abbrev cv:X:= .s 15
abbrev cm:X:= .s 16
abbrev cO:X:= .s 17
abbrev cK:X:= .s 18
abbrev c6:X:= .s 19
abbrev dk:X:= .s 20
abbrev dr:X:= .s 21
abbrev dw:X:= .s 22
abbrev dz:X:= .s 23
abbrev da:X:= .s 24
abbrev c7:X:= .s 25
abbrev eo:X:= .s 26
abbrev dP:X:= .s 27
abbrev eK:X:= .s 28
abbrev eG:X:= .s 29
abbrev eY:X:= .s 30
abbrev eP:X:= .s 31
abbrev eZ:X:= .s 32
abbrev eV:X:= .s 33
abbrev fh:X:= .s 34
abbrev fb:X:= .s 35
abbrev fm:X:= .s 36
abbrev fy:X:= .s 37
abbrev gC:X:= .s 38
abbrev gj:X:= .s 39
abbrev gU:X:= .s 40
abbrev gI:X:= .s 41
abbrev iz:X:= .s 42
abbrev iI:X:= .s 43
abbrev jo:X:= .s 44
abbrev jG:X:= .s 45
abbrev jH:X:= .s 46
abbrev jT:X:= .s 47
abbrev iV:X:= .s 48
abbrev jq:X:= .s 49
abbrev ky:X:= .s 50
abbrev jI:X:= .s 51
abbrev jU:X:= .s 52
abbrev kz:X:= .s 53
abbrev kT:X:= .s 54
abbrev lA:X:= .s 55
abbrev mI:X:= .s 56
abbrev ni:X:= .s 57
abbrev mJ:X:= .s 58
abbrev kU:X:= .s 59
abbrev oA:X:= .s 60
abbrev pg:X:= .s 61
abbrev qe:X:= .s 62
abbrev qf:X:= .s 63
abbrev qO:X:= .s 64
abbrev tC:X:= .s 65
abbrev vx:X:= .s 66
abbrev qP:X:= .s 67
abbrev tD:X:= .s 68
abbrev vy:X:= .s 69
abbrev tE:X:= .s 70
abbrev yN:X:= .s 71
abbrev w9:X:= .s 72
abbrev yO:X:= .s 73
abbrev yP:X:= .s 74
abbrev yQ:X:= .s 75
abbrev xa:X:= .s 76
abbrev yR:X:= .s 77
abbrev xb:X:= .s 78
abbrev CR:X:= .s 79
abbrev CS:X:= .s 80
abbrev yS:X:= .s 81
abbrev CT:X:= .s 82
abbrev CW:X:= .s 83
abbrev CX:X:= .s 84
abbrev CY:X:= .s 85
abbrev CZ:X:= .s 86
abbrev C0:X:= .s 87
abbrev C1:X:= .s 88
abbrev C2:X:= .s 89
abbrev C3:X:= .s 90
abbrev C4:X:= .s 91
abbrev C5:X:= .s 92
abbrev Gq:X:= .s 93
abbrev Gr:X:= .s 94
abbrev Gs:X:= .s 95
abbrev LN:X:= .s 96
abbrev Sq:X:= .s 97
abbrev Sr:X:= .s 98
abbrev Ss:X:= .s 99
abbrev LO:X:= .s 100
abbrev LP:X:= .s 101
abbrev LQ:X:= .s 102
abbrev LR:X:= .s 103
abbrev LS:X:= .s 104
abbrev LU:X:= .s 105
abbrev LV:X:= .s 106
abbrev LW:X:= .s 107
abbrev LX:X:= .s 108
abbrev LY:X:= .s 109
abbrev LZ:X:= .s 110
abbrev L0:X:= .s 111
abbrev L1:X:= .s 112
abbrev L2:X:= .s 113
abbrev L3:X:= .s 114
abbrev L4:X:= .s 115
abbrev L5:X:= .s 116
abbrev L6:X:= .s 117
abbrev L7:X:= .s 118
abbrev L8:X:= .s 119
abbrev L9:X:= .s 120
abbrev Ma:X:= .s 121
abbrev Mb:X:= .s 122
abbrev Mc:X:= .s 123
abbrev Md:X:= .s 124
abbrev Me:X:= .s 125
abbrev Mf:X:= .s 126
abbrev U3:X:= .s 127
abbrev U4:X:= .s 128
abbrev U5:X:= .s 129
abbrev U6:X:= .s 130
abbrev U7:X:= .s 131
abbrev Mg:X:= .s 132
abbrev U8:X:= .s 133
abbrev U9:X:= .s 134
abbrev Va:X:= .s 135
abbrev Vb:X:= .s 136
abbrev Vc:X:= .s 137
abbrev Vd:X:= .s 138
abbrev Ve:X:= .s 139
abbrev Vf:X:= .s 140
abbrev Vg:X:= .s 141
abbrev Vh:X:= .s 142
abbrev Mh:X:= .s 143
abbrev Vi:X:= .s 144
abbrev Ff:X:= .s 145
abbrev Vj:X:= .s 146
abbrev Vk:X:= .s 147
abbrev Vl:X:= .s 148
abbrev Vm:X:= .s 149
abbrev Vn:X:= .s 150
abbrev Vo:X:= .s 151
abbrev acX:X:= .s 152
abbrev acY:X:= .s 153
abbrev acZ:X:= .s 154
abbrev ac0:X:= .s 155
abbrev ac1:X:= .s 156
abbrev ac2:X:= .s 157
abbrev ac3:X:= .s 158
abbrev ac4:X:= .s 159
abbrev ac5:X:= .s 160
abbrev ac6:X:= .s 161
abbrev ac7:X:= .s 162
abbrev ac8:X:= .s 163
abbrev ac9:X:= .s 164
abbrev ada:X:= .s 165
abbrev adb:X:= .s 166
abbrev ade:X:= .s 167
abbrev adf:X:= .s 168
abbrev adg:X:= .s 169
abbrev adh:X:= .s 170
abbrev adi:X:= .s 171
abbrev adj:X:= .s 172
abbrev adk:X:= .s 173
abbrev adl:X:= .s 174
abbrev adn:X:= .s 175
abbrev ado:X:= .s 176
abbrev adp:X:= .s 177
abbrev Q04:AC:= .cond cf (.seq (.run [.o 2 (.mv (.k (.bool false)))]) .ret) .skip
abbrev Q0C:AC:= .cond dz (.seq (.run [.o 24 (.load bP true 2), .o 25 (.load cU true 2), .o 26 (.eqs false [0,0] da c7), .m 27 eo, .g 28 27 true (.load bo true 2), .g 29 27 true (.build [(.slice .full 0 []),(.slice .full 0 [])] []), .d 30 27 true pC [eK,eG], .o 31 (.pick dP eY (.k (.bool false))), .m 2 eP]) .ret) .skip
abbrev Q0F:AC:= .par [.o 35 (.load bP true 2), .o 36 (.load bI true 2), .c 37 mZ [fm], .o 38 (.eqs false [0,0] fb fy), .m 39 gC, .g 40 39 true (.av bP 0), .g 41 39 true (.load gU false 1), .g 42 39 true (.bin .geq gI (.k (.int .i64 5))), .o 43 (.pick gj iz (.k (.bool false))), .m 44 iI, .g 45 44 true (.av bP 0), .g 46 44 true (.load jG false 1), .g 47 44 true (.bin .leq jH (.k (.int .i64 8))), .o 48 (.pick jo jT (.k (.bool false))), .m 49 iV, .g 50 49 true (.load bo true 2), .g 51 49 true (.build [(.slice .full 0 []),(.slice .full 0 [])] []), .d 52 49 true pC [ky,jI], .o 53 (.pick jq jU (.k (.bool false))), .m 2 kz] [(1,0),(2,0),(0,1),(3,0),(4,0),(5,0),(6,0),(7,0),(8,0),(9,0),(10,0),(11,0),(12,0),(13,0),(14,0),(15,0),(16,0),(17,0),(18,0),(19,0)]
abbrev Q0L:AC:= .seq (.seq (.run [.o 32 (.load bI true 2), .c 33 q9 [eZ], .o 34 (.un .not eV)]) (.cond fh (.seq Q0F .ret) .skip)) (.seq (.run [.o 54 (.load bP true 2), .o 55 (.build [(.int .i64 0),(.int .i64 0)] []), .o 56 (.eqs false [0,0] kT lA), .m 57 mI, .g 58 57 true (.load bI true 2), .g 59 57 true (.load bo true 2), .d 60 57 true pC [mJ,kU], .o 61 (.pick ni oA (.k (.bool false))), .m 2 pg]) .ret)
abbrev Q0M:AC:= .seq (.seq (.run [.o 21 (.av cU 0), .o 22 (.load dr false 1), .o 23 (.bin .neq dw (.k (.int .i64 0)))]) Q0C) Q0L
abbrev Q0P:AC:= .seq (.run [.m 9 aU, .c 10 wZ [cA], .m 0 bW]) (.seq (.run [.m 12 aU, .c 13 o6 [cp], .m 11 bZ, .o 14 (.ext b8 0), .o 15 (.ext b8 1), .o 3 (.alloc [(.slice .full 0 []),(.slice .full 0 [])]), .o 4 (.alloc [(.int .i64 0),(.int .i64 0)]), .op none none (.store bI bU 2), .op none none (.store cU cv 2)]) (.seq (.run [.m 17 aU, .c 18 pY [cO], .m 16 cK, .o 19 (.ext cm 0), .o 20 (.ext cm 1), .o 5 (.alloc [(.slice .full 0 []),(.slice .full 0 [])]), .o 6 (.alloc [(.int .i64 0),(.int .i64 0)]), .op none none (.store bo c6 2), .op none none (.store bP dk 2)]) Q0M))
abbrev Q0R:AC:= .seq (.run [.o 2 (.mv (.k (.bool false)))]) (.seq (.seq (.run [.c 7 pX [], .o 8 (.un .not bO)]) Q04) Q0P)
abbrev Q0W:AC:= .seq (.run [.c 4 r9 [], .c 5 pY [cU], .m 3 bo, .o 6 (.ext bI 0), .o 7 (.ext bI 1), .o 1 (.alloc [(.slice .full 0 []),(.slice .full 0 [])]), .o 2 (.alloc [(.int .i64 0),(.int .i64 0)]), .op none none (.store bn bP 2), .op none none (.store cH bO 2)]) (.seq (.run [.c 8 vq [], .c 9 q9 [cf], .m 10 cA, .g 11 10 true (.av cH 0), .g 12 10 true (.load b8 false 1), .g 13 10 true (.bin .eql cp (.k (.int .i64 0))), .o 14 (.pick bW bZ (.k (.bool false))), .m 15 bU, .g 16 15 true (.load bn true 2), .d 17 15 true tq [cm], .g 18 15 true (.bin .eql cO (.k (.int .i64 8))), .o 19 (.pick cv cK (.k (.bool false))), .m 20 c6, .g 21 20 true (.build [(.slice .full 0 []),(.slice .full 0 [])] []), .d 22 20 true mZ [dr], .g 23 20 true (.rl dw 0 false 1), .g 24 20 true (.bin .eql dz (.k (.int .i64 5))), .o 25 (.pick dk da (.k (.bool false))), .m 0 c7]) .ret)
abbrev Q0X:AC:= .seq (.run [.o 0 (.mv (.k (.bool false)))]) Q0W
abbrev Q11:AC:= .seq (.run [(.o 7 (.build [(.int .i64 0),(.int .i64 0)] [(0,(1,(.k (.int .i64 1))))])), .op none none (.store cH bO 2)]) .ret
abbrev Q1J:AC:= .seq (.seq (.run [.o 20 (.av bI 0), .o 21 (.load dk false 1), .o 22 (.bin .eql dr (.k (.int .i64 0)))]) (.cond dw (.run [.o 23 (.load bn true 2), .c 24 r8 [dz], .op none none (.store bI da 2)]) .skip)) (.seq (.run [.o 25 (.load bI true 2), .op none none (.store cH c7 2)]) .ret)
abbrev Q1K:AC:= .seq (.seq (.run [.o 15 (.av bI 0), .o 16 (.load cv false 1), .o 17 (.bin .eql cm (.k (.int .i64 0)))]) (.cond cO (.run [.o 18 (.load bn true 2), .c 19 tp [cK], .op none none (.store bI c6 2)]) .skip)) Q1J
abbrev Q1L:AC:= .seq (.seq (.run [.o 10 (.av bI 0), .o 11 (.load bW false 1), .o 12 (.bin .eql b8 (.k (.int .i64 0)))]) (.cond cp (.run [.o 13 (.load bn true 2), .c 14 o5 [bZ], .op none none (.store bI bU 2)]) .skip)) Q1K
abbrev Q1O:AC:= .seq (.run [.o 1 (.box aU), .o 2 (.alloc [(.int .i64 0),(.int .i64 0)])]) (.seq (.seq (.run [.o 4 (.load bn true 2), .c 5 sL [cU], .o 6 (.un .not bo)]) (.cond bP Q11 .skip)) (.seq (.run [.o 8 (.load bn true 2), .c 9 kV [cf], .o 3 (.alloc [(.int .i64 0),(.int .i64 0)]), .op none none (.store bI cA 2)]) Q1L))
abbrev Q1S:AC:= .seq (.run [.o 1 (.box aU), .o 2 (.mv (.k (.bool false)))]) (.seq (.run [.o 3 (.load bn true 2), .c 4 mZ [bI], .o 5 (.rl cU 0 false 1), .o 6 (.bin .eql bo (.k (.int .i64 0))), .m 2 bP]) .ret)
abbrev Q1W:AC:= .seq (.run [.o 2 (.mv (.k (.str [])))]) (.seq (.run [.m 3 aU, .m 4 aU, .o 5 (.ll cU), .o 6 (.mm false bo (.k (.int .i64 100100))), .o 7 (.va bI none (some bP)), .m 2 bO]) .ret)
abbrev Q24:AC:= .par [.o 19 (.build [(.slice .full 0 []),(.slice .full 0 [])] []), .o 20 (.load bo true 2), .op none none (.store cH c6 2), .op none none (.store bI dk 2)] [(0,0),(2,0),(1,1),(3,0)]
abbrev Q2A:AC:= .seq (.seq (.run [.o 16 (.av bo 0), .o 17 (.load cm false 1), .o 18 (.bin .neq cO (.k (.int .i64 0)))]) (.cond cK (.seq Q24 .ret) .skip)) (.seq (.run [.o 21 (.load cU true 2), .o 22 (.build [(.int .i64 0),(.int .i64 0)] []), .op none none (.store cH dr 2), .op none none (.store bI dw 2)]) .ret)
abbrev Q2B:AC:= .seq (.seq (.run [.o 11 (.av bo 0), .o 12 (.load b8 false 1), .o 13 (.bin .eql cp (.k (.int .i64 0)))]) (.cond bZ (.run [.o 14 (.load cU true 2), .c 15 mZ [bU], .op none none (.store bo cv 2)]) .skip)) Q2A
abbrev Q2D:AC:= .seq (.run [.o 2 (.alloc [(.slice .full 0 []),(.slice .full 0 [])]), .o 3 (.alloc [(.int .i64 0),(.int .i64 0)])]) (.seq (.run [.m 7 aU, .c 8 o6 [bO], .m 6 cf, .o 9 (.ext bP 0), .o 10 (.ext bP 1), .o 4 (.alloc [(.slice .full 0 []),(.slice .full 0 [])]), .o 5 (.alloc [(.int .i64 0),(.int .i64 0)]), .op none none (.store cU cA 2), .op none none (.store bo bW 2)]) Q2B)
abbrev Q2I:AC:= .cond dz (.seq (.run [.o 4 (.mv (.k (.bool false)))]) .ret) .skip
abbrev Q2O:AC:= .par [.o 30 (.av cH 1), .o 31 (.load eY false 1), .m 32 bo, .o 33 (.ca eP eZ 5), .o 34 (.load eV true 5), .o 35 (.av bI 1), .o 36 (.load fb false 1), .m 37 bo, .o 38 (.ca fm fy 5), .o 39 (.load gC true 5), .o 6 (.alloc [(.str []),(.slice .full 0 []),(.slice .full 0 []),(.slice .full 0 []),(.slice .full 0 [])]), .o 7 (.alloc [(.str []),(.slice .full 0 []),(.slice .full 0 []),(.slice .full 0 []),(.slice .full 0 [])]), .op none none (.store bP fh 5), .op none none (.store bO gj 5)] [(10,0),(11,0),(0,0),(1,2),(2,0),(3,0),(4,2),(12,0),(5,0),(6,3),(7,0),(8,0),(9,3),(13,0)]
abbrev Q2P:AC:= .run [.o 40 (.av bP 0), .o 41 (.load gU false 1), .o 42 (.av bO 0), .o 43 (.load iz false 1), .o 44 (.bin .neq gI iI), .m 45 jo, .g 46 45 false (.av bP 1), .g 47 45 false (.load jH false 1), .g 48 45 false (.len jT), .g 49 45 false (.av bO 1), .g 50 45 false (.load jq false 1), .g 51 45 false (.len ky), .g 52 45 false (.bin .neq iV jI), .o 53 (.pick jG (.k (.bool true)) jU), .m 54 kz, .g 55 54 false (.av bP 2), .g 56 54 false (.load lA false 1), .g 57 54 false (.av bO 2), .g 58 54 false (.load ni false 1), .d 59 54 false kl [mI,mJ], .g 60 54 false (.un .not kU), .o 61 (.pick kT (.k (.bool true)) oA), .m 62 pg, .g 63 62 false (.av bP 4), .g 64 62 false (.load qf false 1), .g 65 62 false (.av bO 4), .g 66 62 false (.load tC false 1), .d 67 62 false kl [qO,vx], .g 68 62 false (.un .not qP), .o 69 (.pick qe (.k (.bool true)) tD), .m 70 vy, .g 71 70 false (.av bP 3), .g 72 70 false (.load yN false 1), .g 73 70 false (.av bO 3), .g 74 70 false (.load yO false 1), .d 75 70 false km [w9,yP], .g 76 70 false (.un .not yQ), .o 77 (.pick tE (.k (.bool true)) xa)]
abbrev Q2S:AC:= .cond yR (.seq (.run [.o 4 (.mv (.k (.bool false)))]) .ret) .skip
abbrev Q2Y:AC:= .par [.o 84 (.av bP 1), .o 85 (.load CX false 1), .m 86 cf, .o 87 (.ca CY CZ 2), .o 88 (.load C0 true 2), .o 89 (.av bO 1), .o 90 (.load C2 false 1), .m 91 cf, .o 92 (.ca C3 C4 2), .o 93 (.load C5 true 2), .o 94 (.eqs true [2,1] C1 Gq)] [(0,0),(1,0),(2,0),(3,0),(4,0),(5,0),(6,0),(7,0),(8,0),(9,0),(10,0)]
abbrev Q31:AC:= .cond Gr (.seq (.run [.o 4 (.mv (.k (.bool false)))]) .ret) .skip
abbrev Q37:AC:= .seq (.cond CT .skip (.exit 2)) (.seq (.block 3 (.seq (.run [.m 83 yS, .m 8 CW]) (.seq Q2Y Q31))) (.run [.o 95 (.bin .add yS (.k (.int .i64 1))), .m 81 Gs]))
abbrev Q3B:AC:= .seq (.run [.o 78 (.av bP 1), .o 79 (.load xb false 1), .o 80 (.len CR), .o 81 (.mv (.k (.int .i64 0)))]) (.block 2 (.loop (.seq (.run [.o 82 (.bin .lss yS CS)]) Q37)))
abbrev Q3H:AC:= .seq (.block 1 (.seq (.run [.m 29 dP, .m 5 eG]) (.seq Q2O (.seq (.seq Q2P Q2S) Q3B)))) (.run [.o 96 (.bin .add dP (.k (.int .i64 1))), .m 27 LN])
abbrev Q3L:AC:= .block 0 (.loop (.seq (.run [.o 28 (.bin .lss dP eo)]) (.seq (.cond eK .skip (.exit 0)) Q3H)))
abbrev Q3P:AC:= .seq (.seq (.run [.o 24 (.av cH 1), .o 25 (.load da false 1), .o 26 (.len c7), .o 27 (.mv (.k (.int .i64 0)))]) Q3L) (.seq (.run [.o 4 (.mv (.k (.bool true)))]) .ret)
abbrev Q3Q:AC:= .seq (.seq (.run [.o 9 (.av cH 0), .o 10 (.load cA false 1), .o 11 (.av bI 0), .o 12 (.load b8 false 1), .c 13 kl [bW,cp], .o 14 (.un .not bZ), .m 15 bU, .g 16 15 false (.av cH 1), .g 17 15 false (.load cm false 1), .g 18 15 false (.len cO), .g 19 15 false (.av bI 1), .g 20 15 false (.load c6 false 1), .g 21 15 false (.len dk), .g 22 15 false (.bin .neq cK dr), .o 23 (.pick cv (.k (.bool true)) dw)]) Q2I) Q3P
abbrev Q3R:AC:= .seq (.run [.o 2 (.box aU), .o 3 (.box bn), .o 4 (.mv (.k (.bool false)))]) Q3Q
abbrev Q3W:AC:= .cond dz (.seq (.run [.o 2 (.mv (.k (.bool false)))]) .ret) .skip
abbrev Q43:AC:= .run [.o 33 (.av bo 1), .o 34 (.load eV false 1), .o 35 (.len fh), .o 36 (.bin .gtr fb (.k (.int .i64 8))), .m 37 fm, .g 38 37 false (.av bo 2), .g 39 37 false (.load gC false 1), .g 40 37 false (.len gj), .g 41 37 false (.bin .gtr gU (.k (.int .i64 16))), .o 42 (.pick fy (.k (.bool true)) gI), .m 43 iz, .g 44 43 false (.av bo 0), .g 45 43 false (.load jo false 1), .d 46 43 false mE [jG], .g 47 43 false (.un .not jH), .o 48 (.pick iI (.k (.bool true)) jT), .m 49 iV, .g 50 49 false (.av bo 2), .g 51 49 false (.load ky false 1), .d 52 49 false l5 [jI], .g 53 49 false (.un .not jU), .o 54 (.pick jq (.k (.bool true)) kz), .m 55 kT, .g 56 55 false (.av bo 4), .g 57 55 false (.load mI false 1), .d 58 55 false l5 [ni], .g 59 55 false (.un .not mJ), .o 60 (.pick lA (.k (.bool true)) kU)]
abbrev Q46:AC:= .cond oA (.seq (.run [.o 2 (.mv (.k (.bool false)))]) .ret) .skip
abbrev Q4F:AC:= .cond yN (.seq (.run [.o 2 (.mv (.k (.bool false)))]) .ret) .skip
abbrev Q4K:AC:= .seq (.block 3 (.seq (.run [.o 66 (.ca qe qO 2), .o 67 (.load vx true 2), .o 7 (.alloc [(.str []),(.bool false)]), .op none none (.store bO qP 2)]) (.seq (.run [.o 68 (.av bO 0), .o 69 (.load tD false 1), .c 70 mE [vy], .o 71 (.un .not tE)]) Q4F))) (.run [.o 72 (.bin .add qO (.k (.int .i64 1))), .m 64 w9])
abbrev Q4O:AC:= .block 2 (.loop (.seq (.run [.o 65 (.bin .lss qO qf)]) (.seq (.cond tC .skip (.exit 2)) Q4K)))
abbrev Q4T:AC:= .cond yR (.seq (.run [.o 2 (.mv (.k (.bool false)))]) .ret) .skip
abbrev Q4V:AC:= .seq (.seq (.run [.o 61 (.av bo 1), .o 62 (.load pg false 1), .o 63 (.len qe), .o 64 (.mv (.k (.int .i64 0)))]) Q4O) (.seq (.run [.m 73 bI, .o 74 (.av bo 3), .o 75 (.load yP false 1), .c 76 jl [yO,yQ,(.k (.int .i64 1))], .o 77 (.un .not xa)]) Q4T)
abbrev Q50:AC:= .seq (.block 1 (.seq (.run [.o 31 (.ca dP eG 5), .o 32 (.load eP true 5), .o 5 (.alloc [(.str []),(.slice .full 0 []),(.slice .full 0 []),(.slice .full 0 []),(.slice .full 0 [])]), .op none none (.store bo eZ 5)]) (.seq (.seq Q43 Q46) Q4V))) (.run [.o 78 (.bin .add eG (.k (.int .i64 1))), .m 29 xb])
abbrev Q54:AC:= .block 0 (.loop (.seq (.run [.o 30 (.bin .lss eG eK)]) (.seq (.cond eY .skip (.exit 0)) Q50)))
abbrev Q58:AC:= .seq (.seq (.run [.o 26 (.av bn 1), .o 27 (.load eo false 1), .o 28 (.len dP), .o 29 (.mv (.k (.int .i64 0)))]) Q54) (.seq (.run [.o 2 (.mv (.k (.bool true)))]) .ret)
abbrev Q5A:AC:= .seq (.seq (.run [.o 8 (.av bn 0), .o 9 (.load cf false 1), .o 10 (.len cA), .o 11 (.bin .gtr bW (.k (.int .i64 16))), .m 12 b8, .g 13 12 false (.av bn 1), .g 14 12 false (.load bZ false 1), .g 15 12 false (.len bU), .g 16 12 false (.bin .gtr cv (.k (.int .i64 16))), .o 17 (.pick cp (.k (.bool true)) cm), .m 18 cO, .g 19 18 false (.av bn 0), .g 20 18 false (.load c6 false 1), .d 21 18 false l5 [dk], .g 22 18 false (.un .not dr), .o 23 (.pick cK (.k (.bool true)) dw)]) Q3W) (.seq (.run [.o 24 (.build [(.int .i64 0)] []), .o 25 (.box da), .m 3 c7]) Q58)
abbrev Q5B:AC:= .seq (.run [.o 1 (.box aU), .o 2 (.mv (.k (.bool false)))]) Q5A
abbrev Q5F:AC:= .seq (.run [(.o 16 (.build [(.int .i64 0),(.int .i64 0)] [(0,(1,(.k (.int .i64 1))))])), .op none none (.store cH cm 2)]) .ret
abbrev Q5R:AC:= .seq (.block 1 (.seq (.run [.o 22 (.ca cK dk 5), .o 23 (.load dw true 5), .o 5 (.alloc [(.str []),(.slice .full 0 []),(.slice .full 0 []),(.slice .full 0 []),(.slice .full 0 [])]), .op none none (.store bo dz 5)]) (.run [.m 24 bI, .o 25 (.av bo 0), .o 26 (.load c7 false 1), .o 27 (.cT [(.str [])] 1 1 [(0,eo)]), .o 28 (.app 1 16 da dP), .m 3 eK]))) (.run [.o 29 (.bin .add dk (.k (.int .i64 1))), .m 20 eG])
abbrev Q5V:AC:= .block 0 (.loop (.seq (.run [.o 21 (.bin .lss dk c6)]) (.seq (.cond dr .skip (.exit 0)) Q5R)))
abbrev Q60:AC:= .seq (.run [(.o 53 (.build [(.int .i64 0),(.int .i64 0)] [(0,(1,(.k (.int .i64 5))))])), .op none none (.store cH kz 2)]) .ret
abbrev Q6B:AC:= .seq (.run [(.o 73 (.build [(.int .i64 0),(.int .i64 0)] [(0,(1,(.k (.int .i64 5))))])), .op none none (.store cH yO 2)]) .ret
abbrev Q6K:AC:= .seq (.run [.o 89 (.av cp 0), .o 90 (.av C2 0), .o 91 (.load C3 false 1),(.o 92 (.build [(.int .i64 0),(.int .i64 0)] [(0,(1,(.k (.int .i64 5)))),(1,(1,C4))])), .op none none (.store cH C5 2)]) .ret
abbrev Q6Q:AC:= .seq (.block 5 (.seq (.run [.o 80 (.ca xa xb 17), .o 81 (.load CS true 17), .o 12 (.alloc [(.int .i64 0),(.int .i64 0),(.slice .full 0 []),(.str []),(.str []),(.int .i64 0),(.int .i64 0),(.str []),(.slice .full 0 []),(.bool false),(.slice .full 0 []),(.slice .full 0 []),(.slice .full 0 []),(.int .i64 0),(.int .i64 0),(.int .i64 0),(.int .i64 0)]), .op none none (.store cp yS 17)]) (.seq (.run [.o 82 (.load bn true 2), .o 83 (.load cA true 5), .m 84 bI, .o 85 (.av cp 0), .o 86 (.load CY true 13), .c 87 o7 [CT,CW,CX,CZ], .o 88 (.un .not C0)]) (.cond C1 Q6K .skip)))) (.run [.o 93 (.bin .add xb (.k (.int .i64 1))), .m 78 Gq])
abbrev Q6U:AC:= .block 4 (.loop (.seq (.run [.o 79 (.bin .lss xb yR)]) (.seq (.cond CR .skip (.exit 4)) Q6Q)))
abbrev Q6W:AC:= .seq (.seq (.run [.m 66 bW, .c 67 mT [vx], .m 68 qP, .g 69 68 false (.mv bW), .g 70 68 false (.sC 63 [bn]), .d 71 68 false fl [vy,tE], .o 72 (.pick tD (.k (.bool true)) yN)]) (.cond w9 Q6B .skip)) (.seq (.run [.m 74 bO, .m 75 cf, .c 76 fT [yP,yQ], .o 77 (.len xa), .o 78 (.mv (.k (.int .i64 0)))]) Q6U)
abbrev Q71:AC:= .seq (.block 3 (.seq (.run [.m 61 kU, .o 62 (.ca ni kU 5), .o 63 (.load qe true 5), .o 9 (.alloc [(.str []),(.slice .full 0 []),(.slice .full 0 []),(.slice .full 0 []),(.slice .full 0 [])]), .m 8 pg, .op none none (.store cA qf 5)]) (.seq (.run [.o 64 (.load cA true 5), .c 65 vr [qO], .m 10 tC]) Q6W))) (.run [.o 94 (.bin .add kU (.k (.int .i64 1))), .m 59 Gr])
abbrev Q75:AC:= .block 2 (.loop (.seq (.run [.o 60 (.bin .lss kU mJ)]) (.seq (.cond oA .skip (.exit 2)) Q71)))
abbrev Q79:AC:= .seq (.seq (.run [.o 56 (.av bn 1), .o 57 (.load mI false 1), .o 58 (.len ni), .o 59 (.mv (.k (.int .i64 0)))]) Q75) (.seq (.run [.o 95 (.build [(.int .i64 0),(.int .i64 0)] []), .op none none (.store cH Gs 2)]) .ret)
abbrev Q7B:AC:= .seq (.seq (.run [.o 32 (.av bn 0), .o 33 (.load eZ false 1), .c 34 mT [eV], .m 35 fh, .g 36 35 false (.mv bI), .d 37 35 false mT [fm], .o 38 (.pick fb (.k (.bool true)) fy), .m 39 gC, .g 40 39 false (.mv bP), .g 41 39 false (.bin .lss gU (.k (.int .i64 0))), .o 42 (.pick gj (.k (.bool true)) gI), .m 43 iz, .g 44 43 false (.av bn 1), .g 45 43 false (.load jo false 1), .g 46 43 false (.mv bP), .g 47 43 false (.ca jG jH 5), .g 48 43 false (.av jT 1), .g 49 43 false (.load iV false 1), .g 50 43 false (.len jq), .g 51 43 false (.bin .gtr ky (.k (.int .i64 0))), .o 52 (.pick iI (.k (.bool true)) jI)]) (.cond jU Q60 .skip)) (.seq (.run [.o 54 (.load bn true 2), .c 55 ld [kT], .m 7 lA]) Q79)
abbrev Q7D:AC:= .seq (.seq (.run [.o 17 (.av bn 1), .o 18 (.load cO false 1), .o 19 (.len cK), .o 20 (.mv (.k (.int .i64 0)))]) Q5V) (.seq (.run [.m 30 bI,(.c 31 ie [eY,(.k (.str [109,97,105,110]))]), .m 6 eP]) Q7B)
abbrev Q7F:AC:= .seq (.seq (.run [.o 13 (.load bn true 2), .c 14 sL [bZ], .o 15 (.un .not bU)]) (.cond cv Q5F .skip)) (.seq (.run [.o 3 (.mv (.k (.slice .full 0 [])))]) Q7D)
abbrev Q7G:AC:= .seq (.run [.o 1 (.box aU), .o 2 (.alloc [(.int .i64 0),(.int .i64 0)])]) Q7F
abbrev Q7K:AC:= .seq (.run [(.o 9 (.build [(.int .i64 0),(.int .i64 0)] [(0,(1,(.k (.int .i64 1))))])), .op none none (.store cH cA 2)]) .ret
abbrev Q7T:AC:= .seq (.run [.o 31 (.av cU 0), .o 32 (.av eP 0), .o 33 (.load eZ false 1),(.o 34 (.build [(.int .i64 0),(.int .i64 0)] [(0,(1,(.k (.int .i64 6)))),(1,(1,eV))])), .op none none (.store cH fh 2)]) .ret
abbrev Q7W:AC:= .seq (.run [.o 18 (.ca bU cm 17), .o 19 (.load cK true 17), .o 4 (.alloc [(.int .i64 0),(.int .i64 0),(.slice .full 0 []),(.str []),(.str []),(.int .i64 0),(.int .i64 0),(.str []),(.slice .full 0 []),(.bool false),(.slice .full 0 []),(.slice .full 0 []),(.slice .full 0 []),(.int .i64 0),(.int .i64 0),(.int .i64 0),(.int .i64 0)]), .op none none (.store cU c6 17)]) (.seq (.run [.o 20 (.av cU 0), .o 21 (.av dk 1), .o 22 (.load dr false 1), .o 23 (.bin .eql dw (.k (.int .i64 4))), .m 24 dz, .g 25 24 true (.load bn true 2), .g 26 24 true (.av cU 0), .g 27 24 true (.load eo true 13), .d 28 24 true tr [c7,dP], .g 29 24 true (.un .not eK), .o 30 (.pick da eG (.k (.bool false)))]) (.cond eY Q7T .skip))
abbrev Q80:AC:= .seq (.cond cO .skip (.exit 0)) (.seq (.block 1 Q7W) (.run [.o 35 (.bin .add cm (.k (.int .i64 1))), .m 16 fb]))
abbrev Q84:AC:= .seq (.run [.o 10 (.load bn true 2), .c 11 ld [bW], .o 12 (.db b8), .o 13 (.av cp 2), .o 14 (.load bZ false 1), .o 15 (.len bU), .o 16 (.mv (.k (.int .i64 0)))]) (.block 0 (.loop (.seq (.run [.o 17 (.bin .lss cm cv)]) Q80)))
abbrev Q88:AC:= .seq (.seq (.run [.o 5 (.load bn true 2), .c 6 kV [bo], .o 7 (.rl bP 0 false 1), .o 8 (.bin .neq bO (.k (.int .i64 0)))]) (.cond cf Q7K .skip)) (.seq Q84 (.seq (.run [.o 36 (.build [(.int .i64 0),(.int .i64 0)] []), .op none none (.store cH fm 2)]) .ret))
abbrev Q89:AC:= .seq (.run [.o 1 (.box aU), .o 2 (.alloc [(.int .i64 0),(.int .i64 0)])]) Q88
abbrev Q8E:AC:= .seq (.run [(.o 14 (.build [(.int .i64 0),(.int .i64 0)] [(0,(1,(.k (.int .i64 1))))])), .op none none (.store cH bU 2)]) .ret
abbrev Q8U:AC:= .seq (.run [.o 47 (.av cA 0), .o 48 (.av jT 0), .o 49 (.load iV false 1),(.o 50 (.build [(.int .i64 0),(.int .i64 0)] [(0,(1,(.k (.int .i64 7)))),(1,(1,jq))])), .op none none (.store cH ky 2)]) .ret
abbrev Q8X:AC:= .seq (.run [.m 32 bP, .o 33 (.av cA 0), .o 34 (.av eV 2), .o 35 (.load fh false 1), .c 36 oL [eZ,fb], .m 31 fm, .o 37 (.ext eP 0), .o 38 (.ext eP 1), .m 6 fy, .m 7 gC]) (.seq (.run [.m 39 bO, .o 40 (.un .not gj), .m 41 gU, .g 42 41 false (.mv bI), .g 43 41 false (.load cA true 17), .d 44 41 false tt [iz,iI], .g 45 41 false (.un .not jo), .o 46 (.pick gI (.k (.bool true)) jG)]) (.cond jH Q8U .skip))
abbrev Q91:AC:= .seq (.block 3 (.seq (.run [.o 29 (.ca c7 dP 17), .o 30 (.load eG true 17), .o 9 (.alloc [(.int .i64 0),(.int .i64 0),(.slice .full 0 []),(.str []),(.str []),(.int .i64 0),(.int .i64 0),(.str []),(.slice .full 0 []),(.bool false),(.slice .full 0 []),(.slice .full 0 []),(.slice .full 0 []),(.int .i64 0),(.int .i64 0),(.int .i64 0),(.int .i64 0)]), .op none none (.store cA eY 17)]) Q8X)) (.run [.o 51 (.bin .add dP (.k (.int .i64 1))), .m 27 jI])
abbrev Q95:AC:= .block 2 (.loop (.seq (.run [.o 28 (.bin .lss dP eo)]) (.seq (.cond eK .skip (.exit 2)) Q91)))
abbrev Q9A:AC:= .seq (.run [(.o 61 (.build [(.int .i64 0),(.int .i64 0)] [(0,(1,(.k (.int .i64 7))))])), .op none none (.store cH pg 2)]) .ret
abbrev Q9E:AC:= .seq (.seq (.run [.m 23 bI, .m 24 cU, .c 25 fT [dz,da], .o 26 (.len c7), .o 27 (.mv (.k (.int .i64 0)))]) Q95) (.seq (.run [.m 53 bP, .o 54 (.av bo 4), .o 55 (.load kT false 1), .c 56 oL [kz,lA], .m 52 mI, .o 57 (.ext jU 0), .o 58 (.ext jU 1), .m 7 mJ]) (.seq (.run [.m 59 bO, .o 60 (.un .not kU)]) (.cond oA Q9A .skip)))
abbrev Q9G:AC:= .seq (.run [.o 6 (.mv (.k (.slice .full 0 [])))]) (.seq (.run [.o 7 (.mv (.k (.bool true)))]) Q9E)
abbrev Q9K:AC:= .seq (.block 1 (.seq (.run [.m 20 cK, .o 21 (.ca cm cK 5), .o 22 (.load dr true 5), .o 5 (.alloc [(.str []),(.slice .full 0 []),(.slice .full 0 []),(.slice .full 0 []),(.slice .full 0 [])]), .m 4 dk, .op none none (.store bo dw 5)]) Q9G)) (.run [.o 62 (.bin .add cK (.k (.int .i64 1))), .m 18 qe])
abbrev Q9O:AC:= .block 0 (.loop (.seq (.run [.o 19 (.bin .lss cK cO)]) (.seq (.cond c6 .skip (.exit 0)) Q9K)))
abbrev Q9S:AC:= .seq (.seq (.run [.o 15 (.av bn 1), .o 16 (.load cv false 1), .o 17 (.len cm), .o 18 (.mv (.k (.int .i64 0)))]) Q9O) (.seq (.run [.o 63 (.build [(.int .i64 0),(.int .i64 0)] []), .op none none (.store cH qf 2)]) .ret)
abbrev Q9U:AC:= .seq (.run [.o 10 (.load bn true 2), .c 11 pZ [bW], .m 3 b8]) (.seq (.seq (.run [.m 12 bI, .o 13 (.DA false cp (.k .eM))]) (.cond bZ Q8E .skip)) Q9S)
abbrev Q9V:AC:= .seq (.run [.o 1 (.box aU), .o 2 (.alloc [(.int .i64 0),(.int .i64 0)])]) Q9U
abbrev Q9Z:AC:= .seq (.run [(.o 12 (.build [(.int .i64 0),(.int .i64 0)] [(0,(1,(.k (.int .i64 1))))])), .op none none (.store cH cp 2)]) .ret
abbrev QA7:AC:= .par [.m 21 bI, .o 22 (.av bo 0), .o 23 (.load dw false 1), .o 24 (.load bn true 2), .o 25 (.av bo 0), .o 26 (.load c7 false 1), .c 27 p6 [da,eo], .op none none (.wO dr dz dP)] [(3,0),(4,0),(5,0),(6,0),(0,0),(1,0),(2,1),(7,0)]
abbrev QAB:AC:= .seq (.block 1 (.seq (.run [.o 19 (.ca cv cO 5), .o 20 (.load c6 true 5), .o 5 (.alloc [(.str []),(.slice .full 0 []),(.slice .full 0 []),(.slice .full 0 []),(.slice .full 0 [])]), .op none none (.store bo dk 5)]) QA7)) (.run [.o 28 (.bin .add cO (.k (.int .i64 1))), .m 17 eK])
abbrev QAF:AC:= .block 0 (.loop (.seq (.run [.o 18 (.bin .lss cO cm)]) (.seq (.cond cK .skip (.exit 0)) QAB)))
abbrev QAN:AC:= .seq (.run [.o 54 (.av bO 0), .o 55 (.av kT 0), .o 56 (.load lA false 1),(.o 57 (.build [(.int .i64 0),(.int .i64 0)] [(0,(1,(.k (.int .i64 8)))),(1,(1,mI))])), .op none none (.store cH ni 2)]) .ret
abbrev QAQ:AC:= .seq (.run [.o 37 (.ca eV fb 17), .o 38 (.load fy true 17), .o 7 (.alloc [(.int .i64 0),(.int .i64 0),(.slice .full 0 []),(.str []),(.str []),(.int .i64 0),(.int .i64 0),(.str []),(.slice .full 0 []),(.bool false),(.slice .full 0 []),(.slice .full 0 []),(.slice .full 0 []),(.int .i64 0),(.int .i64 0),(.int .i64 0),(.int .i64 0)]), .op none none (.store bO gC 17)]) (.seq (.run [.o 39 (.av bO 0), .o 40 (.av gj 1), .o 41 (.load gU false 1), .o 42 (.bin .eql gI (.k (.int .i64 4))), .m 43 iz, .g 44 43 true (.av bO 0), .g 45 43 true (.load jo true 13), .g 46 43 true (.mv bI), .g 47 43 true (.av bO 0), .g 48 43 true (.av jT 4), .g 49 43 true (.load iV false 1), .g 50 43 true (.uh jH jq (.slice .full 0 [])), .d 51 43 true qN [jG,ky], .g 52 43 true (.un .not jI), .o 53 (.pick iI jU (.k (.bool false)))]) (.cond kz QAN .skip))
abbrev QAU:AC:= .seq (.cond fm .skip (.exit 2)) (.seq (.block 3 QAQ) (.run [.o 58 (.bin .add fb (.k (.int .i64 1))), .m 35 mJ]))
abbrev QAY:AC:= .seq (.run [.o 29 (.load bn true 2), .c 30 ld [eG], .o 31 (.db eY), .o 32 (.av eP 2), .o 33 (.load eZ false 1), .o 34 (.len eV), .o 35 (.mv (.k (.int .i64 0)))]) (.block 2 (.loop (.seq (.run [.o 36 (.bin .lss fb fh)]) QAU)))
abbrev QB2:AC:= .seq (.seq (.run [.o 14 (.av bn 1), .o 15 (.load bU false 1), .o 16 (.len cv), .o 17 (.mv (.k (.int .i64 0)))]) QAF) (.seq QAY (.seq (.run [.o 59 (.build [(.int .i64 0),(.int .i64 0)] []), .op none none (.store cH kU 2)]) .ret))
abbrev QB4:AC:= .seq (.seq (.run [.o 8 (.load bn true 2), .c 9 o5 [cf], .o 10 (.rl cA 0 false 1), .o 11 (.bin .neq bW (.k (.int .i64 0)))]) (.cond b8 Q9Z .skip)) (.seq (.run [.op (some 13) none .sD, .m 3 bZ]) QB2)
abbrev QB5:AC:= .seq (.run [.o 1 (.box aU), .o 2 (.alloc [(.int .i64 0),(.int .i64 0)])]) QB4
abbrev QB9:AC:= .par [.o 16 (.build [(.slice .full 0 []),(.slice .full 0 [])] []), .o 17 (.load bo true 2), .op none none (.store cH cm 2), .op none none (.store bI cO 2)] [(0,0),(2,0),(1,1),(3,0)]
abbrev QBG:AC:= .par [.o 29 (.build [(.slice .full 0 []),(.slice .full 0 [])] []), .m 30 bP, .o 31 (.db eY), .o 32 (.av eP 2), .o 33 (.load eZ true 2), .op none none (.store cH eG 2), .op none none (.store bI eV 2)] [(0,0),(5,0),(1,0),(2,0),(3,0),(4,1),(6,0)]
abbrev QBM:AC:= .seq (.seq (.run [.m 23 bP, .o 24 (.db dz), .o 25 (.av da 2), .o 26 (.av c7 0), .o 27 (.load eo false 1), .o 28 (.bin .neq dP (.k (.int .i64 0)))]) (.cond eK (.seq QBG .ret) .skip)) (.seq (.run [.o 34 (.load bO true 2), .c 35 o8 [fh], .o 36 (.build [(.int .i64 0),(.int .i64 0)] []), .op none none (.store cH fb 2), .op none none (.store bI fm 2)]) .ret)
abbrev QBP:AC:= .seq (.seq (.run [.o 13 (.av bo 0), .o 14 (.load bZ false 1), .o 15 (.bin .neq bU (.k (.int .i64 0)))]) (.cond cv (.seq QB9 .ret) .skip)) (.seq (.run [.m 18 cU, .o 19 (.build [(.slice .full 0 []),(.int .i64 0),(.int .i64 0),(.int .i64 0),(.int .i64 0)] [(0,(1,cK))]), .o 20 (.box c6), .m 6 dk]) (.seq (.run [.m 21 bP, .c 22 lx [dr], .o 7 (.alloc [(.slice .full 0 []),(.slice .full 0 [])]), .op none none (.store bO dw 2)]) QBM))
abbrev QBR:AC:= .seq (.run [.o 2 (.alloc [(.slice .full 0 []),(.slice .full 0 [])]), .o 3 (.alloc [(.int .i64 0),(.int .i64 0)])]) (.seq (.run [.m 9 aU, .c 10 yK [cA], .m 8 bW, .o 11 (.ext cf 0), .o 12 (.ext cf 1), .o 5 (.alloc [(.int .i64 0),(.int .i64 0)]), .m 4 b8, .op none none (.store bo cp 2)]) QBP)
abbrev QBW:AC:= .cond cm (.seq (.run [.o 2 (.mv (.k (.bool false)))]) .ret) .skip
abbrev QC0:AC:= .seq (.seq (.run [.m 3 aU, .o 4 (.ll bI), .o 5 (.bin .lss cU (.k (.int .i64 1))), .m 6 bo, .g 7 6 false (.mv aU), .g 8 6 false (.ll bO), .g 9 6 false (.bin .gtr cf (.k (.int .i64 8))), .o 10 (.pick bP (.k (.bool true)) cA), .m 11 bW, .g 12 11 false (.mv aU), .g 13 11 false (.nJ cp (.k (.int .i64 0))), .d 14 11 false nU [bZ], .g 15 11 false (.un .not bU), .o 16 (.pick b8 (.k (.bool true)) cv)]) QBW) (.seq (.run [.m 17 aU, .c 18 uE [cO,(.k (.int .i64 0))], .m 19 aU, .o 20 (.ll c6), .o 21 (.bin .eql cK dk), .m 22 dr, .g 23 22 true (.mv aU), .d 24 22 true sM [dz], .g 25 22 true (.un .not da), .o 26 (.pick dw c7 (.k (.bool false))), .m 2 eo]) .ret)
abbrev QC1:AC:= .seq (.run [.o 2 (.mv (.k (.bool false)))]) QC0
abbrev QCC:AC:= .seq (.block 1 (.seq (.run [.o 11 (.ca bO cA 5), .o 12 (.load b8 true 5), .o 5 (.alloc [(.str []),(.slice .full 0 []),(.slice .full 0 []),(.slice .full 0 []),(.slice .full 0 [])]), .op none none (.store bo cp 5)]) (.run [.m 13 bI, .o 14 (.av bo 3), .o 15 (.load bU false 1), .c 16 jm [cv], .o 17 (.bin .add bZ cm), .m 3 cO]))) (.run [.o 18 (.bin .add cA (.k (.int .i64 1))), .m 9 cK])
abbrev QCG:AC:= .block 0 (.loop (.seq (.run [.o 10 (.bin .lss cA cf)]) (.seq (.cond bW .skip (.exit 0)) QCC)))
abbrev QCK:AC:= .seq (.seq (.run [.o 6 (.av bn 1), .o 7 (.load bP false 1), .o 8 (.len bO), .o 9 (.mv (.k (.int .i64 0)))]) QCG) (.seq (.run [.m 19 bI, .m 2 c6]) .ret)
abbrev QCM:AC:= .seq (.run [.o 1 (.box aU), .o 2 (.mv (.k (.int .i64 0)))]) (.seq (.run [.o 3 (.mv (.k (.int .i64 0)))]) QCK)
end Go.Abs

/-! Have0 -/

namespace Go.Abs
open Go.Proofs
theorem mK:Has Tryz.prog rL 62 [(2,none)] Q0R:=⟨Tryz.f6,by kernel_rfl,by kernel_rfl⟩
theorem zI:Has Tryz.prog pX 26 [(0,none)] Q0X:=⟨Tryz.f12,by kernel_rfl,by kernel_rfl⟩
theorem mU:Has Tryz.prog mZ 26 [(2,(some (true,2)))] Q1O:=⟨Tryz.f14,by kernel_rfl,by kernel_rfl⟩
theorem EN:Has Tryz.prog q9 7 [(2,none)] Q1S:=⟨Tryz.f16,by kernel_rfl,by kernel_rfl⟩
theorem Gt:Has Tryz.prog wZ 8 [(2,none)] Q1W:=⟨Tryz.f18,by kernel_rfl,by kernel_rfl⟩
theorem qQ:Has Tryz.prog pY 23 [(2,(some (true,2))),(3,(some (true,2)))] Q2D:=⟨Tryz.f19,by kernel_rfl,by kernel_rfl⟩
theorem Iv:Has Tryz.prog pC 97 [(4,none)] Q3R:=⟨Tryz.f21,by kernel_rfl,by kernel_rfl⟩
theorem Gu:Has Tryz.prog sL 79 [(2,none)] Q5B:=⟨Tryz.f22,by kernel_rfl,by kernel_rfl⟩
theorem uF:Has Tryz.prog kV 96 [(2,(some (true,2)))] Q7G:=⟨Tryz.f23,by kernel_rfl,by kernel_rfl⟩
theorem uG:Has Tryz.prog o5 37 [(2,(some (true,2)))] Q89:=⟨Tryz.f24,by kernel_rfl,by kernel_rfl⟩
theorem vW:Has Tryz.prog tp 64 [(2,(some (true,2)))] Q9V:=⟨Tryz.f25,by kernel_rfl,by kernel_rfl⟩
theorem uH:Has Tryz.prog r8 60 [(2,(some (true,2)))] QB5:=⟨Tryz.f26,by kernel_rfl,by kernel_rfl⟩
theorem BE:Has Tryz.prog o6 37 [(2,(some (true,2))),(3,(some (true,2)))] QBR:=⟨Tryz.f27,by kernel_rfl,by kernel_rfl⟩
theorem l9:Has Tryz.prog mE 27 [(2,none)] QC1:=⟨Tryz.f28,by kernel_rfl,by kernel_rfl⟩
theorem C6:Has Tryz.prog tq 20 [(2,none)] QCM:=⟨Tryz.f33,by kernel_rfl,by kernel_rfl⟩
end Go.Abs

/-! Codes1 -/

namespace Go.Abs
abbrev QCO:AC:= .run [.o 0 (.mv (.k (.str [103,108,111,98,97,108,32,103,59,10,112,114,111,99,32,109,97,105,110,40,41,32,123,10,32,118,97,114,32,118,59,10,32,118,32,61,32,50,59,10,32,103,32,61,32,112,40,51,44,32,114,101,102,32,118,41,59,10,32,112,114,105,110,116,32,118,59,10,32,112,114,105,110,116,32,103,59,10,125,10,112,114,111,99,32,112,40,120,44,32,114,101,102,32,121,41,32,123,10,32,121,32,61,32,121,32,43,32,120,59,10,32,105,102,32,40,121,32,62,32,57,41,32,123,10,32,32,103,111,116,111,32,101,59,10,32,125,10,32,114,101,116,117,114,110,32,121,59,10,101,58,32,125,10])))]
abbrev QCQ:AC:= .seq (.run [.o 0 (.mv (.k (.str [])))]) (.seq QCO .ret)
abbrev QCS:AC:= .run [(.o 3 (.cT [(.str [])] 1 1 [(0,(.k (.str [118])))])), .c 4 p7 [(.k (.int .i64 2))],(.o 5 (.build [(.int .i64 0),(.int .i64 0),(.slice .full 0 []),(.str []),(.str []),(.int .i64 0),(.int .i64 0),(.str []),(.slice .full 0 []),(.bool false),(.slice .full 0 []),(.slice .full 0 []),(.slice .full 0 [])] [(0,(1,(.k (.int .i64 1)))),(1,(1,(.k (.int .i64 1)))),(3,(1,(.k (.str [118])))),(5,(4,cU))])), .c 6 p7 [(.k (.int .i64 3))], .o 7 (.build [(.bool false),(.str []),(.int .i64 0),(.int .i64 0),(.str []),(.slice .full 0 [])] [(2,(4,bP))]),(.o 8 (.build [(.bool false),(.str []),(.int .i64 0),(.int .i64 0),(.str []),(.slice .full 0 [])] [(0,(1,(.k (.bool true)))),(1,(1,(.k (.str [118]))))])), .o 9 (.cT [(.bool false),(.str []),(.int .i64 0),(.int .i64 0),(.str []),(.slice .full 0 [])] 6 2 [(0,bO),(1,cf)]),(.o 10 (.build [(.int .i64 0),(.int .i64 0),(.slice .full 0 []),(.str []),(.str []),(.int .i64 0),(.int .i64 0),(.str []),(.slice .full 0 []),(.bool false),(.slice .full 0 []),(.slice .full 0 []),(.slice .full 0 [])] [(0,(1,(.k (.int .i64 2)))),(1,(1,(.k (.int .i64 4)))),(3,(1,(.k (.str [103])))),(4,(1,(.k (.str [112])))),(10,(1,cA))])),(.c 11 j7 [(.k (.str [118]))]),(.o 12 (.build [(.int .i64 0),(.int .i64 0),(.slice .full 0 []),(.str []),(.str []),(.int .i64 0),(.int .i64 0),(.str []),(.slice .full 0 []),(.bool false),(.slice .full 0 []),(.slice .full 0 []),(.slice .full 0 [])] [(0,(1,(.k (.int .i64 3)))),(1,(1,(.k (.int .i64 3)))),(5,(4,b8))])),(.c 13 j7 [(.k (.str [103]))]),(.o 14 (.build [(.int .i64 0),(.int .i64 0),(.slice .full 0 []),(.str []),(.str []),(.int .i64 0),(.int .i64 0),(.str []),(.slice .full 0 []),(.bool false),(.slice .full 0 []),(.slice .full 0 []),(.slice .full 0 [])] [(0,(1,(.k (.int .i64 4)))),(1,(1,(.k (.int .i64 3)))),(5,(4,bZ))])), .o 15 (.cT [(.int .i64 0),(.int .i64 0),(.slice .full 0 []),(.str []),(.str []),(.int .i64 0),(.int .i64 0),(.str []),(.slice .full 0 []),(.bool false),(.slice .full 0 []),(.slice .full 0 []),(.slice .full 0 [])] 13 4 [(0,bo),(1,bW),(2,cp),(3,bU)]),(.o 16 (.build [(.str []),(.slice .full 0 []),(.slice .full 0 []),(.slice .full 0 []),(.slice .full 0 [])] [(0,(1,(.k (.str [109,97,105,110])))),(2,(1,bI)),(3,(1,cv))])), .o 1 (.alloc [(.str []),(.slice .full 0 []),(.slice .full 0 []),(.slice .full 0 []),(.slice .full 0 [])]), .op none none (.store bn cm 5)]
abbrev QCT:AC:= .run [(.o 17 (.build [(.str []),(.bool false)] [(0,(1,(.k (.str [120]))))])),(.o 18 (.build [(.str []),(.bool false)] [(0,(1,(.k (.str [121])))),(1,(1,(.k (.bool true))))])), .o 19 (.cT [(.str []),(.bool false)] 2 2 [(0,cO),(1,cK)]),(.o 20 (.cT [(.str [])] 1 1 [(0,(.k (.str [101])))])),(.c 21 j7 [(.k (.str [121]))]),(.c 22 j7 [(.k (.str [120]))]), .c 23 sN [(.k (.int .i64 8)),dr,dw],(.o 24 (.build [(.int .i64 0),(.int .i64 0),(.slice .full 0 []),(.str []),(.str []),(.int .i64 0),(.int .i64 0),(.str []),(.slice .full 0 []),(.bool false),(.slice .full 0 []),(.slice .full 0 []),(.slice .full 0 [])] [(0,(1,(.k (.int .i64 5)))),(1,(1,(.k (.int .i64 1)))),(3,(1,(.k (.str [121])))),(5,(4,dz))])),(.c 25 j7 [(.k (.str [121]))]), .c 26 p7 [(.k (.int .i64 9))], .c 27 sN [(.k (.int .i64 12)),c7,eo],(.o 28 (.build [(.int .i64 0),(.int .i64 0),(.slice .full 0 []),(.str []),(.str []),(.int .i64 0),(.int .i64 0),(.str []),(.slice .full 0 []),(.bool false),(.slice .full 0 []),(.slice .full 0 []),(.slice .full 0 [])] [(0,(1,(.k (.int .i64 7)))),(1,(1,(.k (.int .i64 10)))),(3,(1,(.k (.str [101]))))])), .o 29 (.cT [(.int .i64 0),(.int .i64 0),(.slice .full 0 []),(.str []),(.str []),(.int .i64 0),(.int .i64 0),(.str []),(.slice .full 0 []),(.bool false),(.slice .full 0 []),(.slice .full 0 []),(.slice .full 0 [])] 13 1 [(0,eK)]),(.o 30 (.build [(.int .i64 0),(.int .i64 0),(.slice .full 0 []),(.str []),(.str []),(.int .i64 0),(.int .i64 0),(.str []),(.slice .full 0 []),(.bool false),(.slice .full 0 []),(.slice .full 0 []),(.slice .full 0 [])] [(0,(1,(.k (.int .i64 6)))),(1,(1,(.k (.int .i64 5)))),(5,(4,dP)),(11,(1,eG))])),(.c 31 j7 [(.k (.str [121]))]),(.o 32 (.build [(.int .i64 0),(.int .i64 0),(.slice .full 0 []),(.str []),(.str []),(.int .i64 0),(.int .i64 0),(.str []),(.slice .full 0 []),(.bool false),(.slice .full 0 []),(.slice .full 0 []),(.slice .full 0 [])] [(0,(1,(.k (.int .i64 8)))),(1,(1,(.k (.int .i64 9)))),(9,(1,(.k (.bool true)))),(5,(4,eP))])), .o 33 (.cT [(.int .i64 0),(.int .i64 0),(.slice .full 0 []),(.str []),(.str []),(.int .i64 0),(.int .i64 0),(.str []),(.slice .full 0 []),(.bool false),(.slice .full 0 []),(.slice .full 0 []),(.slice .full 0 [])] 13 3 [(0,da),(1,eY),(2,eZ)]),(.o 34 (.build [(.str []),(.slice .full 0 []),(.slice .full 0 []),(.slice .full 0 []),(.slice .full 0 [])] [(0,(1,(.k (.str [112])))),(1,(1,c6)),(4,(1,dk)),(3,(1,eV))])), .o 2 (.alloc [(.str []),(.slice .full 0 []),(.slice .full 0 []),(.slice .full 0 []),(.slice .full 0 [])]), .op none none (.store cH fh 5)]
abbrev QCV:AC:= .seq (.run [(.o 35 (.cT [(.str [])] 1 1 [(0,(.k (.str [103])))])), .o 36 (.load bn true 5), .o 37 (.load cH true 5), .o 38 (.cT [(.str []),(.slice .full 0 []),(.slice .full 0 []),(.slice .full 0 []),(.slice .full 0 [])] 5 2 [(0,fm),(1,fy)]), .o 39 (.build [(.slice .full 0 []),(.slice .full 0 [])] [(0,(1,fb)),(1,(1,gC))]), .op none none (.store aU gj 2)]) .ret
abbrev QCY:AC:= .seq (.run [.o 0 (.alloc [(.slice .full 0 []),(.slice .full 0 [])])]) (.seq QCS (.seq QCT QCV))
abbrev QD3:AC:= .cond bW (.seq (.run [.o 4 (.mv (.k (.bool false)))]) .ret) .skip
abbrev QD9:AC:= .par [.m 16 aU, .m 17 bo, .o 18 (.ca cm cO 1), .o 19 (.load cK false 1), .m 20 bn, .m 21 bo, .o 22 (.ca dk dr 1), .o 23 (.load dw false 1), .o 24 (.bin .neq c6 dz)] [(0,0),(1,0),(2,0),(3,0),(4,0),(5,0),(6,0),(7,0),(8,0)]
abbrev QDC:AC:= .cond da (.seq (.run [.o 4 (.mv (.k (.bool false)))]) .ret) .skip
abbrev QDI:AC:= .seq (.cond bU .skip (.exit 0)) (.seq (.block 1 (.seq (.run [.m 15 bZ, .m 5 cv]) (.seq QD9 QDC))) (.run [.o 25 (.bin .add bZ (.k (.int .i64 1))), .m 13 c7]))
abbrev QDM:AC:= .seq (.run [.m 11 aU, .o 12 (.len b8), .o 13 (.mv (.k (.int .i64 0)))]) (.block 0 (.loop (.seq (.run [.o 14 (.bin .lss bZ cp)]) QDI)))
abbrev QDP:AC:= .seq QDM (.seq (.run [.o 4 (.mv (.k (.bool true)))]) .ret)
abbrev QDR:AC:= .seq (.run [.o 4 (.mv (.k (.bool false)))]) (.seq (.seq (.run [.m 6 aU, .o 7 (.len bP), .m 8 bn, .o 9 (.len cf), .o 10 (.bin .neq bO cA)]) QD3) QDP)
abbrev QDW:AC:= .cond bW (.seq (.run [.o 4 (.mv (.k (.bool false)))]) .ret) .skip
abbrev QE2:AC:= .par [.m 16 aU, .m 17 bo, .o 18 (.ca cm cO 13), .o 19 (.load cK true 13), .m 20 bn, .m 21 bo, .o 22 (.ca dk dr 13), .o 23 (.load dw true 13), .c 24 p8 [c6,dz], .o 25 (.un .not da)] [(0,0),(1,0),(2,0),(3,0),(4,0),(5,0),(6,0),(7,0),(8,0),(9,0)]
abbrev QE5:AC:= .cond c7 (.seq (.run [.o 4 (.mv (.k (.bool false)))]) .ret) .skip
abbrev QEB:AC:= .seq (.cond bU .skip (.exit 0)) (.seq (.block 1 (.seq (.run [.m 15 bZ, .m 5 cv]) (.seq QE2 QE5))) (.run [.o 26 (.bin .add bZ (.k (.int .i64 1))), .m 13 eo]))
abbrev QEF:AC:= .seq (.run [.m 11 aU, .o 12 (.len b8), .o 13 (.mv (.k (.int .i64 0)))]) (.block 0 (.loop (.seq (.run [.o 14 (.bin .lss bZ cp)]) QEB)))
abbrev QEI:AC:= .seq QEF (.seq (.run [.o 4 (.mv (.k (.bool true)))]) .ret)
abbrev QEK:AC:= .seq (.run [.o 4 (.mv (.k (.bool false)))]) (.seq (.seq (.run [.m 6 aU, .o 7 (.len bP), .m 8 bn, .o 9 (.len cf), .o 10 (.bin .neq bO cA)]) QDW) QEI)
abbrev QET:AC:= .cond bZ (.seq (.run [.o 2 (.mv (.k (.bool false)))]) .ret) .skip
abbrev QEY:AC:= .seq (.block 1 (.seq (.run [.o 9 (.ca bo bO 1), .o 10 (.load cA false 1), .m 4 bW]) (.seq (.run [.m 11 cU, .c 12 mE [b8], .o 13 (.un .not cp)]) QET))) (.run [.o 14 (.bin .add bO (.k (.int .i64 1))), .m 7 bU])
abbrev QF2:AC:= .block 0 (.loop (.seq (.run [.o 8 (.bin .lss bO bP)]) (.seq (.cond cf .skip (.exit 0)) QEY)))
abbrev QF6:AC:= .seq (.seq (.run [.m 5 aU, .o 6 (.len bo), .o 7 (.mv (.k (.int .i64 0)))]) QF2) (.seq (.run [.o 2 (.mv (.k (.bool true)))]) .ret)
abbrev QF7:AC:= .seq (.run [.o 2 (.mv (.k (.bool false)))]) QF6
abbrev QFC:AC:= .cond cv (.seq (.run [.o 6 (.mv (.k (.bool false)))]) .ret) .skip
abbrev QFJ:AC:= .par [.m 29 aU, .o 30 (.db eG), .o 31 (.av eY 0), .o 32 (.load eP false 1), .o 33 (.bin .gtr eZ (.k (.int .i64 200))), .m 34 eV, .g 35 34 false (.av cf 0), .g 36 34 false (.load fb false 1), .g 37 34 false (.mv aU), .g 38 34 false (.db fy), .g 39 34 false (.av gC 0), .g 40 34 false (.load gj false 1), .g 41 34 false (.bin .neq fm gU), .o 42 (.pick fh (.k (.bool true)) gI), .m 43 iz, .g 44 43 false (.av cf 2), .g 45 43 false (.load jo false 1), .d 46 43 false l5 [jG], .g 47 43 false (.un .not jH), .o 48 (.pick iI (.k (.bool true)) jT), .m 49 iV, .g 50 49 false (.load cf true 13), .d 51 49 false sa [ky], .g 52 49 false (.un .not jI), .o 53 (.pick jq (.k (.bool true)) jU)] [(0,0),(1,0),(2,0),(3,0),(4,0),(5,0),(6,0),(7,0),(8,0),(9,0),(10,0),(11,0),(12,0),(13,0),(14,0),(15,0),(16,0),(17,0),(18,0),(19,0),(20,0),(21,0),(22,0),(23,0),(24,0)]
abbrev QFM:AC:= .cond kz (.seq (.run [.o 6 (.mv (.k (.bool false)))]) .ret) .skip
abbrev QFR:AC:= .cond vy (.seq (.run [.o 6 (.mv (.k (.bool false)))]) .ret) .skip
abbrev QFT:AC:= .seq (.seq QFJ QFM) (.seq (.run [.m 54 aU, .o 55 (.av cf 11), .o 56 (.load lA false 1), .m 57 cH, .o 58 (.bin .add ni (.k (.int .i64 1))), .c 59 jl [kT,mI,mJ], .o 60 (.un .not kU), .m 61 oA, .g 62 61 false (.mv aU), .g 63 61 false (.av cf 12), .g 64 61 false (.load qf false 1), .g 65 61 false (.mv cH), .g 66 61 false (.bin .add tC (.k (.int .i64 1))), .d 67 61 false jl [qe,qO,vx], .g 68 61 false (.un .not qP), .o 69 (.pick pg (.k (.bool true)) tD)]) QFR)
abbrev QFV:AC:= .seq (.run [.o 20 (.ca cm cK 13), .o 21 (.load dk true 13), .o 8 (.alloc [(.int .i64 0),(.int .i64 0),(.slice .full 0 []),(.str []),(.str []),(.int .i64 0),(.int .i64 0),(.str []),(.slice .full 0 []),(.bool false),(.slice .full 0 []),(.slice .full 0 []),(.slice .full 0 [])]), .op none none (.store cf dr 13)]) (.seq (.run [.m 22 aU, .o 23 (.db dw), .o 24 (.av dz 0), .o 25 (.load da false 1), .o 26 (.bin .add c7 (.k (.int .i64 1))), .o 27 (.db dw), .o 28 (.av dP 0), .op none none (.store eK eo 1)]) QFT)
abbrev QFZ:AC:= .seq (.cond c6 .skip (.exit 0)) (.seq (.block 1 QFV) (.run [.o 70 (.bin .add cK (.k (.int .i64 1))), .m 18 tE]))
abbrev QG3:AC:= .seq (.run [.m 16 bn, .o 17 (.len cm), .o 18 (.mv (.k (.int .i64 0)))]) (.block 0 (.loop (.seq (.run [.o 19 (.bin .lss cK cO)]) QFZ)))
abbrev QG6:AC:= .seq QG3 (.seq (.run [.o 6 (.mv (.k (.bool true)))]) .ret)
abbrev QG7:AC:= .seq (.seq (.run [.m 9 cH, .o 10 (.bin .gtr cA (.k (.int .i64 12))), .m 11 bW, .g 12 11 true (.mv bn), .g 13 11 true (.len cp), .g 14 11 true (.bin .gtr bZ (.k (.int .i64 0))), .o 15 (.pick b8 bU (.k (.bool false)))]) QFC) QG6
abbrev QG8:AC:= .seq (.run [.o 6 (.mv (.k (.bool false)))]) QG7
abbrev QGK:AC:= .block 1 (.seq (.run [.m 10 cf, .m 5 bW]) (.seq (.run [.m 11 bn, .m 12 aU, .m 13 bo, .o 14 (.ca cp bZ 1), .o 15 (.load bU false 1), .o 16 (.bin .eql b8 cv)]) (.cond cm (.seq (.run [.m 17 bo, .m 4 cO]) .ret) .skip)))
abbrev QGN:AC:= .seq (.cond cA .skip (.exit 0)) (.seq QGK (.run [.o 18 (.bin .add cf (.k (.int .i64 1))), .m 8 cK]))
abbrev QGR:AC:= .seq (.run [.m 6 aU, .o 7 (.len bP), .o 8 (.mv (.k (.int .i64 0)))]) (.block 0 (.loop (.seq (.run [.o 9 (.bin .lss cf bO)]) QGN)))
abbrev QGT:AC:= .seq (.run [(.o 4 (.mv (.k (.int .i64 (-1)))))]) .ret
abbrev QGV:AC:= .seq (.run [.o 4 (.mv (.k (.int .i64 0)))]) (.seq QGR QGT)
abbrev QH4:AC:= .cond cm (.seq (.run [.o 2 (.mv (.k (.bool true)))]) .ret) .skip
abbrev QH7:AC:= .block 1 (.seq (.run [.m 9 bO, .o 10 (.ca bo bO 1), .o 11 (.load bW false 1), .m 3 cA, .m 4 b8]) (.seq (.run [.m 12 aU, .m 13 bI, .o 14 (.Fw 1 cp none (some bZ)), .m 15 cU, .c 16 b7 [bU,cv]]) QH4))
abbrev QHA:AC:= .seq (.cond cf .skip (.exit 0)) (.seq QH7 (.run [.o 17 (.bin .add bO (.k (.int .i64 1))), .m 7 cO]))
abbrev QHE:AC:= .seq (.run [.m 5 aU, .o 6 (.len bo), .o 7 (.mv (.k (.int .i64 0)))]) (.block 0 (.loop (.seq (.run [.o 8 (.bin .lss bO bP)]) QHA)))
abbrev QHH:AC:= .seq QHE (.seq (.run [.o 2 (.mv (.k (.bool false)))]) .ret)
abbrev QHI:AC:= .seq (.run [.o 2 (.mv (.k (.bool false)))]) QHH
abbrev QHP:AC:= .par [.m 17 bI, .m 18 bI, .o 19 (.db cK), .o 20 (.av c6 3), .o 21 (.load dk false 1), .m 22 bI, .o 23 (.db dw), .o 24 (.av dz 2), .o 25 (.load da false 1), .o 26 (.len c7), .o 27 (.bin .add eo (.k (.int .i64 1))), .o 28 (.cT [(.int .i64 0)] 1 1 [(0,dP)]), .o 29 (.app 1 8 dr eK), .o 30 (.db cO), .o 31 (.av eY 3), .op none none (.store eP eG 1)] [(1,0),(2,0),(3,0),(4,0),(5,0),(6,0),(7,0),(8,0),(9,0),(10,0),(11,0),(12,0),(0,0),(13,0),(14,0),(15,0)]
abbrev QHR:AC:= .par [.m 38 bI, .m 39 bI, .o 40 (.db gj), .o 41 (.av gU 4), .o 42 (.load gI false 1), .m 43 bI, .o 44 (.db iI), .o 45 (.av jo 2), .o 46 (.load jG false 1), .o 47 (.len jH), .o 48 (.bin .add jT (.k (.int .i64 1))), .o 49 (.cT [(.int .i64 0)] 1 1 [(0,iV)]), .o 50 (.app 1 8 iz jq), .o 51 (.db gC), .o 52 (.av jI 4), .op none none (.store jU ky 1)] [(1,0),(2,0),(3,0),(4,0),(5,0),(6,0),(7,0),(8,0),(9,0),(10,0),(11,0),(12,0),(0,0),(13,0),(14,0),(15,0)]
abbrev QHS:AC:= .seq (.run [.m 32 bI, .o 33 (.av bo 3), .o 34 (.load eV false 1), .m 35 cU,(.o 36 (.build [(.int .i64 0),(.int .i64 0),(.slice .full 0 []),(.str []),(.str []),(.int .i64 0),(.int .i64 0),(.str []),(.slice .full 0 []),(.bool false),(.slice .full 0 []),(.slice .full 0 []),(.slice .full 0 []),(.int .i64 0),(.int .i64 0),(.int .i64 0),(.int .i64 0)] [(13,(1,fb)),(15,(1,(.k (.int .i64 (-1)))))])), .c 37 iU [eZ,fh,fm]]) QHR
abbrev QHX:AC:= .seq (.block 1 (.seq (.run [.m 14 cp, .o 15 (.ca bW cp 5), .o 16 (.load cv true 5), .o 5 (.alloc [(.str []),(.slice .full 0 []),(.slice .full 0 []),(.slice .full 0 []),(.slice .full 0 [])]), .m 4 bU, .op none none (.store bo cm 5)]) (.seq QHP QHS))) (.run [.o 53 (.bin .add cp (.k (.int .i64 1))), .m 12 kz])
abbrev QI1:AC:= .block 0 (.loop (.seq (.run [.o 13 (.bin .lss cp b8)]) (.seq (.cond bZ .skip (.exit 0)) QHX)))
abbrev QI5:AC:= .seq (.seq (.run [.o 9 (.av bn 1), .o 10 (.load cA false 1), .o 11 (.len bW), .o 12 (.mv (.k (.int .i64 0)))]) QI1) (.seq (.run [.m 54 bI, .m 2 kT]) .ret)
abbrev QI7:AC:= .seq (.run [.o 1 (.box aU), .o 2 (.mv (.k .eM))]) (.seq (.run [.o 6 (.load bn true 2), .o 7 (.build [(.slice .full 0 []),(.slice .full 0 []),(.slice .full 0 []),(.slice .full 0 []),(.slice .full 0 [])] [(0,(2,bP))]), .o 8 (.box bO), .m 3 cf]) QI5)
abbrev QII:AC:= .seq (.block 1 (.seq (.run [.o 11 (.ca bO cA 2), .o 12 (.load b8 true 2), .o 5 (.alloc [(.str []),(.bool false)]), .op none none (.store bo cp 2)]) (.run [.m 13 bI, .o 14 (.av bo 0), .o 15 (.load bU false 1), .o 16 (.cT [(.str [])] 1 1 [(0,cv)]), .o 17 (.app 1 16 bZ cm), .m 3 cO]))) (.run [.o 18 (.bin .add cA (.k (.int .i64 1))), .m 9 cK])
abbrev QIM:AC:= .block 0 (.loop (.seq (.run [.o 10 (.bin .lss cA cf)]) (.seq (.cond bW .skip (.exit 0)) QII)))
abbrev QIQ:AC:= .seq (.seq (.run [.o 6 (.av bn 1), .o 7 (.load bP false 1), .o 8 (.len bO), .o 9 (.mv (.k (.int .i64 0)))]) QIM) (.seq (.run [.m 19 bI, .o 20 (.av bn 2), .o 21 (.load dk false 1), .o 22 (.app 1 16 c6 dr), .m 2 dw]) .ret)
abbrev QIS:AC:= .seq (.run [.o 1 (.box aU), .o 2 (.mv (.k (.slice .full 0 [])))]) (.seq (.run [.o 3 (.mv (.k (.slice .full 0 [])))]) QIQ)
abbrev QIW:AC:= .seq (.run [.o 4 (.mv (.k (.bool false)))]) (.seq (.run [.m 5 aU, .m 6 bn, .c 7 jS [bo,bP], .o 8 (.bin .geq bO (.k (.int .i64 0))), .m 4 cf]) .ret)
abbrev QJ0:AC:= .seq (.run [.o 3 (.mv (.k (.bool false)))]) (.seq (.run [.o 4 (.av bn 0), .o 5 (.load cU false 1), .m 6 aU, .c 7 b7 [bo,bP], .m 3 bO]) .ret)
abbrev QJ4:AC:= .seq (.run [.o 4 (.mv (.k (.bool false)))]) (.seq (.run [.m 5 aU, .m 6 bn, .c 7 ie [bo,bP], .o 8 (.bin .geq bO (.k (.int .i64 0))), .m 4 cf]) .ret)
abbrev QJ6:AC:= .par [.m 5 aU, .o 6 (.db bo), .o 7 (.av bP 2), .o 8 (.load bO false 1), .m 9 aU, .o 10 (.db cA), .o 11 (.av bW 3), .o 12 (.load b8 false 1), .m 13 bn, .o 14 (.ca cp bZ 1), .o 15 (.load bU false 1), .o 16 (.bin .sub cv (.k (.int .i64 1))), .m 17 aU, .o 18 (.db cO), .o 19 (.av cK 4), .o 20 (.load c6 false 1), .m 21 bn, .o 22 (.ca dk dr 1), .o 23 (.load dw false 1), .o 24 (.bin .sub dz (.k (.int .i64 1))), .o 25 (.Fw 17 cf (some cm) (some da)), .m 4 c7] [(0,0),(1,0),(2,0),(3,0),(4,0),(5,0),(6,0),(7,0),(8,0),(9,0),(10,0),(11,0),(12,0),(13,0),(14,0),(15,0),(16,0),(17,0),(18,0),(19,0),(20,0),(21,0)]
abbrev QJ8:AC:= .seq (.run [.o 4 (.mv (.k (.slice .full 0 [])))]) (.seq QJ6 .ret)
abbrev QJH:AC:= .cond dw (.seq (.run [.o 8 (.mv (.k (.bool false)))]) .ret) .skip
abbrev QJJ:AC:= .seq (.run [.o 16 (.ca cp bU 1), .o 17 (.load cm false 1), .m 10 cO]) (.seq (.run [.o 18 (.load cU true 2), .o 19 (.load bo true 5), .m 20 bW, .c 21 tu [cK,c6,dk], .o 22 (.bin .eql dr (.k (.int .i64 0)))]) QJH)
abbrev QJN:AC:= .seq (.cond cv .skip (.exit 0)) (.seq (.block 1 QJJ) (.run [.o 23 (.bin .add bU (.k (.int .i64 1))), .m 14 dz]))
abbrev QJR:AC:= .seq (.run [.o 11 (.load bO true 13), .c 12 p9 [b8], .o 13 (.len cp), .o 14 (.mv (.k (.int .i64 0)))]) (.block 0 (.loop (.seq (.run [.o 15 (.bin .lss bU bZ)]) QJN)))
abbrev QJU:AC:= .seq QJR (.seq (.run [.o 24 (.av bO 1), .o 25 (.load da false 1), .o 26 (.bin .neq c7 (.k (.int .i64 4))), .m 27 eo, .g 28 27 false (.av bO 4), .g 29 27 false (.load eK false 1), .g 30 27 false (.bin .neq eG (.k (.str [109,97,105,110]))), .g 31 27 false (.mv eY), .g 32 31 true (.mv cH), .g 33 31 true (.av bO 4), .g 34 31 true (.load eV false 1), .d 35 31 true b7 [eZ,fh], .g 36 27 false (.pick eP fb (.k (.bool false))), .o 37 (.pick dP (.k (.bool true)) fm), .m 8 fy]) .ret)
abbrev QJV:AC:= .seq (.run [.o 4 (.box aU), .o 5 (.box bn), .o 7 (.box bI), .o 8 (.mv (.k (.bool false)))]) QJU
abbrev QK0:AC:= .cond cA (.seq (.run [.o 4 (.mv (.k (.bool false)))]) .ret) .skip
abbrev QKB:AC:= .seq (.run [.o 15 (.ca b8 bZ 5), .o 16 (.load cv true 5), .o 6 (.alloc [(.str []),(.slice .full 0 []),(.slice .full 0 []),(.slice .full 0 []),(.slice .full 0 [])]), .op none none (.store bP cm 5)]) (.seq (.run [.o 17 (.av bP 0), .o 18 (.load cO false 1), .o 19 (.av bI 4), .o 20 (.load c6 false 1), .o 21 (.bin .eql cK dk)]) (.cond dr (.seq (.run [.o 22 (.av bP 1), .o 23 (.load dw false 1), .o 24 (.av bI 10), .o 25 (.load da false 1), .c 26 tv [dz,c7], .m 4 eo]) .ret) .skip))
abbrev QKF:AC:= .seq (.cond bU .skip (.exit 0)) (.seq (.block 1 QKB) (.run [.o 27 (.bin .add bZ (.k (.int .i64 1))), .m 13 dP]))
abbrev QKJ:AC:= .seq (.run [.o 10 (.av cH 1), .o 11 (.load bW false 1), .o 12 (.len b8), .o 13 (.mv (.k (.int .i64 0)))]) (.block 0 (.loop (.seq (.run [.o 14 (.bin .lss bZ cp)]) QKF)))
abbrev QKM:AC:= .seq QKJ (.seq (.run [.o 4 (.mv (.k (.bool false)))]) .ret)
abbrev QKN:AC:= .seq (.seq (.run [.o 7 (.av bI 1), .o 8 (.load bO false 1), .o 9 (.bin .neq cf (.k (.int .i64 4)))]) QK0) QKM
abbrev QKO:AC:= .seq (.run [.o 2 (.box aU), .o 3 (.box bn), .o 4 (.mv (.k (.bool false)))]) QKN
abbrev QKU:AC:= .seq (.run [.o 3 (.load bn true 2), .c 4 kV [bI], .o 5 (.rl cU 0 false 1), .o 6 (.bin .neq bo (.k (.int .i64 0)))]) (.cond bP (.seq (.run [.o 2 (.mv (.k .eM))]) .ret) .skip)
abbrev QKY:AC:= .seq (.run [.o 1 (.box aU), .o 2 (.mv (.k .eM))]) (.seq QKU (.seq (.run [.o 7 (.load bn true 2), .c 8 ld [bO], .m 2 cf]) .ret))
abbrev QL7:AC:= .cond cm (.seq (.run [.m 17 aU, .m 4 cO, .o 5 (.mv (.k (.bool false)))]) .ret) .skip
abbrev QLC:AC:= .block 1 (.seq (.run [.o 12 (.ca cf bW 1), .o 13 (.load cp false 1), .m 7 bZ]) (.seq (.seq (.run [.m 14 aU, .m 15 bO, .c 16 b7 [bU,cv]]) QL7) (.run [.m 18 aU, .m 19 bO, .o 20 (.cT [(.str [])] 1 1 [(0,c6)]), .o 21 (.app 1 16 cK dk), .m 0 dr])))
abbrev QLF:AC:= .seq (.cond b8 .skip (.exit 0)) (.seq QLC (.run [.o 22 (.bin .add bW (.k (.int .i64 1))), .m 10 dw]))
abbrev QLJ:AC:= .seq (.run [.m 8 bn, .o 9 (.len cf), .o 10 (.mv (.k (.int .i64 0)))]) (.block 0 (.loop (.seq (.run [.o 11 (.bin .lss bW cA)]) QLF)))
abbrev QLM:AC:= .seq QLJ (.seq (.run [.m 23 aU, .m 4 dz, .o 5 (.mv (.k (.bool true)))]) .ret)
abbrev QLN:AC:= .seq (.run [.o 4 (.mv (.k (.slice .full 0 []))), .o 5 (.mv (.k (.bool false)))]) QLM
abbrev QLT:AC:= .seq (.run [.o 11 (.bin .eql cA (.k (.int .i64 7))), .m 10 b8]) (.cond bW .skip (.run [.o 12 (.bin .eql cA (.k (.int .i64 8))), .m 10 cp]))
abbrev QM3:AC:= .cond bW (.seq (.run [.o 13 (.av bI 16), .o 14 (.load bZ false 1), .o 15 (.bin .neq bU (.k (.int .i64 0))), .m 4 cv]) .ret) (.seq (.run [.o 17 (.bin .eql cA (.k (.int .i64 10))), .m 16 cO]) (.cond cm (.seq (.run [.m 19 aU, .o 20 (.av bI 13), .o 21 (.load dk false 1), .o 22 (.av bI 0), .o 23 (.av dw 3), .o 24 (.load dz false 1), .c 25 qa [c6,dr,da], .m 18 c7, .o 26 (.ext cK 0), .o 27 (.ext cK 1), .m 5 eo, .m 6 dP]) (.seq (.run [.m 28 bP, .m 4 eK]) .ret)) .skip))
abbrev QM9:AC:= .seq (.seq (.run [.o 7 (.av bI 0), .o 8 (.av bO 1), .o 9 (.load cf false 1)]) (.block 0 (.seq QLT QM3))) (.seq (.run [.o 4 (.mv (.k (.bool true)))]) .ret)
abbrev QMA:AC:= .seq (.run [.o 3 (.box bn), .o 4 (.mv (.k (.bool false)))]) QM9
abbrev QMF:AC:= .cond cm (.seq (.run [.o 4 (.mv (.k (.slice .full 0 [])))]) .ret) .skip
abbrev QMZ:AC:= .seq (.run [.o 43 (.ca gj gI 1), .o 44 (.load iI false 1), .m 12 jo]) (.seq (.run [.o 45 (.av cH 0), .o 46 (.load jG false 1), .m 47 cp, .c 48 b7 [jH,jT]]) (.cond iV (.run [.m 49 bP, .m 50 cp, .o 51 (.cT [(.str [])] 1 1 [(0,ky)]), .o 52 (.app 1 16 jq jI), .m 6 jU]) .skip))
abbrev QN3:AC:= .seq (.cond iz .skip (.exit 4)) (.seq (.block 5 QMZ) (.run [.o 53 (.bin .add gI (.k (.int .i64 1))), .m 41 kz]))
abbrev QN7:AC:= .seq (.run [.o 37 (.av bW 0), .o 38 (.load fy true 13), .c 39 p9 [gC], .o 40 (.len gj), .o 41 (.mv (.k (.int .i64 0)))]) (.block 4 (.loop (.seq (.run [.o 42 (.bin .lss gI gU)]) QN3)))
abbrev QNB:AC:= .seq (.block 3 (.seq (.run [.o 35 (.ca eP eV 17), .o 36 (.load fb true 17), .o 10 (.alloc [(.int .i64 0),(.int .i64 0),(.slice .full 0 []),(.str []),(.str []),(.int .i64 0),(.int .i64 0),(.str []),(.slice .full 0 []),(.bool false),(.slice .full 0 []),(.slice .full 0 []),(.slice .full 0 []),(.int .i64 0),(.int .i64 0),(.int .i64 0),(.int .i64 0)]), .op none none (.store bW fm 17)]) QN7)) (.run [.o 54 (.bin .add eV (.k (.int .i64 1))), .m 33 kT])
abbrev QNF:AC:= .block 2 (.loop (.seq (.run [.o 34 (.bin .lss eV eZ)]) (.seq (.cond fh .skip (.exit 2)) QNB)))
abbrev QNH:AC:= .seq (.run [.o 25 (.ca dr dz 1), .o 26 (.load c7 false 1), .m 8 eo]) (.seq (.run [.m 27 bo, .m 28 bo, .m 29 cf, .c 30 lR [eK,eG], .c 31 fT [dP,eY], .o 32 (.len eP), .o 33 (.mv (.k (.int .i64 0)))]) QNF)
abbrev QNL:AC:= .seq (.cond da .skip (.exit 0)) (.seq (.block 1 QNH) (.run [.o 55 (.bin .add dz (.k (.int .i64 1))), .m 23 lA]))
abbrev QNP:AC:= .seq (.run [.m 19 bo, .m 20 bn, .c 21 vt [c6,dk], .o 22 (.len dr), .o 23 (.mv (.k (.int .i64 0)))]) (.block 0 (.loop (.seq (.run [.o 24 (.bin .lss dz dw)]) QNL)))
abbrev QNW:AC:= .seq (.run [.o 17 (.load cH true 2), .c 18 ld [cO], .m 5 cK]) (.seq (.run [.o 6 (.mv (.k (.slice .full 0 [])))]) (.seq QNP (.seq (.run [.m 56 bP, .c 57 iw [mI]]) (.seq (.run [.m 58 bP, .c 59 iK [mJ], .m 4 kU]) .ret))))
abbrev QNY:AC:= .seq (.run [.o 2 (.box aU), .o 4 (.mv (.k (.slice .full 0 [])))]) (.seq (.seq (.run [.o 13 (.load cH true 2), .m 14 bn, .c 15 sb [bZ,bU], .o 16 (.un .not cv)]) QMF) QNW)
abbrev QOB:AC:= .cond fh (.seq (.run [.o 4 (.mv (.k (.bool false)))]) .ret) .skip
abbrev QOE:AC:= .seq (.seq (.run [.m 18 bo, .o 19 (.av bO 1), .o 20 (.load c6 false 1), .c 21 b7 [cK,dk], .m 22 dr, .g 23 22 false (.av bO 1), .g 24 22 false (.load dz false 1), .g 25 22 false (.av cH 3), .g 26 22 false (.load c7 false 1), .g 27 22 false (.bin .eql da eo), .o 28 (.pick dw (.k (.bool true)) dP), .m 29 eK, .g 30 29 false (.mv bn), .g 31 29 false (.av bO 1), .g 32 29 false (.load eP false 1), .d 33 29 false b7 [eY,eZ], .o 34 (.pick eG (.k (.bool true)) eV)]) QOB) (.run [.m 35 bo, .o 36 (.av bO 1), .o 37 (.load fm false 1), .o 38 (.cT [(.str [])] 1 1 [(0,fy)]), .o 39 (.app 1 16 fb gC), .m 5 gj])
abbrev QOH:AC:= .block 1 (.seq (.run [.o 13 (.ca cA b8 6), .o 14 (.load bZ true 6), .o 7 (.alloc [(.bool false),(.str []),(.int .i64 0),(.int .i64 0),(.str []),(.slice .full 0 [])]), .op none none (.store bO bU 6)]) (.seq (.seq (.run [.o 15 (.av bO 0), .o 16 (.load cv false 1), .o 17 (.un .not cm)]) (.cond cO (.exit 1) .skip)) QOE))
abbrev QOK:AC:= .seq (.cond cp .skip (.exit 0)) (.seq QOH (.run [.o 40 (.bin .add b8 (.k (.int .i64 1))), .m 11 gU]))
abbrev QOO:AC:= .seq (.run [.o 8 (.av cH 10), .o 9 (.load cf false 1), .o 10 (.len cA), .o 11 (.mv (.k (.int .i64 0)))]) (.block 0 (.loop (.seq (.run [.o 12 (.bin .lss b8 bW)]) QOK)))
abbrev QOR:AC:= .seq QOO (.seq (.run [.o 4 (.mv (.k (.bool true)))]) .ret)
abbrev QOT:AC:= .seq (.run [.o 2 (.box aU), .o 4 (.mv (.k (.bool false)))]) (.seq (.run [.o 5 (.mv (.k (.slice .full 0 [])))]) QOR)
abbrev QP0:AC:= .seq (.run [(.o 13 (.build [(.int .i64 0),(.int .i64 0)] [(0,(1,(.k (.int .i64 4))))])), .o 2 (.mv (.k (.slice .full 0 []))), .op none none (.store bI bZ 2)]) .ret
abbrev QP6:AC:= .cond cO (.seq (.run [.m 18 cU, .m 19 aU, .o 20 (.ll c6), .o 21 (.build [(.int .i64 0),(.str []),(.int .i64 0),(.int .i64 0)] [(3,(1,dk))]), .o 22 (.cT [(.int .i64 0),(.str []),(.int .i64 0),(.int .i64 0)] 4 1 [(0,dr)]), .o 23 (.app 4 40 cK dw), .o 24 (.build [(.int .i64 0),(.int .i64 0)] []), .m 2 dz, .op none none (.store bI da 2)]) .ret) .skip
abbrev QPK:AC:= .cond jT (.goto 1) (.seq (.run [.m 51 cA, .c 52 nU [jI], .m 50 jU]) (.cond ky (.goto 2) (.seq (.run [.m 54 cA, .c 55 oM [kT], .m 53 lA]) (.cond kz (.goto 3) .skip))))
abbrev QPM:AC:= .cond eY (.seq (.run [.m 45 bP, .o 46 (.bin .add jG (.k (.int .i64 1))), .m 6 jH]) (.goto 0)) (.seq (.run [.m 48 cA, .o 49 (.bin .eql iV (.k (.int .u8 35))), .m 47 jq]) QPK)
abbrev QPO:AC:= .block 0 (.seq (.run [.m 31 cA, .o 32 (.bin .eql eP (.k (.int .u8 32))), .m 33 eZ, .g 34 33 false (.mv cA), .g 35 33 false (.bin .eql fh (.k (.int .u8 9))), .o 36 (.pick eV (.k (.bool true)) fb), .m 37 fm, .g 38 37 false (.mv cA), .g 39 37 false (.bin .eql gC (.k (.int .u8 10))), .o 40 (.pick fy (.k (.bool true)) gj), .m 41 gU, .g 42 41 false (.mv cA), .g 43 41 false (.bin .eql iz (.k (.int .u8 13))), .o 44 (.pick gI (.k (.bool true)) iI), .m 30 jo]) QPM)
abbrev QQ2:AC:= .seq (.seq (.run [.m 72 bP, .m 73 aU, .o 74 (.ll yO), .o 75 (.bin .lss w9 yP), .m 76 yQ, .g 77 76 true (.mv aU), .g 78 76 true (.mv bP), .g 79 76 true (.nJ yR xb), .g 80 76 true (.bin .neq CR (.k (.int .u8 10))), .o 81 (.pick xa CS (.k (.bool false)))]) (.cond yS .skip (.exit 1))) (.block 2 (.run [.m 82 bP, .o 83 (.bin .add CT (.k (.int .i64 1))), .m 6 CW]))
abbrev QQ6:AC:= .par [.m 87 aU, .o 88 (.av bo 3), .o 89 (.load C1 false 1), .m 90 bP, .o 91 (.va C0 (some C2) (some C3)), .o 92 (.av bo 0), .op none none (.store C5 (.k (.int .i64 1)) 1), .o 93 (.av bo 1), .op none none (.store Gq C4 1)] [(1,0),(2,0),(5,0),(6,0),(0,0),(3,0),(4,0),(7,0),(8,0)]
abbrev QQA:AC:= .seq (.run [.o 94 (.av bo 1), .o 95 (.load Gr false 1), .c 96 sM [Gs]]) (.cond LN (.run [.o 97 (.av bo 0), .op none none (.store Sq (.k (.int .i64 3)) 1)]) .skip)
abbrev Zy:AC:= .seq (.seq (.run [.m 103 bP, .m 104 aU, .o 105 (.ll LS), .o 106 (.bin .lss LR LU), .m 107 LV, .g 108 107 true (.mv aU), .g 109 107 true (.mv bP), .g 110 107 true (.nJ LX LY), .d 111 107 true oM [LZ], .o 112 (.pick LW L0 (.k (.bool false)))]) (.cond L1 .skip (.exit 3))) (.block 4 (.run [.m 113 bP, .o 114 (.bin .add L2 (.k (.int .i64 1))), .m 6 L3]))
abbrev QQN:AC:= .par [.m 115 aU, .o 116 (.av bo 3), .o 117 (.load L5 false 1), .m 118 bP, .o 119 (.va L4 (some L6) (some L7)), .o 120 (.av bo 0), .op none none (.store L9 (.k (.int .i64 2)) 1), .o 121 (.av bo 1), .op none none (.store Ma L8 1), .o 7 (.mv (.k (.int .i64 2)))] [(1,0),(2,0),(5,0),(6,0),(0,0),(3,0),(4,0),(7,0),(8,0),(9,0)]
abbrev QR1:AC:= .par [.m 148 bO, .o 149 (.av bo 3), .o 150 (.load Vm false 1), .o 151 (.build [(.int .i64 0),(.int .i64 0)] [(0,(1,Vl)),(1,(1,Vn))]), .o 2 (.mv (.k (.slice .full 0 []))), .op none none (.store bI Vo 2)] [(0,0),(1,0),(2,0),(3,0),(4,0),(5,0)]
abbrev QR6:AC:= .seq (.seq (.run [.m 141 cU, .o 142 (.len Vg), .o 143 (.bin .eql Vh (.k (.int .i64 2000)))]) (.cond Mh (.goto 5) .skip)) (.seq (.run [.m 144 cU, .o 145 (.load bo true 4), .o 146 (.cT [(.int .i64 0),(.str []),(.int .i64 0),(.int .i64 0)] 4 1 [(0,Ff)]), .o 147 (.app 4 40 Vi Vj), .m 4 Vk]) (.seq (.goto 0) (.seq (.label 5) (.seq QR1 .ret))))
abbrev QR8:AC:= .seq (.label 4) (.seq (.run [.o 7 (.mv (.k (.int .i64 4)))]) QR6)
abbrev QRB:AC:= .seq (.run [.o 133 (.av bo 1), .o 134 (.load U8 false 1), .c 135 tw [U9], .m 132 Va, .o 136 (.ext Mg 0), .o 137 (.ext Mg 1), .o 138 (.av bo 2), .op none none (.store Vd Vb 1), .m 8 Vc]) (.seq (.run [.o 7 (.mv (.k (.int .i64 4)))]) (.seq (.seq (.run [.m 139 cf, .o 140 (.un .not Ve)]) (.cond Vf (.goto 5) .skip)) QR8))
abbrev QRC:AC:= .seq (.seq (.run [.o 122 (.av bo 1), .o 123 (.load Mb false 1), .o 124 (.ll Mc), .o 125 (.bin .gtr Md (.k (.int .i64 1))), .m 126 Me, .g 127 126 true (.av bo 1), .g 128 126 true (.load U3 false 1), .g 129 126 true (.nJ U4 (.k (.int .i64 0))), .g 130 126 true (.bin .eql U5 (.k (.int .u8 48))), .o 131 (.pick Mf U6 (.k (.bool false)))]) (.cond U7 (.goto 5) .skip)) QRB
abbrev Zz:AC:= .seq QQN QRC
abbrev QRH:AC:= .seq (.seq (.run [.m 98 bP, .o 99 (.av bo 3), .o 100 (.load Ss false 1), .o 101 (.bin .sub Sr LO), .o 102 (.bin .gtr LP (.k (.int .i64 8)))]) (.cond LQ (.goto 5) .skip)) (.seq (.goto 4) (.seq (.label 3) (.seq (.block 3 (.loop Zy)) Zz)))
abbrev QRJ:AC:= .seq QQA (.seq (.run [.o 7 (.mv (.k (.int .i64 4)))]) QRH)
abbrev QRP:AC:= .seq (.label 1) (.seq (.block 1 (.loop QQ2)) (.seq (.goto 0) (.seq (.label 2) (.seq (.run [.m 84 aU, .m 85 bP, .c 86 uE [CX,CY], .m 6 CZ]) (.seq QQ6 QRJ)))))
abbrev QRT:AC:= .seq (.run [.m 62 aU, .o 63 (.av bo 3), .o 64 (.load qf false 1), .m 65 bP, .o 66 (.va qe (some qO) (some tC)), .o 67 (.av bo 1), .op none none (.store qP vx 1)]) (.seq (.run [.o 7 (.mv (.k (.int .i64 2)))]) (.seq (.seq (.run [.m 68 bP, .o 69 (.av bo 3), .o 70 (.load vy false 1), .o 71 (.bin .gtr tD tE)]) (.cond yN (.goto 4) .skip)) (.seq (.goto 5) QRP)))
abbrev QRW:AC:= .seq (.seq (.run [.m 27 aU, .m 28 bP, .o 29 (.nJ dP eK), .m 9 eG]) QPO) (.seq (.run [.o 56 (.av bo 0), .op none none (.store mI (.k (.int .i64 4)) 1)]) (.seq (.run [.m 57 bP, .m 58 aU, .m 59 bP, .c 60 w7 [mJ,kU], .o 61 (.bin .add ni oA), .m 6 pg]) QRT))
abbrev yT:AC:= .seq (.seq (.run [.m 14 bP, .m 15 aU, .o 16 (.ll cv), .o 17 (.bin .geq bU cm)]) QP6) (.seq (.run [.m 25 bP, .o 26 (.build [(.int .i64 0),(.str []),(.int .i64 0),(.int .i64 0)] [(3,(1,c7))]), .op none none (.store bo eo 4)]) QRW)
abbrev QS0:AC:= .seq (.seq (.run [.m 10 aU, .o 11 (.ll bW), .o 12 (.bin .gtr b8 (.k (.int .i64 100000)))]) (.cond cp QP0 .skip)) (.seq (.label 0) yT)
abbrev QS2:AC:= .seq (.run [.o 5 (.alloc [(.int .i64 0),(.str []),(.int .i64 0),(.int .i64 0)])]) (.seq (.run [.o 6 (.mv (.k (.int .i64 0))), .o 7 (.mv (.k (.int .i64 0))), .o 8 (.mv (.k (.bool true)))]) QS0)
abbrev tF:AC:= .seq (.run [.o 4 (.mv (.k (.slice .full 0 [])))]) QS2
abbrev QS4:AC:= .scope tF
abbrev QS5:AC:= .seq (.run [.o 2 (.mv (.k (.slice .full 0 []))), .o 3 (.alloc [(.int .i64 0),(.int .i64 0)])]) QS4
abbrev QSD:AC:= .seq (.seq (.run [.m 4 aU,(.c 5 di [cU,(.k (.str [103,108,111,98,97,108]))])]) (.cond bo .skip (.exit 0))) (.block 1 (.run [.m 6 aU, .o 7 (.av bI 0), .o 8 (.load bO false 1), .c 9 ix [bP,cf,(.k (.int .i64 16))], .o 10 (.av bI 0), .op none none (.store bW cA 1)]))
abbrev QSP:AC:= .seq (.run [.o 17 (.av bI 1), .o 18 (.load cO false 1), .o 19 (.len cK), .o 20 (.bin .eql c6 (.k (.int .i64 16)))]) (.cond dk (.seq (.run [.m 21 aU, .c 22 ew [dr,(.k (.int .i64 4))]]) (.seq (.run [.o 23 (.load bI true 2), .op none none (.store cH dz 2)]) .ret)) .skip)
abbrev QSR:AC:= .par [.o 31 (.av bI 1), .o 32 (.load eP false 1), .m 33 aU, .c 34 ng [eV], .o 35 (.cT [(.str []),(.slice .full 0 []),(.slice .full 0 []),(.slice .full 0 []),(.slice .full 0 [])] 5 1 [(0,fh)]), .o 36 (.app 5 112 eZ fb), .o 37 (.av bI 1), .op none none (.store fy fm 1)] [(2,0),(3,0),(0,0),(1,1),(4,0),(5,0),(6,0),(7,0)]
abbrev QST:AC:= .seq QSP (.seq (.run [.m 24 aU, .o 25 (.db da), .o 26 (.av c7 1), .o 27 (.load eo false 1), .o 28 (.bin .add dP (.k (.int .i64 1))), .o 29 (.db da), .o 30 (.av eG 1), .op none none (.store eY eK 1)]) QSR)
abbrev QSV:AC:= .seq (.seq (.run [.m 11 aU, .c 12 cr [b8], .m 13 cp, .g 14 13 true (.mv aU),(.d 15 13 true eW [bU,(.k (.str [112,114,111,99]))]), .o 16 (.pick bZ cv (.k (.bool false)))]) (.cond cm .skip (.exit 2))) (.block 3 QST)
abbrev QT4:AC:= .seq (.seq (.run [.m 38 aU, .c 39 cr [gC], .m 40 gj, .g 41 40 true (.mv aU), .d 42 40 true dj [gI], .g 43 40 true (.rl iz 0 false 1), .g 44 40 true (.bin .neq iI (.k (.int .i64 0))), .o 45 (.pick gU jo (.k (.bool false)))]) (.cond jG (.run [.m 46 aU, .c 47 ew [jH,(.k (.int .i64 3))]]) .skip)) (.seq (.run [.o 48 (.load bI true 2), .op none none (.store cH iV 2)]) .ret)
abbrev QT8:AC:= .seq (.run [.o 2 (.alloc [(.slice .full 0 []),(.slice .full 0 [])])]) (.seq (.run [.o 3 (.alloc [(.slice .full 0 []),(.slice .full 0 [])])]) (.seq (.block 0 (.loop QSD)) (.seq (.block 2 (.loop QSV)) QT4)))
abbrev QTG:AC:= .par [.o 19 (.av bP 0), .o 20 (.load c6 false 1), .o 21 (.av bP 1), .o 22 (.load dr false 1), .c 23 kx [dw], .o 24 (.av bP 2), .o 25 (.load da false 1), .c 26 gb [c7], .o 27 (.av bP 4), .o 28 (.load dP false 1), .c 29 gb [eK], .o 30 (.build [(.str []),(.slice .full 0 []),(.slice .full 0 []),(.slice .full 0 []),(.slice .full 0 [])] [(0,(1,dk)),(1,(1,dz)),(2,(1,eo)),(4,(1,eG))]), .o 7 (.alloc [(.str []),(.slice .full 0 []),(.slice .full 0 []),(.slice .full 0 []),(.slice .full 0 [])]), .op none none (.store bO eY 5)] [(2,0),(3,0),(4,0),(5,0),(6,1),(7,0),(8,0),(9,2),(10,0),(12,0),(0,0),(1,4),(11,0),(13,0)]
abbrev QTL:AC:= .seq (.run [.o 17 (.ca bZ cv 5), .o 18 (.load cO true 5), .o 6 (.alloc [(.str []),(.slice .full 0 []),(.slice .full 0 []),(.slice .full 0 []),(.slice .full 0 [])]), .op none none (.store bP cK 5)]) (.seq QTG (.seq (.run [.o 32 (.av bP 3), .o 33 (.load eZ false 1), .m 34 bI, .c 35 jE [eV,fh,(.k (.bool true))], .m 31 fb, .o 36 (.ext eP 0), .o 37 (.ext eP 1), .o 38 (.av bO 3), .op none none (.store gC fm 1), .m 3 fy]) (.run [.o 39 (.av cU 1), .o 40 (.load gj false 1), .o 41 (.load bO true 5), .o 42 (.cT [(.str []),(.slice .full 0 []),(.slice .full 0 []),(.slice .full 0 []),(.slice .full 0 [])] 5 1 [(0,gI)]), .o 43 (.app 5 112 gU iz), .o 44 (.av cU 1), .op none none (.store jo iI 1)])))
abbrev QTP:AC:= .seq (.cond cm .skip (.exit 0)) (.seq (.block 1 QTL) (.run [.o 45 (.bin .add cv (.k (.int .i64 1))), .m 15 jG]))
abbrev QTT:AC:= .seq (.run [.o 12 (.av bn 1), .o 13 (.load cp false 1), .o 14 (.len bZ), .o 15 (.mv (.k (.int .i64 0)))]) (.block 0 (.loop (.seq (.run [.o 16 (.bin .lss cv bU)]) QTP)))
abbrev QTY:AC:= .seq (.run [.o 3 (.mv (.k (.int .i64 0)))]) (.seq (.run [.o 8 (.av bn 0), .o 9 (.load cf false 1), .c 10 gb [cA], .o 11 (.build [(.slice .full 0 []),(.slice .full 0 [])] [(0,(1,bW))]), .o 4 (.alloc [(.slice .full 0 []),(.slice .full 0 [])]), .op none none (.store cU b8 2)]) (.seq QTT (.seq (.run [.o 46 (.load cU true 2), .op none none (.store cH jH 2)]) .ret)))
abbrev QTZ:AC:= .seq (.run [.o 1 (.box aU), .o 2 (.alloc [(.slice .full 0 []),(.slice .full 0 [])])]) QTY
abbrev QU3:AC:= .seq (.run [.o 2 (.mv (.k (.bool false)))]) (.seq (.run [.m 3 aU, .o 4 (.bin .geq bI (.k (.int .u8 97))), .m 5 cU, .g 6 5 true (.mv aU), .g 7 5 true (.bin .leq bP (.k (.int .u8 122))), .o 8 (.pick bo bO (.k (.bool false))), .m 2 cf]) .ret)
abbrev QUA:AC:= .seq (.seq (.run [.m 5 bn, .m 6 aU, .o 7 (.ll bP), .o 8 (.bin .lss bo bO), .m 9 cf, .g 10 9 true (.mv aU), .g 11 9 true (.mv bn), .g 12 9 true (.nJ bW b8), .d 13 9 true nU [cp], .g 14 9 true (.mv bZ), .g 15 14 false (.mv aU), .g 16 14 false (.mv bn), .g 17 14 false (.nJ cv cm), .d 18 14 false oM [cO], .g 19 9 true (.pick bU (.k (.bool true)) cK), .o 20 (.pick cA c6 (.k (.bool false)))]) (.cond dk .skip (.exit 0))) (.block 1 (.run [.m 21 bn, .o 22 (.bin .add dr (.k (.int .i64 1))), .m 1 dw]))
abbrev QUG:AC:= .seq (.run [.o 4 (.mv (.k (.int .i64 0)))]) (.seq (.block 0 (.loop QUA)) (.seq (.run [.m 23 bn, .m 4 dz]) .ret))
abbrev QUX:AC:= .seq (.run [.o 16 (.bin .eql bI (.k (.str [114,101,97,100]))), .m 4 cm]) (.cond cU .skip (.run [.o 17 (.bin .eql bI (.k (.str [112,114,105,110,116]))), .m 4 cO]))
abbrev QV0:AC:= .cond cU .skip (.seq (.run [.o 15 (.bin .eql bI (.k (.str [103,111,116,111]))), .m 4 cv]) (.cond cU .skip QUX))
abbrev QV2:AC:= .cond cU .skip (.seq (.run [.o 14 (.bin .eql bI (.k (.str [114,101,116,117,114,110]))), .m 4 bU]) QV0)
abbrev QV4:AC:= .cond cU .skip (.seq (.run [.o 13 (.bin .eql bI (.k (.str [99,111,110,116,105,110,117,101]))), .m 4 bZ]) QV2)
abbrev QV6:AC:= .cond cU .skip (.seq (.run [.o 12 (.bin .eql bI (.k (.str [98,114,101,97,107]))), .m 4 cp]) QV4)
abbrev QV8:AC:= .cond cU .skip (.seq (.run [.o 11 (.bin .eql bI (.k (.str [119,104,105,108,101]))), .m 4 b8]) QV6)
abbrev QVA:AC:= .cond cU .skip (.seq (.run [.o 10 (.bin .eql bI (.k (.str [101,108,115,101]))), .m 4 bW]) QV8)
abbrev QVC:AC:= .cond cU .skip (.seq (.run [.o 9 (.bin .eql bI (.k (.str [105,102]))), .m 4 cA]) QVA)
abbrev QVE:AC:= .cond cU .skip (.seq (.run [.o 8 (.bin .eql bI (.k (.str [114,101,102]))), .m 4 cf]) QVC)
abbrev QVG:AC:= .cond cU .skip (.seq (.run [.o 7 (.bin .eql bI (.k (.str [118,97,114]))), .m 4 bO]) QVE)
abbrev QVI:AC:= .cond cU .skip (.seq (.run [.o 6 (.bin .eql bI (.k (.str [112,114,111,99]))), .m 4 bP]) QVG)
abbrev QVM:AC:= .cond cU (.seq (.run [.o 2 (.mv (.k (.bool true)))]) .ret) .skip
abbrev QVN:AC:= .seq (.seq (.run [.o 5 (.bin .eql bI (.k (.str [103,108,111,98,97,108]))), .m 4 bo]) QVI) QVM
abbrev QVS:AC:= .seq (.seq (.run [.m 3 aU]) (.block 0 QVN)) (.seq (.run [.o 2 (.mv (.k (.bool false)))]) .ret)
abbrev QVT:AC:= .seq (.run [.o 2 (.mv (.k (.bool false)))]) QVS
end Go.Abs

/-! Have1 -/

namespace Go.Abs
open Go.Proofs
theorem BF:Has Tryz.prog r9 1 [(0,none)] QCQ:=⟨Tryz.f44,by kernel_rfl,by kernel_rfl⟩
theorem EO:Has Tryz.prog vq 40 [(0,(some (true,2)))] QCY:=⟨Tryz.f45,by kernel_rfl,by kernel_rfl⟩
theorem AL:Has Tryz.prog kl 26 [(4,none)] QDR:=⟨Tryz.f54,by kernel_rfl,by kernel_rfl⟩
theorem AN:Has Tryz.prog km 27 [(4,none)] QEK:=⟨Tryz.f55,by kernel_rfl,by kernel_rfl⟩
theorem C7:Has Tryz.prog l5 15 [(2,none)] QF7:=⟨Tryz.f56,by kernel_rfl,by kernel_rfl⟩
theorem qg:Has Tryz.prog jl 71 [(6,none)] QG8:=⟨Tryz.f57,by kernel_rfl,by kernel_rfl⟩
theorem ua:Has Tryz.prog ie 19 [(4,none)] QGV:=⟨Tryz.f58,by kernel_rfl,by kernel_rfl⟩
theorem BG:Has Tryz.prog mT 18 [(2,none)] QHI:=⟨Tryz.f59,by kernel_rfl,by kernel_rfl⟩
theorem Gv:Has Tryz.prog ld 55 [(2,none)] QI7:=⟨Tryz.f60,by kernel_rfl,by kernel_rfl⟩
theorem EP:Has Tryz.prog vr 23 [(2,none)] QIS:=⟨Tryz.f61,by kernel_rfl,by kernel_rfl⟩
theorem qh:Has Tryz.prog fl 9 [(4,none)] QIW:=⟨Tryz.f62,by kernel_rfl,by kernel_rfl⟩
theorem zJ:Has Tryz.prog nC 8 [(3,none)] QJ0:=⟨Tryz.f63,by kernel_rfl,by kernel_rfl⟩
theorem se:Has Tryz.prog b7 9 [(4,none)] QJ4:=⟨Tryz.f64,by kernel_rfl,by kernel_rfl⟩
theorem zK:Has Tryz.prog fT 26 [(4,none)] QJ8:=⟨Tryz.f65,by kernel_rfl,by kernel_rfl⟩
theorem BH:Has Tryz.prog o7 38 [(8,none)] QJV:=⟨Tryz.f66,by kernel_rfl,by kernel_rfl⟩
theorem vX:Has Tryz.prog tr 28 [(4,none)] QKO:=⟨Tryz.f67,by kernel_rfl,by kernel_rfl⟩
theorem vY:Has Tryz.prog pZ 9 [(2,none)] QKY:=⟨Tryz.f68,by kernel_rfl,by kernel_rfl⟩
theorem ER:Has Tryz.prog oL 24 [(4,none),(5,none)] QLN:=⟨Tryz.f69,by kernel_rfl,by kernel_rfl⟩
theorem oa:Has Tryz.prog tt 29 [(4,none)] QMA:=⟨Tryz.f70,by kernel_rfl,by kernel_rfl⟩
theorem sv:Has Tryz.prog p6 60 [(4,none)] QNY:=⟨Tryz.f71,by kernel_rfl,by kernel_rfl⟩
theorem AP:Has Tryz.prog qN 41 [(4,none)] QOT:=⟨Tryz.f72,by kernel_rfl,by kernel_rfl⟩
theorem Iw:Has Tryz.prog yK 152 [(2,none),(3,(some (true,2)))] QS5:=⟨Tryz.f73,by kernel_rfl,by kernel_rfl⟩
theorem tG:Has Tryz.prog lx 49 [(2,(some (true,2)))] QT8:=⟨Tryz.f74,by kernel_rfl,by kernel_rfl⟩
theorem BI:Has Tryz.prog o8 47 [(2,(some (true,2)))] QTZ:=⟨Tryz.f75,by kernel_rfl,by kernel_rfl⟩
theorem C8:Has Tryz.prog nU 9 [(2,none)] QU3:=⟨Tryz.f76,by kernel_rfl,by kernel_rfl⟩
theorem Ix:Has Tryz.prog uE 24 [(4,none)] QUG:=⟨Tryz.f77,by kernel_rfl,by kernel_rfl⟩
theorem Gw:Has Tryz.prog sM 18 [(2,none)] QVT:=⟨Tryz.f78,by kernel_rfl,by kernel_rfl⟩
end Go.Abs

/-! Codes2 -/

namespace Go.Abs
abbrev QW0:AC:= .par [.m 12 bI, .m 13 aU, .m 14 cU, .o 15 (.ca bZ bU 13), .o 16 (.av cv 11), .o 17 (.load cm false 1), .c 18 jm [cO], .m 19 aU, .m 20 cU, .o 21 (.ca c6 dk 13), .o 22 (.av dr 12), .o 23 (.load dw false 1), .c 24 jm [dz], .o 25 (.bin .add cK da), .o 26 (.bin .add cp c7), .m 3 eo] [(1,0),(2,0),(3,0),(4,0),(5,0),(6,0),(7,0),(8,0),(9,0),(10,0),(11,1),(12,0),(0,0),(13,0),(14,0),(15,0)]
abbrev QW5:AC:= .seq (.cond bW .skip (.exit 0)) (.seq (.block 1 (.seq (.run [.m 11 cA, .m 4 b8]) QW0)) (.run [.o 27 (.bin .add cA (.k (.int .i64 1))), .m 9 dP]))
abbrev QW9:AC:= .seq (.run [.m 7 aU, .o 8 (.len bO), .o 9 (.mv (.k (.int .i64 0)))]) (.block 0 (.loop (.seq (.run [.o 10 (.bin .lss cA cf)]) QW5)))
abbrev QWE:AC:= .seq (.run [.o 2 (.mv (.k (.int .i64 0)))]) (.seq (.run [.m 5 aU, .o 6 (.len bo), .m 3 bP]) (.seq QW9 (.seq (.run [.m 28 bI, .m 2 eK]) .ret)))
abbrev QWH:AC:= .seq (.run [.m 3 aU,(.o 4 (.build [(.int .i64 0),(.int .i64 0),(.str []),(.slice .full 0 [])] [(0,(1,(.k (.int .i64 1)))),(1,(1,bI))])), .op none none (.store cH cU 4)]) .ret
abbrev QWI:AC:= .seq (.run [.o 2 (.alloc [(.int .i64 0),(.int .i64 0),(.str []),(.slice .full 0 [])])]) QWH
abbrev QWL:AC:= .seq (.run [.m 3 aU,(.o 4 (.build [(.int .i64 0),(.int .i64 0),(.str []),(.slice .full 0 [])] [(0,(1,(.k (.int .i64 2)))),(2,(1,bI))])), .op none none (.store cH cU 4)]) .ret
abbrev QWM:AC:= .seq (.run [.o 2 (.alloc [(.int .i64 0),(.int .i64 0),(.str []),(.slice .full 0 [])])]) QWL
abbrev QWQ:AC:= .seq (.run [.o 4 (.box bn), .o 5 (.box cH), .o 6 (.alloc [(.int .i64 0),(.int .i64 0),(.str []),(.slice .full 0 [])])]) (.seq (.run [.m 7 aU, .o 8 (.load cU true 4), .o 9 (.load bo true 4), .o 10 (.cT [(.int .i64 0),(.int .i64 0),(.str []),(.slice .full 0 [])] 4 2 [(0,cf),(1,cA)]), .o 11 (.build [(.int .i64 0),(.int .i64 0),(.str []),(.slice .full 0 [])] [(0,(1,bO)),(3,(1,bW))]), .op none none (.store bP b8 4)]) .ret)
abbrev QWS:AC:= .run [.o 6 (.av cH 0), .o 7 (.load bP false 1), .o 8 (.av bI 0), .o 9 (.load cf false 1), .o 10 (.bin .neq bO cA), .m 11 bW, .g 12 11 false (.av cH 1), .g 13 11 false (.load cp false 1), .g 14 11 false (.av bI 1), .g 15 11 false (.load bU false 1), .g 16 11 false (.bin .neq bZ cv), .o 17 (.pick b8 (.k (.bool true)) cm), .m 18 cO, .g 19 18 false (.av cH 3), .g 20 18 false (.load c6 false 1), .g 21 18 false (.av bI 3), .g 22 18 false (.load dr false 1), .g 23 18 false (.bin .neq dk dw), .o 24 (.pick cK (.k (.bool true)) dz), .m 25 da, .g 26 25 false (.av cH 4), .g 27 25 false (.load eo false 1), .g 28 25 false (.av bI 4), .g 29 25 false (.load eK false 1), .g 30 25 false (.bin .neq dP eG), .o 31 (.pick c7 (.k (.bool true)) eY), .m 32 eP, .g 33 32 false (.av cH 9), .g 34 32 false (.load eV false 1), .g 35 32 false (.av bI 9), .g 36 32 false (.load fb false 1), .g 37 32 false (.xH true fh fm), .o 38 (.pick eZ (.k (.bool true)) fy), .m 39 gC, .g 40 39 false (.av cH 2), .g 41 39 false (.load gU false 1), .g 42 39 false (.av bI 2), .g 43 39 false (.load iz false 1), .d 44 39 false kl [gI,iI], .g 45 39 false (.un .not jo), .o 46 (.pick gj (.k (.bool true)) jG), .m 47 jH, .g 48 47 false (.av cH 5), .g 49 47 false (.load iV true 4), .g 50 47 false (.av bI 5), .g 51 47 false (.load ky true 4), .d 52 47 false jF [jq,jI], .g 53 47 false (.un .not jU), .o 54 (.pick jT (.k (.bool true)) kz), .m 55 kT, .g 56 55 false (.av cH 10), .g 57 55 false (.load mI false 1), .g 58 55 false (.len ni), .g 59 55 false (.av bI 10), .g 60 55 false (.load kU false 1), .g 61 55 false (.len oA), .g 62 55 false (.bin .neq mJ pg), .o 63 (.pick lA (.k (.bool true)) qe)]
abbrev QWV:AC:= .cond qf (.seq (.run [.o 4 (.mv (.k (.bool false)))]) .ret) .skip
abbrev QX1:AC:= .par [.o 70 (.av cH 10), .o 71 (.load tE false 1), .m 72 bo, .o 73 (.ca yN w9 6), .o 74 (.av yO 0), .o 75 (.load yP false 1), .o 76 (.av bI 10), .o 77 (.load xa false 1), .m 78 bo, .o 79 (.ca yR xb 6), .o 80 (.av CR 0), .o 81 (.load CS false 1), .o 82 (.xH true yQ yS), .m 83 CT, .g 84 83 false (.av cH 10), .g 85 83 false (.load CX false 1), .g 86 83 false (.mv bo), .g 87 83 false (.ca CY CZ 6), .g 88 83 false (.av C0 1), .g 89 83 false (.load C1 false 1), .g 90 83 false (.av bI 10), .g 91 83 false (.load C3 false 1), .g 92 83 false (.mv bo), .g 93 83 false (.ca C4 C5 6), .g 94 83 false (.av Gq 1), .g 95 83 false (.load Gr false 1), .g 96 83 false (.bin .neq C2 Gs), .o 97 (.pick CW (.k (.bool true)) LN), .m 98 Sq, .g 99 98 false (.av cH 10), .g 100 98 false (.load Ss false 1), .g 101 98 false (.mv bo), .g 102 98 false (.ca LO LP 6), .g 103 98 false (.av LQ 2), .g 104 98 false (.load LR true 4), .g 105 98 false (.av bI 10), .g 106 98 false (.load LU false 1), .g 107 98 false (.mv bo), .g 108 98 false (.ca LV LW 6), .g 109 98 false (.av LX 2), .g 110 98 false (.load LY true 4), .d 111 98 false jF [LS,LZ], .g 112 98 false (.un .not L0), .o 113 (.pick Sr (.k (.bool true)) L1)] [(0,0),(1,0),(2,0),(3,0),(4,0),(5,0),(6,0),(7,0),(8,0),(9,0),(10,0),(11,0),(12,0),(13,0),(14,0),(15,0),(16,0),(17,0),(18,0),(19,0),(20,0),(21,0),(22,0),(23,0),(24,0),(25,0),(26,0),(27,0),(28,0),(29,0),(30,0),(31,0),(32,0),(33,0),(34,0),(35,0),(36,0),(37,0),(38,0),(39,0),(40,0),(41,0),(42,0),(43,0)]
abbrev QX4:AC:= .cond L2 (.seq (.run [.o 4 (.mv (.k (.bool false)))]) .ret) .skip
abbrev QXA:AC:= .seq (.cond tD .skip (.exit 0)) (.seq (.block 1 (.seq (.run [.m 69 qP, .m 5 vy]) (.seq QX1 QX4))) (.run [.o 114 (.bin .add qP (.k (.int .i64 1))), .m 67 L3]))
abbrev QXE:AC:= .seq (.run [.o 64 (.av cH 10), .o 65 (.load qO false 1), .o 66 (.len tC), .o 67 (.mv (.k (.int .i64 0)))]) (.block 0 (.loop (.seq (.run [.o 68 (.bin .lss qP vx)]) QXA)))
abbrev QXH:AC:= .seq QXE (.seq (.run [.o 115 (.av cH 11), .o 116 (.load L4 false 1), .o 117 (.av bI 11), .o 118 (.load L6 false 1), .c 119 km [L5,L7], .m 120 L8, .g 121 120 true (.av cH 12), .g 122 120 true (.load Ma false 1), .g 123 120 true (.av bI 12), .g 124 120 true (.load Mc false 1), .d 125 120 true km [Mb,Md], .o 126 (.pick L9 Me (.k (.bool false))), .m 4 Mf]) .ret)
abbrev QXJ:AC:= .seq (.run [.o 2 (.box aU), .o 3 (.box bn), .o 4 (.mv (.k (.bool false)))]) (.seq (.seq QWS QWV) QXH)
abbrev QXL:AC:= .par [.o 10 (.av bn 9), .o 11 (.load bW false 1), .o 3 (.mv (.k (.bool false))), .o 4 (.mv (.k (.bool false))), .o 5 (.mv (.k (.bool false))), .m 6 b8, .o 7 (.mv (.k (.bool false))), .o 8 (.mv (.k (.bool false)))] [(0,0),(1,0),(2,0),(3,0),(4,0),(5,0),(6,0),(7,0)]
abbrev QXT:AC:= .seq (.run [.o 20 (.bin .eql cm (.k (.int .i64 2))), .m 19 dk]) (.cond c6 .skip (.run [.o 21 (.bin .eql cm (.k (.int .i64 10))), .m 19 dr]))
abbrev QY8:AC:= .seq (.run [.o 38 (.bin .eql cm (.k (.int .i64 7))), .m 37 gC]) (.cond fy .skip (.run [.o 39 (.bin .eql cm (.k (.int .i64 8))), .m 37 gj]))
abbrev QYB:AC:= .cond fy .skip (.seq (.run [.o 2 (.mv (.k (.bool false)))]) .ret)
abbrev QYE:AC:= .seq (.run [.o 34 (.bin .eql cm (.k (.int .i64 9))), .m 33 fh]) (.cond eV (.run [.o 35 (.av bn 9), .o 36 (.load fb false 1), .m 5 fm, .o 6 (.mv (.k (.bool false)))]) (.seq QY8 QYB))
abbrev QYG:AC:= .seq (.run [.o 32 (.bin .eql cm (.k (.int .i64 6))), .m 31 eZ]) (.cond eP (.run [.o 5 (.mv (.k (.bool true))), .o 7 (.mv (.k (.bool true)))]) QYE)
abbrev QYI:AC:= .seq (.run [.o 30 (.bin .eql cm (.k (.int .i64 5))), .m 29 eY]) (.cond eG (.run [.o 5 (.mv (.k (.bool true))), .o 7 (.mv (.k (.bool true))), .o 8 (.mv (.k (.bool true)))]) QYG)
abbrev QYK:AC:= .seq (.run [.o 25 (.bin .eql cm (.k (.int .i64 4))), .m 24 c7]) (.cond da (.run [.o 26 (.av bn 3), .o 27 (.load eo false 1), .o 28 (.bin .neq dP (.k (.str []))), .m 3 eK, .o 4 (.mv (.k (.bool true)))]) QYI)
abbrev QYM:AC:= .seq (.run [.o 23 (.bin .eql cm (.k (.int .i64 3))), .m 22 dz]) (.cond dw (.run [.o 5 (.mv (.k (.bool true)))]) QYK)
abbrev QYO:AC:= .seq QXT (.cond c6 (.run [.o 3 (.mv (.k (.bool true)))]) QYM)
abbrev QYQ:AC:= .seq (.run [.o 18 (.bin .eql cm (.k (.int .i64 1))), .m 17 cK]) (.cond cO (.run [.o 3 (.mv (.k (.bool true))), .o 5 (.mv (.k (.bool true)))]) QYO)
abbrev QYT:AC:= .run [.m 40 bP, .m 41 gU, .g 42 41 false (.mv bO), .g 43 41 false (.un .not iz), .g 44 41 false (.mv iI), .g 45 44 true (.av bn 11), .g 46 44 true (.load jG false 1), .g 47 44 true (.len jH), .g 48 44 true (.bin .gtr jT (.k (.int .i64 0))), .g 49 41 false (.pick jo iV (.k (.bool false))), .o 50 (.pick gI (.k (.bool true)) jq), .m 51 ky, .g 52 51 false (.mv cf), .g 53 51 false (.un .not jU), .g 54 51 false (.mv kz), .g 55 54 true (.av bn 12), .g 56 54 true (.load lA false 1), .g 57 54 true (.len mI), .g 58 54 true (.bin .gtr ni (.k (.int .i64 0))), .g 59 51 false (.pick kT mJ (.k (.bool false))), .o 60 (.pick jI (.k (.bool true)) kU), .m 61 oA, .g 62 61 false (.mv cA), .g 63 61 false (.un .not qe), .g 64 61 false (.mv qf), .g 65 64 true (.av bn 10), .g 66 64 true (.load tC false 1), .g 67 64 true (.len vx), .g 68 64 true (.bin .gtr qP (.k (.int .i64 0))), .g 69 61 false (.pick qO tD (.k (.bool false))), .o 70 (.pick pg (.k (.bool true)) vy)]
abbrev QYW:AC:= .cond tE (.seq (.run [.o 2 (.mv (.k (.bool false)))]) .ret) .skip
abbrev QZ1:AC:= .cond C2 (.seq (.run [.o 2 (.mv (.k (.bool false)))]) .ret) .skip
abbrev QZ5:AC:= .seq (.seq (.run [.o 71 (.av bn 3), .o 72 (.load yN false 1), .m 73 bI, .c 74 nV [w9,yO], .o 75 (.un .not yP), .m 76 yQ, .g 77 76 false (.av bn 4), .g 78 76 false (.load yR false 1), .g 79 76 false (.mv cU), .d 80 76 false nV [xb,CR], .g 81 76 false (.un .not CS), .o 82 (.pick xa (.k (.bool true)) yS), .m 83 CT, .g 84 83 false (.av bn 5), .g 85 83 false (.load CX true 4), .g 86 83 false (.mv bo), .d 87 83 false qb [CY,CZ], .g 88 83 false (.un .not C0), .o 89 (.pick CW (.k (.bool true)) C1)]) QZ1) (.seq (.run [.o 90 (.av bn 10), .o 91 (.load C3 false 1), .c 92 sc [C4], .m 2 C5]) .ret)
abbrev QZ6:AC:= .seq (.seq QYT QYW) QZ5
abbrev ZA:AC:= .seq (.seq (.run [.o 15 (.av bn 1), .o 16 (.load cv false 1)]) (.block 0 QYQ)) QZ6
abbrev QZ8:AC:= .seq (.run [.o 12 (.av bn 1), .o 13 (.load cp false 1), .o 14 (.bin .eql bZ (.k (.int .i64 4))), .m 9 bU]) ZA
abbrev QZ9:AC:= .seq QXL QZ8
abbrev QZA:AC:= .seq (.run [.o 1 (.box aU), .o 2 (.mv (.k (.bool false)))]) QZ9
abbrev QZN:AC:= .par [.m 37 aU, .m 38 aU, .o 39 (.db gC), .o 40 (.av gj 2), .o 41 (.load gU false 1), .o 42 (.load cA true 17), .o 43 (.cT [(.int .i64 0),(.int .i64 0),(.slice .full 0 []),(.str []),(.str []),(.int .i64 0),(.int .i64 0),(.str []),(.slice .full 0 []),(.bool false),(.slice .full 0 []),(.slice .full 0 []),(.slice .full 0 []),(.int .i64 0),(.int .i64 0),(.int .i64 0),(.int .i64 0)] 17 1 [(0,iz)]), .o 44 (.app 17 240 gI iI), .o 45 (.db fy), .o 46 (.av jG 2), .op none none (.store jH jo 1)] [(1,0),(2,0),(3,0),(4,0),(5,0),(6,0),(7,0),(0,0),(8,0),(9,0),(10,0)]
abbrev QZO:AC:= .run [.o 47 (.av bo 13), .o 48 (.load jT false 1), .m 49 cf, .o 50 (.av cA 15), .o 51 (.load ky false 1), .o 52 (.av bo 16), .o 53 (.load jU false 1), .o 54 (.build [(.int .i64 0),(.int .i64 0),(.slice .full 0 []),(.str []),(.str []),(.int .i64 0),(.int .i64 0),(.str []),(.slice .full 0 []),(.bool false),(.slice .full 0 []),(.slice .full 0 []),(.slice .full 0 []),(.int .i64 0),(.int .i64 0),(.int .i64 0),(.int .i64 0)] [(13,(1,iV)),(14,(1,jq)),(15,(1,jI)),(16,(1,kz))]), .o 10 (.alloc [(.int .i64 0),(.int .i64 0),(.slice .full 0 []),(.str []),(.str []),(.int .i64 0),(.int .i64 0),(.str []),(.slice .full 0 []),(.bool false),(.slice .full 0 []),(.slice .full 0 []),(.slice .full 0 []),(.int .i64 0),(.int .i64 0),(.int .i64 0),(.int .i64 0)]), .op none none (.store bW kT 17)]
abbrev QZW:AC:= .seq (.seq (.run [.o 55 (.av bO 1), .o 56 (.load lA false 1), .o 57 (.bin .eql mI (.k (.int .i64 6)))]) (.cond ni (.run [.m 58 cf, .m 59 cf, .o 60 (.av bW 15), .op none none (.store oA mJ 1), .o 61 (.av bW 16), .op none none (.store pg kU 1)]) .skip)) (.seq (.run [.m 62 aU, .o 63 (.av bO 11), .o 64 (.load qf false 1), .o 65 (.load bW true 17), .c 66 iU [qe,qO,tC]]) (.run [.m 67 aU, .o 68 (.av bO 12), .o 69 (.load tD false 1), .o 70 (.load bW true 17), .c 71 iU [qP,vy,tE]]))
abbrev QZZ:AC:= .seq (.seq (.run [.m 27 bP, .o 28 (.bin .add dP (.k (.int .i64 1))), .m 29 bn, .o 30 (.len eG), .o 31 (.bin .lss eK eY)]) (.cond eP (.run [.m 32 cf, .o 33 (.load bO true 13), .c 34 ly [eV], .o 35 (.bin .add eZ fh), .o 36 (.av cA 15), .op none none (.store fm fb 1)]) .skip)) (.seq QZN (.seq QZO QZW))
abbrev afZ:AC:= .seq (.run [.m 15 bZ, .o 16 (.ca b8 bZ 13), .o 17 (.load cm true 13), .o 7 (.alloc [(.int .i64 0),(.int .i64 0),(.slice .full 0 []),(.str []),(.str []),(.int .i64 0),(.int .i64 0),(.str []),(.slice .full 0 []),(.bool false),(.slice .full 0 []),(.slice .full 0 []),(.slice .full 0 [])]), .m 6 cv, .op none none (.store bO cO 13)]) (.seq (.run [.m 18 aU, .o 19 (.db cK), .o 20 (.av c6 2), .o 21 (.load dk false 1), .o 22 (.len dr), .o 23 (.bin .add dw (.k (.int .i64 1))), .m 8 dz]) (.seq (.run [.o 24 (.load bo true 17), .o 9 (.alloc [(.int .i64 0),(.int .i64 0),(.slice .full 0 []),(.str []),(.str []),(.int .i64 0),(.int .i64 0),(.str []),(.slice .full 0 []),(.bool false),(.slice .full 0 []),(.slice .full 0 []),(.slice .full 0 []),(.int .i64 0),(.int .i64 0),(.int .i64 0),(.int .i64 0)]), .op none none (.store cA da 17)]) (.seq (.run [.o 25 (.load bO true 13), .o 26 (.av cA 0), .op none none (.store eo c7 13)]) QZZ)))
abbrev af0:AC:= .seq (.cond bU .skip (.exit 0)) (.seq (.block 1 afZ) (.run [.o 72 (.bin .add bZ (.k (.int .i64 1))), .m 13 w9]))
abbrev af1:AC:= .seq (.run [.m 11 bn, .o 12 (.len b8), .o 13 (.mv (.k (.int .i64 0)))]) (.block 0 (.loop (.seq (.run [.o 14 (.bin .lss bZ cp)]) af0)))
abbrev af2:AC:= .seq (.run [.o 5 (.box cH)]) af1
abbrev af3:AC:= .block 1 (.seq (.run [.m 10 cf, .m 5 bW]) (.seq (.run [.m 11 bn, .m 12 aU, .m 13 bo, .o 14 (.ca cp bZ 1), .o 15 (.load bU false 1),(.im (some 16) none 11 [cv])]) (.cond cm (.seq (.run [.m 17 bo, .m 4 cO]) .ret) .skip)))
abbrev af4:AC:= .seq (.cond cA .skip (.exit 0)) (.seq af3 (.run [.o 18 (.bin .add cf (.k (.int .i64 1))), .m 8 cK]))
abbrev af5:AC:= .seq (.run [.m 6 aU, .o 7 (.len bP), .o 8 (.mv (.k (.int .i64 0)))]) (.block 0 (.loop (.seq (.run [.o 9 (.bin .lss cf bO)]) af4)))
abbrev af6:AC:= .seq (.run [(.o 4 (.mv (.k (.int .i64 (-1)))))]) .ret
abbrev af7:AC:= .seq (.run [.o 4 (.mv (.k (.int .i64 0)))]) (.seq af5 af6)
abbrev af8:AC:= .seq (.seq (.run [.o 31 (.av bo 0), .o 32 (.load eP false 1)]) (.cond eZ (.run [.m 33 bI, .o 34 (.av bo 1), .o 35 (.load fh false 1), .o 36 (.cT [(.str [])] 1 1 [(0,fb)]), .o 37 (.app 1 16 eV fm), .m 3 fy]) .skip)) (.run [.m 38 bI, .o 39 (.av bo 2), .o 40 (.load gj true 4), .c 41 qc [gU], .o 42 (.app 1 16 gC gI), .m 3 iz])
abbrev af9:AC:= .seq (.block 1 (.seq (.run [.o 29 (.ca c7 dP 6), .o 30 (.load eG true 6), .o 5 (.alloc [(.bool false),(.str []),(.int .i64 0),(.int .i64 0),(.str []),(.slice .full 0 [])]), .op none none (.store bo eY 6)]) af8)) (.run [.o 43 (.bin .add dP (.k (.int .i64 1))), .m 27 iI])
abbrev aga:AC:= .block 0 (.loop (.seq (.run [.o 28 (.bin .lss dP eo)]) (.seq (.cond eK .skip (.exit 0)) af9)))
abbrev agb:AC:= .seq (.seq (.run [.o 24 (.av bn 10), .o 25 (.load da false 1), .o 26 (.len c7), .o 27 (.mv (.k (.int .i64 0)))]) aga) (.seq (.run [.m 44 bI, .m 2 jo]) .ret)
abbrev agc:AC:= .seq (.seq (.run [.o 6 (.av bn 1), .o 7 (.load bP false 1), .o 8 (.bin .neq bO (.k (.int .i64 10))), .m 9 cf, .g 10 9 true (.av bn 3), .g 11 9 true (.load bW false 1), .g 12 9 true (.bin .neq b8 (.k (.str []))), .o 13 (.pick cA cp (.k (.bool false)))]) (.cond bZ (.run [.m 14 bI, .o 15 (.av bn 3), .o 16 (.load cv false 1), .o 17 (.cT [(.str [])] 1 1 [(0,cm)]), .o 18 (.app 1 16 bU cO), .m 3 cK]) .skip)) (.seq (.run [.m 19 bI, .o 20 (.av bn 5), .o 21 (.load dk true 4), .c 22 qc [dr], .o 23 (.app 1 16 c6 dw), .m 3 dz]) agb)
abbrev agd:AC:= .seq (.run [.o 1 (.box aU), .o 2 (.mv (.k (.slice .full 0 [])))]) (.seq (.run [.o 3 (.mv (.k (.slice .full 0 [])))]) agc)
end Go.Abs

/-! Have2 -/

namespace Go.Abs
open Go.Proofs
theorem C9:Has Tryz.prog jm 29 [(2,none)] QWE:=⟨Tryz.f86,by kernel_rfl,by kernel_rfl⟩
theorem Gx:Has Tryz.prog p7 5 [(2,(some (true,4)))] QWI:=⟨Tryz.f95,by kernel_rfl,by kernel_rfl⟩
theorem ES:Has Tryz.prog j7 5 [(2,(some (true,4)))] QWM:=⟨Tryz.f96,by kernel_rfl,by kernel_rfl⟩
theorem Gy:Has Tryz.prog sN 12 [(6,(some (true,4)))] QWQ:=⟨Tryz.f97,by kernel_rfl,by kernel_rfl⟩
theorem Da:Has Tryz.prog p8 127 [(4,none)] QXJ:=⟨Tryz.f115,by kernel_rfl,by kernel_rfl⟩
theorem BJ:Has Tryz.prog sa 93 [(2,none)] QZA:=⟨Tryz.f116,by kernel_rfl,by kernel_rfl⟩
theorem yU:Has Tryz.prog iU 73 [] af2:=⟨Tryz.f117,by kernel_rfl,by kernel_rfl⟩
theorem rM:Has Tryz.prog jS 19 [(4,none)] af7:=⟨Tryz.f118,by kernel_rfl,by kernel_rfl⟩
theorem Db:Has Tryz.prog p9 45 [(2,none)] agd:=⟨Tryz.f119,by kernel_rfl,by kernel_rfl⟩
end Go.Abs
