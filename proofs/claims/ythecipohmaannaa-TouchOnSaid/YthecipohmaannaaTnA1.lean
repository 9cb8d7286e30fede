/-
  What is proved here: part 1 of the road to the claim (Par, Par1, Par2, Par3, Step, Wp, Types, Mir, MirTree, MirFlat, Nums, Codes0, Have0, Codes1, Have1, Codes2, Have2, Have3, Frz, MirLex, MirMay, Prs, Lex1, Lex2, RefLex1, Prs2, Ref1, Ref2, Ref3, RefMay1, RefMay2, Flat1, Flat2, Flat3).
  No conditions.
-/
import Derived.Test.YthecipohmaannaaTnA0
import Derived.Attr
import Derived.Test.YthecipohmaannaaProg
import Derived.KernelRfl

set_option linter.unusedSimpArgs false
set_option linter.unusedVariables false

/-! Par -/

namespace Go.Abs
theorem X.bh {x:X} {tm bd:Tm} (h : ∀ t∈x.reads,tm.get t=bd.get t):x.ev tm=x.ev bd:=by
 cases x with
 | s t=>exact h t (by simp [X.reads])
 | k d=>rfl
theorem l8 {t:Nat} {x:X} : ∀ {l:List X},x∈l→t∈x.reads→t∈jP l
 | [],h,_=>by cases h
 | y::r,h,ht=>by
  simp only [jP,List.mem_append]
  rcases List.mem_cons.1 h with rfl | h
  ·exact .inl ht
  ·exact .inr (l8 h ht)
theorem pN {x:Option X} {tm bd:Tm} (h : ∀ t∈sC x,tm.get t=bd.get t):x.map (·.ev tm)=x.map (·.ev bd):=by
 cases x with
 | none=>rfl
 | some y=>simp only [Option.map_some];rw [X.bh h]
theorem uu {o:AO} {tm bd:Tm} {s:St} (h : ∀ t∈o.reads,tm.get t=bd.get t):aD o tm s=aD o bd s:=by
 cases o with
 | mv x=>
  have hx:x.ev tm=x.ev bd:=X.bh fun t ht=>h t (by simp [AO.reads,ht])
  simp only [aD,hx]
 | pick c a b=>
  have hc:c.ev tm=c.ev bd:=X.bh fun t ht=>h t (by simp [AO.reads,ht])
  have ha:a.ev tm=a.ev bd:=X.bh fun t ht=>h t (by simp [AO.reads,ht])
  have hb:b.ev tm=b.ev bd:=X.bh fun t ht=>h t (by simp [AO.reads,ht])
  simp only [aD,hc,ha,hb]
 | alloc z=>
  rfl
 | nG z T=>rfl
 | sy x T=>
  have hx:x.ev tm=x.ev bd:=X.bh fun t ht=>h t (by simp [AO.reads,ht])
  simp only [aD,hx]
 | sA x y=>
  have hx:x.ev tm=x.ev bd:=X.bh fun t ht=>h t (by simp [AO.reads,ht])
  have hy:y.ev tm=y.ev bd:=X.bh fun t ht=>h t (by simp [AO.reads,ht])
  simp only [aD,hx,hy]
 | apps x y=>
  have hx:x.ev tm=x.ev bd:=X.bh fun t ht=>h t (by simp [AO.reads,ht])
  have hy:y.ev tm=y.ev bd:=X.bh fun t ht=>h t (by simp [AO.reads,ht])
  simp only [aD,hx,hy]
 | box x=>
  have hx:x.ev tm=x.ev bd:=X.bh fun t ht=>h t (by simp [AO.reads,ht])
  simp only [aD,hx]
 | sw x=>
  have hx:x.ev tm=x.ev bd:=X.bh fun t ht=>h t (by simp [AO.reads,ht])
  simp only [aD,hx]
 | load x g n=>
  have hx:x.ev tm=x.ev bd:=X.bh fun t ht=>h t (by simp [AO.reads,ht])
  simp only [aD,hx]
 | store p x n=>
  have hp:p.ev tm=p.ev bd:=X.bh fun t ht=>h t (by simp [AO.reads,ht])
  have hx:x.ev tm=x.ev bd:=X.bh fun t ht=>h t (by simp [AO.reads,ht])
  simp only [aD,hp,hx]
 | fQ x=>
  have hx:x.ev tm=x.ev bd:=X.bh fun t ht=>h t (by simp [AO.reads,ht])
  simp only [aD,hx]
 | bin op x y=>
  have hx:x.ev tm=x.ev bd:=X.bh fun t ht=>h t (by simp [AO.reads,ht])
  have hy:y.ev tm=y.ev bd:=X.bh fun t ht=>h t (by simp [AO.reads,ht])
  simp only [aD,hx,hy]
 | yU n x y=>
  have hx:x.ev tm=x.ev bd:=X.bh fun t ht=>h t (by simp [AO.reads,ht])
  have hy:y.ev tm=y.ev bd:=X.bh fun t ht=>h t (by simp [AO.reads,ht])
  simp only [aD,hx,hy]
 | eqs n ks x y=>
  have hx:x.ev tm=x.ev bd:=X.bh fun t ht=>h t (by simp [AO.reads,ht])
  have hy:y.ev tm=y.ev bd:=X.bh fun t ht=>h t (by simp [AO.reads,ht])
  simp only [aD,hx,hy]
 | yV n x y=>
  have hx:x.ev tm=x.ev bd:=X.bh fun t ht=>h t (by simp [AO.reads,ht])
  have hy:y.ev tm=y.ev bd:=X.bh fun t ht=>h t (by simp [AO.reads,ht])
  simp only [aD,hx,hy]
 | un op x=>
  have hx:x.ev tm=x.ev bd:=X.bh fun t ht=>h t (by simp [AO.reads,ht])
  simp only [aD,hx]
 | conv k x=>
  have hx:x.ev tm=x.ev bd:=X.bh fun t ht=>h t (by simp [AO.reads,ht])
  simp only [aD,hx]
 | vn x=>
  have hx:x.ev tm=x.ev bd:=X.bh fun t ht=>h t (by simp [AO.reads,ht])
  simp only [aD,hx]
 | qH x=>
  have hx:x.ev tm=x.ev bd:=X.bh fun t ht=>h t (by simp [AO.reads,ht])
  simp only [aD,hx]
 | aG x n=>
  have hx:x.ev tm=x.ev bd:=X.bh fun t ht=>h t (by simp [AO.reads,ht])
  simp only [aD,hx]
 | yY x n g m=>
  have hx:x.ev tm=x.ev bd:=X.bh fun t ht=>h t (by simp [AO.reads,ht])
  simp only [aD,hx]
 | cv x i n=>
  have hx:x.ev tm=x.ev bd:=X.bh fun t ht=>h t (by simp [AO.reads,ht])
  have hi:i.ev tm=i.ev bd:=X.bh fun t ht=>h t (by simp [AO.reads,ht])
  simp only [aD,hx,hi]
 | sx x i=>
  have hx:x.ev tm=x.ev bd:=X.bh fun t ht=>h t (by simp [AO.reads,ht])
  have hi:i.ev tm=i.ev bd:=X.bh fun t ht=>h t (by simp [AO.reads,ht])
  simp only [aD,hx,hi]
 | ext x i=>
  have hx:x.ev tm=x.ev bd:=X.bh fun t ht=>h t (by simp [AO.reads,ht])
  simp only [aD,hx]
 | len x=>
  have hx:x.ev tm=x.ev bd:=X.bh fun t ht=>h t (by simp [AO.reads,ht])
  simp only [aD,hx]
 | oM x=>
  have hx:x.ev tm=x.ev bd:=X.bh fun t ht=>h t (by simp [AO.reads,ht])
  simp only [aD,hx]
 | app a b x y=>
  have hx:x.ev tm=x.ev bd:=X.bh fun t ht=>h t (by simp [AO.reads,ht])
  have hy:y.ev tm=y.ev bd:=X.bh fun t ht=>h t (by simp [AO.reads,ht])
  simp only [aD,hx,hy]
 | mm b x y=>
  have hx:x.ev tm=x.ev bd:=X.bh fun t ht=>h t (by simp [AO.reads,ht])
  have hy:y.ev tm=y.ev bd:=X.bh fun t ht=>h t (by simp [AO.reads,ht])
  simp only [aD,hx,hy]
 | build z ps=>
  have hp:(ps.map fun p=>(p.1,p.2.1,p.2.2.ev tm))=ps.map fun p=>(p.1,p.2.1,p.2.2.ev bd):=List.map_congr_left fun p hp=>by
   have:p.2.2.ev tm=p.2.2.ev bd:=X.bh fun t ht=>h t (by simp only [AO.reads];exact l8 (List.mem_map_of_mem hp) ht)
   rw [this]
  simp only [aD,hp]
 | dd z m n ps=>
  have hp:(ps.map fun p=>(p.1,p.2.ev tm))=ps.map fun p=>(p.1,p.2.ev bd):=List.map_congr_left fun p hp=>by
   have:p.2.ev tm=p.2.ev bd:=X.bh fun t ht=>h t (by simp only [AO.reads];exact l8 (List.mem_map_of_mem hp) ht)
   rw [this]
  simp only [aD,hp]
 | oL z m n ps=>
  have hp:(ps.map fun p=>(p.1,p.2.ev tm))=ps.map fun p=>(p.1,p.2.ev bd):=List.map_congr_left fun p hp=>by
   have:p.2.ev tm=p.2.ev bd:=X.bh fun t ht=>h t (by simp only [AO.reads];exact l8 (List.mem_map_of_mem hp) ht)
   rw [this]
  simp only [aD,hp]
 | yW n x lo hi=>
  have hx:x.ev tm=x.ev bd:=X.bh fun t ht=>h t (by simp [AO.reads,ht])
  have hl:lo.map (·.ev tm)=lo.map (·.ev bd):=pN fun t ht=>h t (by simp [AO.reads,ht])
  have hh:hi.map (·.ev tm)=hi.map (·.ev bd):=pN fun t ht=>h t (by simp [AO.reads,ht])
  simp only [aD,hx,hl,hh]
 | yX x lo hi=>
  have hx:x.ev tm=x.ev bd:=X.bh fun t ht=>h t (by simp [AO.reads,ht])
  have hl:lo.map (·.ev tm)=lo.map (·.ev bd):=pN fun t ht=>h t (by simp [AO.reads,ht])
  have hh:hi.map (·.ev tm)=hi.map (·.ev bd):=pN fun t ht=>h t (by simp [AO.reads,ht])
  simp only [aD,hx,hl,hh]
 | oy f xs=>
  have hp:(xs.map fun x=>x.ev tm)=xs.map fun x=>x.ev bd:=List.map_congr_left fun x hx=>X.bh fun t ht=>h t (by simp only [AO.reads];exact l8 hx ht)
  simp only [aD,hp]
 | pA=>rfl
 | sB m k v=>
  have hm:m.ev tm=m.ev bd:=X.bh fun t ht=>h t (by simp [AO.reads,ht])
  have hk:k.ev tm=k.ev bd:=X.bh fun t ht=>h t (by simp [AO.reads,ht])
  have hv:v.ev tm=v.ev bd:=X.bh fun t ht=>h t (by simp [AO.reads,ht])
  simp only [aD,hm,hk,hv]
 | ra m k z=>
  have hm:m.ev tm=m.ev bd:=X.bh fun t ht=>h t (by simp [AO.reads,ht])
  have hk:k.ev tm=k.ev bd:=X.bh fun t ht=>h t (by simp [AO.reads,ht])
  simp only [aD,hm,hk]
theorem AS {o:AO} (ho:ej o.kind=false) {tm:Tm} {s s':St} {d:D} (h:aD o tm s=some (d,s')):s'=s:=by
 cases o <;> simp only [AO.kind,ej]at ho <;> first | cases ho | skip
 all_goals
  simp only [aD]at h
  first
   | (cases h;rfl)
   | (repeat' (split at h)) <;> first | (cases h;rfl) | cases h
theorem CD {o:AO} (ho:o.kind = .pure) {tm:Tm} {s s':St} : (aD o tm s).map (·.1)=(aD o tm s').map (·.1):=by
 cases o <;> simp only [AO.kind]at ho <;> first | cases ho | skip
 all_goals
  simp only [aD]
  first
   | rfl
   | (repeat' split) <;> rfl
def fV (ai:AI) (tm:Tm) (s:St):Option D:=
 match ai with
 | .op _ none o=>(aD o tm s).map (·.1)
 | .op _ (some (t,want)) o=>
  match tm.get t with
  | .bool b=>if b=want then(aD o tm s).map (·.1)else some (.tuple [])
  | .tuple _=>some (.tuple [])
  | _=>none
 | _=>none
def nr (P:Program) (ai:AI) (tm:Tm) (s:St) (d:D) (s':St):Prop:=
 match ai with
 | .op _ g o=>guarded g tm (aD o tm s=some (d,s')) (d = .tuple []∧s'=s)
 | .call _ g f xs=>guarded g tm (cQ P f (xs.map (·.ev tm)) s fun x y=>x=d∧y=s') (d = .tuple []∧s'=s)
 | .nil .. =>False
 | .fE .. =>False
def gG (P:Program) (is:List AI) (K:Tm→St→Prop):List (Nat×Nat)→List St→Tm→St→Prop
 | [],_,tm,s=>K tm s
 | (q,b)::r,aX,tm,s=>
  match is[q]? with
  | none=>False
  | some ai=>
   match ej ai.kind with
   | true=>∃ d s',nr P ai tm s d s'∧gG P is K r (s::aX) (tm.put ai.dst d) s'
   | false=>∃ d,fV ai tm s=some d∧(ai.kind = .load→∀ s'∈aX.take b,fV ai tm s'=some d)∧gG P is K r aX (tm.put ai.dst d) s
def Tm.eqv (a b:Tm):Prop:=∀ t,a.get t=b.get t
theorem Tm.gU (tm:Tm) (dst:Option Nat) (d:D) (t:Nat):(tm.put dst d).get t=if dst=some t then d else tm.get t:=by
 cases dst with
 | none=>simp [Tm.put]
 | some u=>
  simp only [Tm.put,Tm.wQ,Option.some.injEq]
  by_cases h:t=u
  ·subst h;simp
  ·rw [if_neg h,if_neg (fun e=>h e.symm)]
theorem Tm.eqv.put {a b:Tm} (h:a.eqv b) (dst:Option Nat) (d:D):(a.put dst d).eqv (b.put dst d):=fun t=>by
 rw [Tm.gU,Tm.gU,h t]
theorem Tm.zD (tm:Tm) {x y:Option Nat} (h : ∀ t,x=some t→y≠some t) (d e:D):((tm.put x d).put y e).eqv ((tm.put y e).put x d):=fun t=>by
 simp only [Tm.gU]
 by_cases h1:x=some t
 ·simp only [h1,h t h1,if_true,if_false]
 ·simp only [h1,if_false]
theorem rZ {g:Option (Nat×Bool)} {tm bd:Tm} {A A' C:Prop} (h : ∀ t∈oN g,tm.get t=bd.get t) (ha:A→A') (hh:guarded g tm A C):guarded g bd A' C:=by
 cases g with
 | none=>exact ha hh
 | some p=>
  obtain⟨t,want⟩:=p
  unfold guarded at *
  simp only at *
  rw [← h t (by simp [oN])]
  split
  ·rename_i b hb
   rw [hb]at hh
   exact⟨fun e=>ha (hh.1 e),hh.2⟩
  ·rename_i hb
   rw [hb]at hh
   exact hh
  ·rename_i x h1 h2
   split at hh
   ·exact h1 _ ‹_›
   ·exact h2 _ ‹_›
   ·exact hh
theorem xK {tm bd:Tm} : ∀ {l:List X},(∀ t∈jP l,tm.get t=bd.get t)→l.map (·.ev tm)=l.map (·.ev bd)
 | [],_=>rfl
 | x::r,h=>by
  simp only [List.map_cons]
  rw [X.bh fun t ht=>h t (by simp [jP,ht]),xK (l:=r) fun t ht=>h t (by simp [jP,ht])]
theorem qk {P:Program} {ai:AI} {tm bd:Tm} {s s':St} {d:D} (h : ∀ t∈ai.reads,tm.get t=bd.get t) (hh:nr P ai tm s d s'):nr P ai bd s d s':=by
 cases ai with
 | op dst g o=>
  simp only [AI.reads,List.mem_append]at h
  exact rZ (fun t ht=>h t (.inl ht)) (fun e=>by rw [← uu fun t ht=>h t (.inr ht)];exact e) hh
 | call dst g f xs=>
  simp only [AI.reads,List.mem_append]at h
  exact rZ (fun t ht=>h t (.inl ht)) (fun e=>by rw [← xK fun t ht=>h t (.inr ht)];exact e) hh
 | nil dst g n x=>exact hh
 | fE dst g t xs=>exact hh
theorem lQ {ai:AI} {tm bd:Tm} {s:St} (h : ∀ t∈ai.reads,tm.get t=bd.get t):fV ai tm s=fV ai bd s:=by
 cases ai with
 | op dst g o=>
  simp only [AI.reads,List.mem_append]at h
  have he:=uu (s:=s) fun t ht=>h t (.inr ht)
  cases g with
  | none=>simp only [fV,he]
  | some p=>
   obtain⟨t,want⟩:=p
   simp only [fV,he,h t (.inl (by simp [oN]))]
 | call dst g f xs=>rfl
 | nil dst g n x=>rfl
 | fE dst g t xs=>rfl
theorem BB {dst:Option Nat} {g:Option (Nat×Bool)} {o:AO} (h:ej (AI.op dst g o).kind=false):(AI.op dst g o).kind=o.kind:=by
 unfold AI.kind at *
 split at h
 ·cases h
 ·rename_i heq;cases heq;rfl
 ·cases h
theorem Hr {ai:AI} (hk:ai.kind = .pure) {tm:Tm} {s s':St} : fV ai tm s=fV ai tm s':=by
 cases ai with
 | op dst g o=>
  have ho:o.kind = .pure:=by rw [← hk];exact(BB (by rw [hk];rfl)).symm
  have he:=CD ho (tm:=tm) (s:=s) (s':=s')
  cases g with
  | none=>simp only [fV,he]
  | some p=>simp only [fV,he]
 | call dst g f xs=>rfl
 | nil dst g n x=>rfl
 | fE dst g t xs=>rfl
theorem apart_spec {a q:AI} (h:a.apart q=true):(∀ t,a.dst=some t→t∉q.reads)∧(∀ t,q.dst=some t→t∉a.reads)∧(∀ t,a.dst=some t→q.dst≠some t):=by
 unfold AI.apart at h
 simp only [Bool.and_eq_true]at h
 obtain⟨⟨h1,h2⟩,h3⟩:=h
 refine⟨fun t e=> ?_,fun t e=> ?_,fun t e e'=> ?_⟩
 ·rw [e]at h1;simpa [vq]using h1
 ·rw [e]at h2;simpa [vq]using h2
 ·rw [e,e']at h3;simp at h3
theorem nu {tm:Tm} {dst:Option Nat} {d:D} {l:List Nat} (h : ∀ t,dst=some t→t∉l) : ∀ t∈l,tm.get t=(tm.put dst d).get t:=fun t ht=>by
 rw [Tm.gU,if_neg fun e=>h t e ht]
section
variable {P:Program} {is:List AI} {K:Tm→St→Prop}
theorem nw (hK : ∀ tm bd s,Tm.eqv tm bd→K tm s→K bd s) : ∀ (R:List (Nat×Nat)) (aX:List St) (tm bd:Tm) (s:St),tm.eqv bd→gG P is K R aX tm s→gG P is K R aX bd s
 | [],_,tm,bd,s,e,h=>hK tm bd s e h
 | (q,b)::R,aX,tm,bd,s,e,h=>by
  unfold gG at *
  split at h
  ·exact h.elim
  ·rename_i ai pK
   split at h
   ·rename_i hc
    obtain⟨d,s',h1,h2⟩:=h
    exact⟨d,s',qk (fun t _=>e t) h1,nw hK R _ _ _ _ (e.put _ d) h2⟩
   ·rename_i hc
    obtain⟨d,h1,h2,h3⟩:=h
    refine⟨d, ?_,fun hl s' ku=> ?_,nw hK R _ _ _ _ (e.put _ d) h3⟩
    ·rw [← lQ fun t _=>e t];exact h1
    ·rw [← lQ fun t _=>e t];exact h2 hl s' ku
theorem zE (i:Nat) (l:List Nat):fI is (i::l)=(if ej (fF is i)then 1 else 0)+fI is l:=by
 unfold fI
 rw [List.filter_cons]
 split <;> simp <;> omega
theorem ql (hK : ∀ tm bd s,Tm.eqv tm bd→K tm s→K bd s) {q b:Nat} {ai:AI} (hq:is[q]? = some ai) (hm:ej ai.kind=false) (Y:List (Nat×Nat)) :
 ∀ (X:List (Nat×Nat)) (aX:List St) (tm:Tm) (s:St),(∀ a∈X,gQ is a.1 q=true)→(ai.kind = .load→fI is (X.map (·.1))≤b)→
  gG P is K (X++(q,b)::Y) aX tm s→
  ∃ d,fV ai tm s=some d∧(ai.kind = .load→∀ s'∈aX.take (b - fI is (X.map (·.1))),fV ai tm s'=some d)∧gG P is K (X++Y) aX (tm.put ai.dst d) s
 | [],aX,tm,s,_,_,h=>by
  simp only [List.nil_append,gG,hq,hm]at h
  obtain⟨d,h1,h2,h3⟩:=h
  exact⟨d,h1,fun hl s' ku=>h2 hl s' (by simpa [fI]using ku),h3⟩
 | (a,c)::X,aX,tm,s,ek,hb,h=>by
  have CF:=ek (a,c) (by simp)
  unfold gQ at CF
  split at CF
  ·rename_i ia iq Qw ou
   rw [hq]at ou
   cases ou
   obtain⟨p1,p2,p3⟩:=apart_spec CF
   have EV:fF is a=ia.kind:=by simp [fF,Qw]
   have JN : ∀ x∈X,gQ is x.1 q=true:=fun x hx=>ek x (List.mem_cons_of_mem _ hx)
   rw [List.map_cons,zE,EV]at hb ⊢
   simp only [List.cons_append,gG,Qw]at h ⊢
   cases hc:ej ia.kind
   ·simp only [hc,Bool.false_eq_true,if_false,Nat.zero_add]at h hb ⊢
    obtain⟨d,h1,h2,h3⟩:=h
    obtain⟨e,g1,g2,g3⟩:=ql hK hq hm Y X aX _ s JN hb h3
    have cg : ∀ s,fV ai tm s=fV ai (tm.put ia.dst d) s:=fun s=>lQ (nu p1)
    have Qx : ∀ s,fV ia tm s=fV ia (tm.put ai.dst e) s:=fun s=>lQ (nu p2)
    refine⟨e,by rw [cg];exact g1,fun hl s' ku=>by rw [cg];exact g2 hl s' ku,d,by rw [← Qx];exact h1,fun hl s' ku=>by rw [← Qx];exact h2 hl s' ku, ?_⟩
    exact nw hK _ _ _ _ _ (Tm.zD tm p3 d e) g3
   ·simp only [hc,if_true]at h hb ⊢
    obtain⟨d,s1,h1,h3⟩:=h
    obtain⟨e,g1,g2,g3⟩:=ql hK hq hm Y X (s::aX) _ s1 JN (fun hl=>by have:=hb hl;omega) h3
    have cg : ∀ s,fV ai tm s=fV ai (tm.put ia.dst d) s:=fun s=>lQ (nu p1)
    have ln:fV ai tm s=some e:=by
     cases hk:ai.kind with
     | pure=>rw [cg,Hr hk (s':=s1)];exact g1
     | load=>
      have:=hb hk
      rw [cg]
      refine g2 hk s ?_
      rw [show b - fI is (X.map (·.1))=(b - (1+fI is (X.map (·.1))))+1 by omega,List.take_succ_cons]
      exact List.mem_cons_self
     | alloc=>rw [hk]at hm;cases hm
     | core=>rw [hk]at hm;cases hm
    refine⟨e,ln,fun hl s' ku=> ?_,d,s1,qk (nu p2) h1,nw hK _ _ _ _ _ (Tm.zD tm p3 d e) g3⟩
    have:=hb hl
    rw [cg]
    refine g2 hl s' ?_
    rw [show b - fI is (X.map (·.1))=(b - (1+fI is (X.map (·.1))))+1 by omega,List.take_succ_cons]
    exact List.mem_cons_of_mem _ ku
  ·cases CF
end
end Go.Abs

/-! Par1 -/

namespace Go.Abs
section
variable {P:Program}
theorem E8 {o:Oper} {z:List D} (h:vr P o=some (.alloc z)) : ∃ t,o.op = .alloc t∧zeroOf P t=some z:=by
 obtain⟨dst,op,type,pos,after,guard⟩:=o
 unfold vr at h
 simp only at h
 split at h
 case h_4 t=>
  split at h
  ·obtain⟨z',h1,h2⟩:=map_some h;cases h2
  ·obtain⟨z',h1,h2⟩:=map_some h;cases h2;exact⟨t,rfl,h1⟩
 all_goals
  first
   | (rw [Option.map_eq_some_iff]at h;obtain⟨_,_,h⟩:=h;cases h)
   | skip
 all_goals
  (repeat' (split at h)) <;> first | (cases h;done) | (rw [Option.map_eq_some_iff]at h;obtain⟨_,_,h⟩:=h;cases h)
theorem sW {nt:Nat} {ops:Array Oper} {o:Oper} {ai:AI} (h:cI P nt ops o=some ai) :
 ∃ g,oO ops o.guard=some g∧(∀ t,o.dst=some t→t<nt)∧nn P ops o g=some ai:=by
 have h2:=qP h
 unfold cI at h
 split at h
 ·cases h
 ·rename_i g hg
  split at h
  ·exact⟨g,hg,h2,h⟩
  ·cases h
theorem nN {ops:Array Oper} {o:Oper} {g:Option (Nat×Bool)} {ai:AI} (h:nn P ops o g=some ai):ai.dst=o.dst:=by
 unfold nn at h
 split at h
 ·split at h
  ·obtain⟨xs,_,rfl⟩:=map_some h;rfl
  ·cases h
 ·obtain⟨xs,_,rfl⟩:=map_some h;rfl
 ·split at h
  ·cases h;rfl
  ·split at h
   ·cases h;rfl
   ·cases h;rfl
   ·cases h
theorem nO {nt:Nat} {ops:Array Oper} {o:Oper} {ai:AI} (h:cI P nt ops o=some ai):ai.dst=o.dst:=by
 obtain⟨g,_,_,h⟩:=sW h
 exact nN h
theorem qm {nt:Nat} {ops:Array Oper} {i:Nat} {o:Oper} {ai:AI} (hi:ops[i]? = some o) (hc:cI P nt ops o=some ai)
 {M:Map} {s:St} {w:World} {tm:Tm} {act:Act} (r:Rel M s w) (ib:Laid M s w) (ht:iF M s tm act.tmps) {K':Tm→St→Prop} (h:fk P [ai] K' tm s)
 {K:Act→World→Prop} {Q:Exit→Act→World→Prop}
 (hK : ∀ d v s1 w1 M1,K' (tm.put ai.dst d) s1→Ext M s w M1 s1 w1→Rel M1 s1 w1→RD M1 s1 d v→K (act.put o.dst v) w1):wpOp P ops Q i K act w:=by
 obtain⟨g,hg,_,hb⟩:=sW hc
 rw [nN hb]at hK
 simp only [wpOp,hi]
 have skip:K' (tm.put o.dst (.tuple [])) s→K (act.put o.dst Go.undef) w:=fun hk=>hK _ _ _ _ _ hk (Ext.refl M s w) r .undef
 unfold nn at hb
 split at hb
 ·rename_i f args jS iY
  split at hb
  ·rename_i rm
   obtain⟨xs,kg,rfl⟩:=map_some hb
   simp only [fk]at h
   rcases gh hg ht h with ⟨hw,hA⟩ | ⟨hw,hB⟩
   ·simp only [hw,if_true]
    left
    have hex:(execOp act.eval o).run P w = .ok (.enter f (args.map act.eval)) w:=by
     obtain⟨dst,op,type,pos,after,guard⟩:=o
     simp only at iY
     subst iY
     exact qh act.eval dst f args jS type pos after guard rfl rm w
    obtain⟨c1,c2⟩:=pJ ht kg
    unfold Oper.wp
    rw [hex,Oper.upon_enter]
    refine(hA M w (args.map act.eval) r ib (by simp [c1]) (fun i d v e1 e2=>c2 i d v e1 (by simpa using e2))).mono ?_
    rintro en w' ⟨M',d,v,s',rfl,hk,e',r',hv⟩
    exact hK _ _ _ _ _ hk e' r' hv
   ·simp only [hw]
    exact skip hB
  ·cases hb
 ·rename_i t args jS iY
  obtain⟨xs,kg,rfl⟩:=map_some hb
  simp only [fk]at h
  rcases gh hg ht h with ⟨hw,hA⟩ | ⟨hw,hB⟩
  ·simp only [hw,if_true]
   left
   split at hA
   ·rename_i f jD vM
    obtain⟨rm,hA⟩:=hA
    have EY:=ht t
    rw [vM]at EY
    obtain⟨vs,nL,hlen,vL⟩:=EY.Bs
    have hex:(execOp act.eval o).run P w = .ok (.enter f (args.map act.eval++vs)) w:=by
     obtain⟨dst,op,type,pos,after,guard⟩:=o
     simp only at iY
     subst iY
     exact sP act.eval dst (.tmp t) f vs args jS type pos after guard nL rm w
    have cc:=xE kg ht hlen vL
    unfold Oper.wp
    rw [hex,Oper.upon_enter]
    refine(hA M w (args.map act.eval++vs) r ib cc.1 cc.2).mono ?_
    rintro en w' ⟨M',d,v,s',rfl,hk,e',r',hv⟩
    exact hK _ _ _ _ _ hk e' r' hv
   ·exact hA.elim
  ·simp only [hw]
   exact skip hB
 ·split at hb
  ·rename_i neg x zt
   cases hb
   simp only [fk]at h
   rcases gh hg ht h with ⟨hw,hA⟩ | ⟨hw,hB⟩
   ·simp only [hw,if_true]
    left
    split at hA
    ·rename_i g' z rows hx
     obtain⟨b,hb,hex⟩:=rW (w:=w) zt ht hx
     unfold Oper.wp
     rw [hex,Oper.upon_value]
     exact hK _ _ _ _ _ (hA b hb) (Ext.refl M s w) r (.bool _)
    ·exact hA.elim
   ·simp only [hw]
    exact skip hB
  ·have fin : ∀ ao,ai = .op o.dst g ao→(∀ d s',aD ao tm s=some (d,s')→bR P M s w (execOp act.eval o) d s')→
    (if Region.wanted o (yielded ops act.tmps)=true then o.wp P act w K Q∨(o.asks P act w∧LetsOut Q)else K (act.put o.dst Go.undef) w):=by
    intro ao pK Mc
    subst pK
    simp only [fk]at h
    rcases gh hg ht h with ⟨hw,hA⟩ | ⟨hw,hB⟩
    ·simp only [hw,if_true]
     left
     split at hA
     ·rename_i d s' lP
      obtain⟨v,w',M',cE,r',hv,e'⟩:=Mc d s' lP
      unfold Oper.wp
      rcases cE with cE | ⟨cE,rfl⟩
      ·rw [cE,Oper.upon_value]
       exact hK _ _ _ _ _ hA e' r' hv
      ·rw [cE,Oper.upon_skip]
       exact hK _ _ _ _ _ hA e' r' hv
     ·exact hA.elim
    ·simp only [hw]
     exact skip hB
   split at hb
   ·rename_i z k n ps jT
    cases hb
    refine fin _ rfl (fun d s' lP=> ?_)
    split at lP
    ·exact rl jT r ht lP
    ·exact nq jT r ht lP
   ·rename_i ao jT
    cases hb
    exact fin _ rfl (fun d s' lP=>nq jT r ht lP)
   ·cases hb
structure BD (M:Map) (s:St) (b:Nat):Prop where
 o : ∀ o,o<s.al.length→M.mu o≠b
 t : ∀ t c z,s.live t→M.be t≠some (b,c,z)
 g : ∀ off,M.G b off=none
theorem BD.mono {M M':Map} {s s':St} {w w':World} {b:Nat} (h:BD M s b) (e:Ext M s w M' s' w') (hb:b<w.heap.size):BD M' s' b:=by
 refine⟨fun o ho=> ?_,fun t c z hl he=> ?_,fun off=> ?_⟩
 ·rcases Nat.lt_or_ge o s.al.length with h1 | h1
  ·rw [e.le.mu o h1];exact h.o o h1
  ·have:=e.lU o h1 ho;omega
 ·rcases e.lV t b c z hl he with ⟨h1,c',z',h2⟩ | h1
  ·exact h.t t c' z' h1 h2
  ·omega
 ·by_cases hg:M'.G b off=M.G b off
  ·rw [hg];exact h.g off
  ·rcases e.nZ b off hg with h1 | ⟨t,c,z,h1,h2⟩
   ·omega
   ·exact(h.t t c z h1 h2).elim
theorem Rel.idle {M:Map} {s:St} {w:World} (r:Rel M s w) (x:Obj):Rel M s (w.alloc x)∧Ext M s w M s (w.alloc x)∧BD M s w.heap.size:=by
 refine⟨⟨fun b o v e=> ?_,fun o ds e=> ?_,r.gV,r.inj,fun t n e=> ?_,r.dz,r.dZ⟩, ?_,⟨fun o ho=> ?_,fun t c z hl e=> ?_,fun off=>r.Jn (Nat.le_refl _) off⟩⟩
 ·obtain⟨h3,h4⟩:=r.comm b o v e
  refine⟨?_,h4⟩
  rw [World.cell?_alloc_lt]
  ·exact h3
  ·exact r.wN e
 ·obtain⟨vs,T,h3,h4,h5,h6⟩:=r.obj o ds e
  exact⟨vs,T,by rw [heap_alloc_old w _ _ h3.lt];exact h3,h4,h5,h6⟩
 ·rcases r.tok t n e with h3 | ⟨b,cap,size,dJ,T',h3,h4,h5⟩
  ·exact .inl h3
  ·exact .inr ⟨b,cap,size,dJ,T',h3,by rw [heap_alloc_old w _ _ (iD h4)];exact h4,h5⟩
 ·exact⟨Le.refl M s,fun b hb _ _=>heap_alloc_old w _ b hb,fun o h3 h4=>by omega,fun t b c z h e=> .inl ⟨h,c,z,e⟩,fun _ _ h=>(h rfl).elim,by simp,rfl,rfl,rfl⟩
 ·have:=r.lY ho;omega
 ·have:=r.oz hl e;omega
theorem Rel.O2 {M:Map} {s:St} {w:World} (r:Rel M s w) {B:eR} (e:Ext B.M B.s B.w M s w) {b:Nat} (u:BD M s b) (hb:B.w.heap.size≤b)
 (ds:List D) (vs:Array Value) (T:TypeId) (hh:w.heap[b]? = some (.cells vs T (0,0))) (hl:vs.size=ds.length) (h1 : ∀ v∈vs,v.oneCell'=true)
 (h2 : ∀ (i:Nat) (d:D) (v:Value),ds[i]? = some d→vs[i]? = some v→RD M s d v) :
 Rel (M.cw s.al.length b) {s with al:=s.al++ [ds]} w∧Ext B.M B.s B.w (M.cw s.al.length b) {s with al:=s.al++ [ds]} w∧
 Le M s (M.cw s.al.length b) {s with al:=s.al++ [ds]}:=by
 have le:=oP (M:=M) s b ds
 have lN : ∀ o,o<s.al.length→(M.cw s.al.length b).mu o=M.mu o:=le.mu
 have cH:(M.cw s.al.length b).mu s.al.length=b:=by simp [Map.cw,Map.mu]
 refine⟨⟨r.comm,fun o ke e'=> ?_,fun o ho off=> ?_,fun o o' ho jB e'=> ?_,r.tok,fun t b' c z o hl e' ho=> ?_,r.dZ⟩, ?_,le⟩
 ·rcases Nat.lt_or_ge o s.al.length with ho | ho
  ·rw [List.getElem?_append_left ho]at e'
   obtain⟨dJ,T',h3,h4,h5,h6⟩:=r.obj o ke e'
   refine⟨dJ,T', ?_,h4,⟨h5.1,by rw [le.ty o ho];exact h5.2⟩,fun i d v e1 e2=>(h6 i d v e1 e2).mono le⟩
   rw [lN o ho,le.ob o ho];exact h3
  ·rw [List.getElem?_append_right ho]at e'
   have:o=s.al.length:=by
    have:=(List.getElem?_eq_some_iff.1 e').1
    simp at this;omega
   subst this
   simp at e';subst e'
   refine⟨vs,T, ?_,hl,⟨h1,fun T' h=>by simp [Map.cw,Map.ty,Ob.ty?]at h⟩,fun i d v e1 e2=>(h2 i d v e1 e2).mono le⟩
   rw [cH];exact jc.of hh (by simp [Map.cw,Map.ob])
 ·simp at ho
  rcases Nat.lt_or_ge o s.al.length with h3 | h3
  ·rw [lN o h3];exact r.gV o h3 off
  ·have:o=s.al.length:=by omega
   subst this
   rw [cH];exact u.g off
 ·simp at ho jB
  rcases Nat.lt_or_ge o s.al.length with h3 | h3 <;> rcases Nat.lt_or_ge o' s.al.length with h4 | h4
  ·rw [lN o h3,lN o' h4]at e';exact r.inj o o' h3 h4 e'
  ·have:o'=s.al.length:=by omega
   subst this
   rw [lN o h3,cH]at e'
   exact(u.o o h3 e').elim
  ·have:o=s.al.length:=by omega
   subst this
   rw [lN o' h4,cH]at e'
   exact(u.o o' h4 e'.symm).elim
  ·omega
 ·simp at ho
  rcases Nat.lt_or_ge o s.al.length with h3 | h3
  ·rw [lN o h3];exact r.dz t b' c z o hl e' h3
  ·have:o=s.al.length:=by omega
   subst this
   rw [cH]
   intro he
   subst he
   exact u.t t c z hl e'
 ·refine⟨e.le.trans le,e.kept,fun o h3 h4=> ?_,e.lV,e.nZ,e.size,e.os,e.tape,e.output⟩
  simp at h4
  rcases Nat.lt_or_ge o s.al.length with h5 | h5
  ·rw [lN o h5];exact e.lU o h3 h5
  ·have:o=s.al.length:=by omega
   subst this
   rw [cH];exact hb
theorem AT {nt:Nat} {ops:Array Oper} {i:Nat} {o:Oper} {t:Nat} {z:List D} (hi:ops[i]? = some o) (hc:cI P nt ops o=some (.op (some t) none (.alloc z)))
 {w:World} {act:Act} {K:Act→World→Prop} {Q:Exit→Act→World→Prop}
 (hK : ∀ vs T,vs.size=z.length→(∀ v∈vs,v.oneCell'=true)→(∀ (M:Map) (s:St) (i:Nat) (d:D) (v:Value),z[i]? = some d→vs[i]? = some v→RD M s d v)→
  K (act.put (some t) (.pointer (some ⟨w.heap.size,0,none⟩))) (w.alloc (.cells vs T))):wpOp P ops Q i K act w:=by
 obtain⟨g,hg,_,hb⟩:=sW hc
 have lC:=nN hb
 simp only [AI.dst]at lC
 simp only [wpOp,hi]
 have iY:g=none∧vr P o=some (.alloc z):=by
  unfold nn at hb
  split at hb
  ·split at hb
   ·obtain⟨xs,_,h⟩:=map_some hb;cases h
   ·cases hb
  ·obtain⟨xs,_,h⟩:=map_some hb;cases h
  ·split at hb
   ·cases hb
   ·split at hb
    ·rename_i jT
     simp only [Option.some.injEq,AI.op.injEq]at hb
     obtain⟨_,_,h⟩:=hb
     split at h <;> cases h
    ·rename_i ao jT
     simp only [Option.some.injEq,AI.op.injEq]at hb
     obtain⟨_,h1,h2⟩:=hb
     subst h2
     exact⟨h1,jT⟩
    ·cases hb
 obtain⟨rfl,jT⟩:=iY
 obtain⟨T,hT,hz⟩:=E8 jT
 have hw:Region.wanted o (yielded ops act.tmps)=true:=by
  have:o.guard=none:=by
   cases xA:o.guard with
   | none=>rfl
   | some p=>
    obtain⟨j,b⟩:=p
    rw [xA]at hg
    unfold oO at hg
    simp only at hg
    split at hg <;> cases hg
  simp [Region.wanted,this]
 simp only [hw,if_true]
 left
 unfold zeroOf at hz
 split at hz
 ·rename_i inf Hl
  split at hz
  ·rename_i v hv
   split at hz
   ·have cE:(execOp act.eval o).run P w = .ok (.value (.pointer (some ⟨w.heap.size,0,none⟩))) (w.alloc (.cells v.cells T)):=by
     obtain⟨dst,op,type,pos,after,guard⟩:=o
     simp only at hT
     subst hT
     simp [execOp,Instr.alloc,zeroValue,eZ P Hl,hv,newVar,newRow]
    have h3:=fun M s=>gT (M:=M) (s:=s) hz
    obtain⟨h1,h2,_⟩:=h3 ⟨fun _ _=>none,fun _=>(0, .any),fun _=>none⟩ ⟨[],[]⟩
    unfold Oper.wp
    rw [cE,Oper.upon_value, ← lC]
    exact hK _ _ (by rw [h1];simp) (fun u hu=>h2 u (by simpa using hu)) (fun M s i d u e1 e2=>(h3 M s).2.2 i d u e1 (by simpa using e2))
   ·cases hz
  ·cases hz
 ·cases hz
end
end Go.Abs

/-! Par2 -/

namespace Go.Abs
section
variable {is:List AI} {af pt:List (List Nat)}
theorem sa {pq:List Nat} {l l':List Nat} (h:l'.Sublist l) (hb:gL is pq l=true):gL is pq l'=true:=by
 induction h with
 | slnil=>rfl
 | cons a h ih=>
  simp only [gL,Bool.and_eq_true]at hb
  exact ih hb.2
 | cons_cons a h ih=>
  simp only [gL,Bool.and_eq_true,Bool.or_eq_true]at hb ⊢
  refine⟨hb.1.imp id fun h1=> ?_,ih hb.2⟩
  rw [List.all_eq_true]at h1 ⊢
  exact fun x hx=>h1 x (h.subset hx)
theorem tM {f:Nat→Bool} {l l':List Nat} (h:l'.Sublist l) (ha:l.all f=true):l'.all f=true:=by
 rw [List.all_eq_true]at ha ⊢
 exact fun x hx=>ha x (h.subset hx)
theorem AU {l l':List Nat} (h:l'.Sublist l):fI is l'≤fI is l:=(h.filter _).length_le
theorem CG {pre wX:List Nat} {q b:Nat} (h:wX.Sublist pre) (hs:kp is pt pre q b=true):kp is pt wX q b=true:=by
 unfold kp at *
 split at hs
 ·exact tM h hs
 ·exact tM h hs
 ·simp only [Bool.and_eq_true]at hs ⊢
  exact⟨tM h hs.1,sa h hs.2⟩
 ·simp only [Bool.and_eq_true,decide_eq_true_eq]at hs ⊢
  exact⟨⟨tM h hs.1.1,sa h hs.1.2⟩,Nat.le_trans (AU (h.filter _)) hs.2⟩
theorem zF : ∀ {R:List (Nat×Nat)} {pre wX:List Nat},wX.Sublist pre→oq is af pt pre R=true→oq is af pt wX R=true
 | [],_,_,_,_=>rfl
 | (q,b)::R,pre,wX,h,ho=>by
  simp only [oq,Bool.and_eq_true,Bool.not_eq_true']at ho ⊢
  obtain⟨⟨⟨h1,h2⟩,h3⟩,h4⟩:=ho
  refine⟨⟨⟨CG h h1, ?_⟩,h3⟩,zF (h.cons_cons q) h4⟩
  rw [← Bool.not_eq_true,List.contains_iff_mem]at h2 ⊢
  exact fun hm=>h2 (h.subset hm)
theorem wY : ∀ {X:List (Nat×Nat)} {e:Nat×Nat} {Y:List (Nat×Nat)} {pre:List Nat},oq is af pt pre (X++e::Y)=true→oq is af pt pre (X++Y)=true
 | [],(q,b),Y,pre,h=>by
  simp only [List.nil_append,oq,Bool.and_eq_true]at h
  exact zF (List.sublist_cons_self q pre) h.2
 | (a,c)::X,e,Y,pre,h=>by
  simp only [List.cons_append,oq,Bool.and_eq_true]at h ⊢
  obtain⟨⟨⟨h1,h2⟩,h3⟩,h4⟩:=h
  refine⟨⟨⟨h1,h2⟩, ?_⟩,wY h4⟩
  rw [List.all_eq_true]at h3 ⊢
  intro j hj
  have:=h3 j hj
  simp only [Bool.and_eq_true,Bool.not_eq_true']at this ⊢
  refine⟨this.1, ?_⟩
  have h5:=this.2
  rw [← Bool.not_eq_true,List.contains_iff_mem]at h5 ⊢
  refine fun hm=>h5 ?_
  simp only [List.map_append,List.map_cons,List.mem_append,List.mem_cons]at hm ⊢
  exact hm.imp id .inr
theorem nP : ∀ {X:List (Nat×Nat)} {q b:Nat} {Y:List (Nat×Nat)} {pre:List Nat},oq is af pt pre (X++(q,b)::Y)=true→
 kp is pt ((X.map (·.1)).reverse++pre) q b=true∧q∉X.map (·.1)∧q∉pre∧(∀ j∈eB af q,j≠q∧j∉Y.map (·.1))∧oq is af pt (q::((X.map (·.1)).reverse++pre)) Y=true
 | [],q,b,Y,pre,h=>by
  simp only [List.nil_append,oq,Bool.and_eq_true,Bool.not_eq_true']at h
  obtain⟨⟨⟨h1,h2⟩,h3⟩,h4⟩:=h
  rw [← Bool.not_eq_true,List.contains_iff_mem]at h2
  refine⟨h1,by simp,h2,fun j hj=> ?_,h4⟩
  rw [List.all_eq_true]at h3
  have:=h3 j hj
  simp only [Bool.and_eq_true,bne_iff_ne,Bool.not_eq_true', ← Bool.not_eq_true,List.contains_iff_mem]at this
  exact this
 | (a,c)::X,q,b,Y,pre,h=>by
  simp only [List.cons_append,oq,Bool.and_eq_true]at h
  obtain⟨_,h4⟩:=h
  obtain⟨g1,g2,g3,g4,g5⟩:=nP h4
  simp only [List.map_cons,List.reverse_cons,List.append_assoc,List.singleton_append]
  refine⟨g1, ?_,fun h=>g3 (List.mem_cons_of_mem _ h),g4,g5⟩
  intro hm
  rcases List.mem_cons.1 hm with rfl | hm
  ·exact g3 (by simp)
  ·exact g2 hm
theorem tO : ∀ {Y:List (Nat×Nat)} {pre:List Nat},oq is af pt pre Y=true→∀ x∈Y,x.1∉pre∧(fF is x.1 = .alloc→∀ a∈pre,gQ is a x.1=true)
 | [],_,_,x,hx=>by cases hx
 | (q,b)::Y,pre,h,x,hx=>by
  simp only [oq,Bool.and_eq_true,Bool.not_eq_true']at h
  obtain⟨⟨⟨h1,h2⟩,_⟩,h4⟩:=h
  rw [← Bool.not_eq_true,List.contains_iff_mem]at h2
  rcases List.mem_cons.1 hx with rfl | hx
  ·refine⟨h2,fun hk a ha=> ?_⟩
   unfold kp at h1
   simp only [hk]at h1
   rw [List.all_eq_true]at h1
   exact h1 a ha
  ·obtain⟨g1,g2⟩:=tO h4 x hx
   exact⟨fun h=>g1 (List.mem_cons_of_mem _ h),fun hk a ha=>g2 hk a (List.mem_cons_of_mem _ ha)⟩
theorem uv : ∀ {n:Nat},qI af pt n=true→∀ i,i<n→∀ j∈eB pt i,j∈eB af i∨∃ k∈eB af i,j∈eB pt k
 | 0,_,i,hi=>by omega
 | n+1,h,i,hi=>by
  simp only [qI,Bool.and_eq_true]at h
  rcases Nat.lt_or_ge i n with h1 | h1
  ·exact uv h.2 i h1
  ·have:i=n:=by omega
   subst this
   intro j hj
   have:=h.1
   rw [List.all_eq_true]at this
   have:=this j hj
   simp only [Bool.or_eq_true,List.contains_iff_mem,List.any_eq_true]at this
   exact this
theorem qS {pq:List Nat} : ∀ {l:List Nat},gL is pq l=true→∀ (x:Nat) (l1 l2:List Nat),l=l1++x::l2→fF is x = .alloc→x∈pq→∀ y∈l2,y∈pq
 | [],_,x,l1,l2,h=>by simp at h
 | a::l,hb,x,l1,l2,h=>by
  simp only [gL,Bool.and_eq_true,Bool.or_eq_true,Bool.not_eq_true',Bool.and_eq_false_iff]at hb
  intro hk hx y hy
  cases l1 with
  | nil=>
   simp only [List.nil_append,List.cons.injEq]at h
   obtain⟨rfl,rfl⟩:=h
   rcases hb.1 with h1 | h1
   ·rcases h1 with h1 | h1
    ·simp [hk]at h1
    ·rw [← Bool.not_eq_true,List.contains_iff_mem]at h1
     exact(h1 hx).elim
   ·rw [List.all_eq_true]at h1
    have:=h1 y hy
    rwa [List.contains_iff_mem]at this
  | cons b l1=>
   simp only [List.cons_append,List.cons.injEq]at h
   exact qS hb.2 x l1 l2 h.2 hk hx y hy
end
structure Pd where
 q:Nat
 t:Nat
 z:List D
 b:Nat
structure Mj (is:List AI) (R:List (Nat×Nat)) (B:eR) (M:Map) (s:St) (act:Act) (w:World) (p:Pd):Prop where
 mem:p.q∈R.map (·.1)
 ai:is[p.q]? = some (.op (some p.t) none (.alloc p.z))
 cells : ∃ (vs:Array Value) (T:TypeId),w.heap[p.b]? = some (.cells vs T (0,0))∧vs.size=p.z.length∧(∀ v∈vs,v.oneCell'=true)∧
  ∀ (M:Map) (s:St) (i:Nat) (d:D) (v:Value),p.z[i]? = some d→vs[i]? = some v→RD M s d v
 unk:BD M s p.b
 base:B.w.heap.size≤p.b
 slot:act.tmps.getD p.t Go.undef = .pointer (some ⟨p.b,0,none⟩)
def rp (P:Program) (is:List AI) (K:Tm→St→Prop) (B:eR) (nt:Nat) (R:List (Nat×Nat)) (cm:List Pd) (act:Act) (w:World):Prop:=
 ∃ (M:Map) (s:St) (tm nQ:Tm) (aX:List St),Ext B.M B.s B.w M s w∧Rel M s w∧iF M s nQ act.tmps∧(∀ t,(∀ p∈cm,p.t≠t)→nQ.get t=tm.get t)∧
  act.tmps.size=nt∧act.defers = []∧gG P is K R aX tm s∧(∀ p∈cm,Mj is R B M s act w p)∧
  (∀ p∈cm,∀ p'∈cm,p.q=p'.q∨p.t=p'.t∨p.b=p'.b→p=p')
structure l9 (is:List AI) (af pt:List (List Nat)) (bH:Array Bool) (R:List (Nat×Nat)) (cm:List Pd):Prop where
 ok:oq is af pt [] R=true
 xL : ∀ i,i<is.length→(bH.getD i false=true↔(i∉R.map (·.1)∨∃ p∈cm,p.q=i))
 cl : ∀ i,i<is.length→bH.getD i false=true→∀ j∈eB pt i,bH.getD j false=true
 size:bH.size=is.length
 lt : ∀ x∈R,x.1<is.length
section
variable {P:Program} {is:List AI} {af pt:List (List Nat)} {K:Tm→St→Prop} {B:eR} {nt:Nat}
theorem Mk {bH:Array Bool} {q b:Nat} {R:List (Nat×Nat)} {cm:List Pd} {act:Act} {w:World} (hs:l9 is af pt bH ((q,b)::R) cm) (h:rp P is K B nt ((q,b)::R) cm act w)
 {p:Pd} (hp:p∈cm) (ov:p.q=q) :
 l9 is af pt bH R (cm.filter fun p'=>decide (p'.q≠q))∧rp P is K B nt R (cm.filter fun p'=>decide (p'.q≠q)) act w:=by
 have kb : ∀ p',p'∈(cm.filter fun p'=>decide (p'.q≠q))↔p'∈cm∧p'.q≠q:=fun p'=>by simp
 constructor
 ·have xH:=hs.ok
  have uS:=nP (X:= []) xH
  refine⟨wY (X:= []) xH,fun i hi=> ?_,hs.cl,hs.size,fun x hx=>hs.lt x (List.mem_cons_of_mem _ hx)⟩
  rw [hs.xL i hi]
  simp only [List.map_cons,List.mem_cons,not_or]
  have Ml:q∉R.map (·.1):=fun hm=>by
   obtain⟨x,hx,rfl⟩:=List.mem_map.1 hm
   exact(tO uS.2.2.2.2 x hx).1 (by simp)
  constructor
  ·rintro(⟨h1,h2⟩ | ⟨p',h1,h2⟩)
   ·exact .inl h2
   ·by_cases hq:i=q
    ·subst hq;exact .inl Ml
    ·exact .inr ⟨p',(kb p').2 ⟨h1,by rw [h2];exact hq⟩,h2⟩
  ·rintro(h1 | ⟨p',h1,h2⟩)
   ·by_cases hq:i=q
    ·subst hq;exact .inr ⟨p,hp,ov⟩
    ·exact .inl ⟨hq,h1⟩
   ·exact .inr ⟨p',((kb p').1 h1).1,h2⟩
 ·obtain⟨M,s,tm,nQ,aX,e,r,ht,ln,hn,hd,hg,pO,ny⟩:=h
  have hk:=pO p hp
  obtain⟨vs,T,hh,hl,h1,h2⟩:=hk.cells
  have pK:=hk.ai
  rw [ov]at pK
  simp only [gG,pK,AI.kind,ej]at hg
  obtain⟨d,s',uh,hg⟩:=hg
  have lP:aD (.alloc p.z) tm s=some (d,s'):=uh
  simp only [aD,Option.some.injEq,Prod.mk.injEq]at lP
  obtain⟨rfl,rfl⟩:=lP
  obtain⟨r',e',le⟩:=r.O2 e hk.unk hk.base p.z vs T hh hl h1 (h2 M s)
  refine⟨_,_,_,nQ.put (some p.t) (.ptr s.al.length 0),_,e',r',fun u=> ?_,fun t Mm=> ?_,hn,hd,hg,fun p' ki=> ?_,fun p1 h1 p2 h2=>ny p1 ((kb p1).1 h1).1 p2 ((kb p2).1 h2).1⟩
  ·rw [Tm.gU]
   split
   ·rename_i heq
    cases heq
    rw [hk.slot]
    have:(M.cw s.al.length p.b).mu s.al.length=p.b:=by simp [Map.cw,Map.mu]
    have h5:=RD.ptr (M:=M.cw s.al.length p.b) (s:= {s with al:=s.al++ [p.z]}) s.al.length 0 (by simp) (by simp [Map.cw,Map.ob])
    rw [this]at h5
    exact h5
   ·exact(ht u).mono le
  ·simp only [AI.dst]
   rw [Tm.gU,Tm.gU]
   split
   ·rfl
   ·rename_i dC
    refine ln t fun p' ki=> ?_
    by_cases hq:p'.q=q
    ·have:=ny p' ki p hp (.inl (hq.trans ov.symm))
     subst this
     exact fun h=>dC (by rw [h])
    ·exact Mm p' ((kb p').2 ⟨ki,hq⟩)
  ·obtain⟨Qy,Qz⟩:=(kb p').1 ki
   have uw:=pO p' Qy
   refine⟨?_,uw.ai,uw.cells,⟨fun o ho=> ?_,uw.unk.t,uw.unk.g⟩,uw.base,uw.slot⟩
   ·have:=uw.mem
    simp only [List.map_cons,List.mem_cons]at this
    exact this.resolve_left Qz
   ·simp at ho
    rcases Nat.lt_or_ge o s.al.length with h5 | h5
    ·rw [le.mu o h5];exact uw.unk.o o h5
    ·have:o=s.al.length:=by omega
     subst this
     have:(M.cw s.al.length p.b).mu s.al.length=p.b:=by simp [Map.cw,Map.mu]
     rw [this]
     intro hb
     have:=ny p hp p' Qy (.inr (.inr hb))
     subst this
     exact Qz ov
theorem norm {bH:Array Bool} {act:Act} {w:World} : ∀ (R:List (Nat×Nat)) (cm:List Pd),l9 is af pt bH R cm→rp P is K B nt R cm act w→
 ∃ R' pP,l9 is af pt bH R' pP∧rp P is K B nt R' pP act w∧∀ x l,R'=x::l→∀ p∈pP,p.q≠x.1
 | [],cm,hs,h=>⟨[],cm,hs,h,fun _ _ he=>by cases he⟩
 | (q,b)::R,cm,hs,h=>by
  by_cases hp : ∃ p∈cm,p.q=q
  ·obtain⟨p,hp,ov⟩:=hp
   obtain⟨h1,h2⟩:=Mk hs h hp ov
   exact norm R _ h1 h2
  ·refine⟨(q,b)::R,cm,hs,h,fun x l he p Mn ov=>hp ⟨p,Mn, ?_⟩⟩
   cases he
   exact ov
theorem JO {ops:Array Oper} {q:Nat} {o:Oper} {ai:AI} (hi:ops[q]? = some o) (hc:cI P nt ops o=some ai) {R R':List (Nat×Nat)} {cm:List Pd} {act:Act} {w:World} {M:Map} {s s1:St} {tm nQ:Tm} {d:D} {JP:List St}
 (e:Ext B.M B.s B.w M s w) (r:Rel M s w) (ht:iF M s nQ act.tmps) (ln : ∀ t,(∀ p∈cm,p.t≠t)→nQ.get t=tm.get t) (hn:act.tmps.size=nt) (hd:act.defers = [])
 (pO : ∀ p∈cm,Mj is R B M s act w p) (ny : ∀ p∈cm,∀ p'∈cm,p.q=p'.q∨p.t=p'.t∨p.b=p'.b→p=p')
 (hv:fk P [ai] (fun a b=>a=nQ.put ai.dst d∧b=s1) nQ s) (hg:gG P is K R' JP (tm.put ai.dst d) s1)
 (kb : ∀ p∈cm,p.q∈R'.map (·.1)) (lC : ∀ p∈cm,ai.dst≠some p.t) {Q:Exit→Act→World→Prop} :
 wpOp P ops Q q (rp P is K B nt R' cm) act w:=by
 refine qm hi hc r (B.laid.ext e) ht hv fun d' v s2 w1 M1 hk e1 r1 k8=> ?_
 obtain⟨uk,rfl⟩:=hk
 have QA:=nO hc
 have hD : ∀ t,o.dst=some t→t<act.tmps.size:=fun t h=>by rw [hn];exact qP hc t h
 refine⟨M1,s2,tm.put ai.dst d,nQ.put ai.dst d,JP,e.trans e1,r1, ?_,fun t Mm=> ?_, ?_, ?_,hg,fun p hp=> ?_,ny⟩
 ·rw [← uk,QA]
  exact(ht.mono e1.le).put hD k8
 ·rw [Tm.gU,Tm.gU,ln t Mm]
 ·cases ho:o.dst <;> simp [Act.put,hn]
 ·cases ho:o.dst <;> simp [Act.put,hd]
 ·have hk:=pO p hp
  obtain⟨vs,T,hh,hl,h1,h2⟩:=hk.cells
  have hb:=iD hh
  refine⟨kb p hp,hk.ai,⟨vs,T,by rw [e1.kept p.b hb hk.unk.o hk.unk.t];exact hh,hl,h1,h2⟩,hk.unk.mono e1 hb,hk.base, ?_⟩
  rw [← hk.slot]
  have:=lC p hp
  rw [QA]at this
  cases ho:o.dst with
  | none=>rfl
  | some t=>
   rw [ho]at this
   have dC:t≠p.t:=fun h=>this (by rw [h])
   simp [Act.put,Array.getElem?_setIfInBounds_ne dC]
theorem CH {ai:AI} (hm:ej ai.kind=false) {tm:Tm} {s:St} {d:D} (h:fV ai tm s=some d):fk P [ai] (fun a b=>a=tm.put ai.dst d∧b=s) tm s:=by
 cases ai with
 | op dst g o=>
  have S7:=BB hm
  have key : ∀ {d},(aD o tm s).map (·.1)=some d→aD o tm s=some (d,s):=by
   intro d h
   cases he:aD o tm s with
   | none=>rw [he]at h;cases h
   | some p=>
    obtain⟨d',s'⟩:=p
    rw [he]at h
    simp only [Option.map_some,Option.some.injEq]at h
    subst h
    rw [AS (by rw [← S7];exact hm) he]
  simp only [fk,AI.dst]
  cases g with
  | none=>
   simp only [fV]at h
   simp only [guarded,key h,and_self]
  | some p=>
   obtain⟨t,want⟩:=p
   simp only [fV]at h
   simp only [guarded]
   split at h
   ·rename_i b hb
    simp only [hb]
    split at h
    ·rename_i heq
     refine⟨fun _=>by simp only [key h,and_self],fun dC=> ?_⟩
     subst heq
     cases b <;> cases dC
    ·rename_i dC
     cases h
     exact⟨fun heq=>(dC heq).elim,fun _=>by simp⟩
   ·rename_i ds hb
    cases h
    simp only [hb,and_self]
   ·cases h
 | call dst g f xs=>cases hm
 | nil dst g n x=>cases hm
 | fE dst g t xs=>cases hm
theorem sX {g:Option (Nat×Bool)} {tm:Tm} {A A' C C':Prop} (ha:A→A') (hc:C→C') (hh:guarded g tm A C):guarded g tm A' C':=by
 cases g with
 | none=>exact ha hh
 | some p=>
  obtain⟨t,want⟩:=p
  unfold guarded at *
  simp only at *
  split
  ·rename_i b hb;rw [hb]at hh;exact⟨fun e=>ha (hh.1 e),fun e=>hc (hh.2 e)⟩
  ·rename_i hb;rw [hb]at hh;exact hc hh
  ·rename_i x h1 h2
   split at hh
   ·exact h1 _ ‹_›
   ·exact h2 _ ‹_›
   ·exact hh
theorem zG {ai:AI} {tm:Tm} {s s1:St} {d:D} (h:nr P ai tm s d s1):fk P [ai] (fun a b=>a=tm.put ai.dst d∧b=s1) tm s:=by
 cases ai with
 | op dst g o=>
  refine sX (fun e=> ?_) (fun e=> ?_) h
  ·rw [e];exact⟨rfl,rfl⟩
  ·obtain⟨rfl,rfl⟩:=e;exact⟨rfl,rfl⟩
 | call dst g f xs=>
  refine sX (fun e=> ?_) (fun e=> ?_) h
  ·exact e.mono fun x y S8=>by obtain⟨rfl,rfl⟩:=S8;exact⟨rfl,rfl⟩
  ·obtain⟨rfl,rfl⟩:=e;exact⟨rfl,rfl⟩
 | nil dst g n x=>exact h.elim
 | fE dst g t xs=>exact h.elim
end
end Go.Abs

/-! Par3 -/

namespace Go.Abs
section
variable {P:Program} {is:List AI} {af pt:List (List Nat)} {K:Tm→St→Prop} {B:eR} {nt:Nat}
theorem tP {ops:Array Oper} : ∀ {ol:List Oper} {is:List AI},lX P nt ops ol=some is→is.length=ol.length∧∀ (i:Nat) (o:Oper),ol[i]? = some o→∃ ai,is[i]? = some ai∧cI P nt ops o=some ai
 | [],is,h=>by cases h;exact⟨rfl,by simp⟩
 | o::ol,is,h=>by
  unfold lX at h
  split at h
  ·rename_i ai EX h1 h2
   cases h
   obtain⟨g1,g2⟩:=tP h2
   refine⟨by simp [g1],fun i o' ho=> ?_⟩
   cases i with
   | zero=>simp at ho;subst ho;exact⟨ai,rfl,h1⟩
   | succ i=>exact g2 i o' (by simpa using ho)
  ·cases h
theorem nz {bH:Array Bool} {i:Nat} (h:i<bH.size):bH.getD i true=bH.getD i false:=by
 simp [h]
theorem l9.done {bH:Array Bool} {X Y:List (Nat×Nat)} {q b:Nat} {cm:List Pd} (hs:l9 is af pt bH (X++(q,b)::Y) cm) (hq:q<is.length)
 (xM : ∀ j∈eB pt q,bH.getD j false=true):l9 is af pt (bH.setIfInBounds q true) (X++Y) cm:=by
 obtain⟨g1,g2,g3,g4,g5⟩:=nP hs.ok
 have S9:q∉Y.map (·.1):=fun hm=>by
  obtain⟨x,hx,rfl⟩:=List.mem_map.1 hm
  exact(tO g5 x hx).1 (by simp)
 refine⟨wY hs.ok,fun i hi=> ?_,fun i hi hl j hj=> ?_,by simp [hs.size],fun x hx=>hs.lt x (by simp at hx ⊢;exact hx.imp id .inr)⟩
 ·by_cases ou:i=q
  ·subst ou
   have:i<bH.size:=by rw [hs.size];exact hq
   simp only [List.map_append,List.mem_append,g2,S9,or_self,not_false_eq_true,true_or,iff_true]
   simp [this]
  ·rw [getD_set_ne false (Ne.symm ou),hs.xL i hi]
   simp [ou]
 ·by_cases ou:i=q
  ·subst ou;exact getD_set_true (xM j hj)
  ·rw [getD_set_ne false (Ne.symm ou)]at hl
   exact getD_set_true (hs.cl i hi hl j hj)
theorem l9.flag {bH:Array Bool} {R:List (Nat×Nat)} {cm:List Pd} (hs:l9 is af pt bH R cm) {p:Pd} (hq:p.q<is.length)
 (xM : ∀ j∈eB pt p.q,bH.getD j false=true):l9 is af pt (bH.setIfInBounds p.q true) R (p::cm):=by
 refine⟨hs.ok,fun i hi=> ?_,fun i hi hl j hj=> ?_,by simp [hs.size],hs.lt⟩
 ·by_cases ou:i=p.q
  ·subst ou
   have:p.q<bH.size:=by rw [hs.size];exact hq
   simp [this]
  ·rw [getD_set_ne false (Ne.symm ou),hs.xL i hi]
   have dC:p.q≠i:=fun h=>ou h.symm
   simp [dC]
 ·by_cases ou:i=p.q
  ·subst ou;exact getD_set_true (xM j hj)
  ·rw [getD_set_ne false (Ne.symm ou)]at hl
   exact getD_set_true (hs.cl i hi hl j hj)
theorem CI {ai:AI} (h:ai.kind = .alloc) : ∃ t z,ai = .op (some t) none (.alloc z):=by
 cases ai with
 | op dst g o=>
  unfold AI.kind at h
  split at h
  ·rename_i heq;cases heq;exact⟨_,_,rfl⟩
  ·rename_i heq
   cases heq
   exfalso
   revert h
   cases o <;> simp [AO.kind]
  ·cases h
 | call dst g f xs=>cases h
 | nil dst g n x=>cases h
 | fE dst g t xs=>cases h
theorem CJ {ops:Array Oper} (qn:lX P nt ops ops.toList=some is) (CK:qI af pt is.length=true)
 (hK : ∀ tm bd s,Tm.eqv tm bd→K tm s→K bd s) {bH:Array Bool} {R:List (Nat×Nat)} {cm:List Pd} {act:Act} {w:World} (hs:l9 is af pt bH R cm) (h:rp P is K B nt R cm act w)
 (O4 : ∀ x l,R=x::l→∀ p∈cm,p.q≠x.1) {q:Nat} (hq:q<is.length) (vQ:bH.getD q false=false) (k8 : ∀ j∈eB af q,j<is.length∧bH.getD j false=true)
 {Q:Exit→Act→World→Prop} {K2:Act→World→Prop} (Mq : ∀ R' pP a' w',l9 is af pt (bH.setIfInBounds q true) R' pP→rp P is K B nt R' pP a' w'→K2 a' w'):wpOp P ops Q q K2 act w:=by
 obtain⟨hlen,hF⟩:=tP qn
 have JE:q<ops.size:=by rw [hlen]at hq;simpa using hq
 obtain⟨ai,pK,Fa⟩:=hF q ops[q] (by simp [JE])
 have hi:ops[q]? = some ops[q]:=by simp [JE]
 have xM : ∀ j∈eB pt q,bH.getD j false=true:=fun j hj=>by
  rcases uv CK q hq j hj with h1 | ⟨k,h1,h2⟩
  ·exact(k8 j h1).2
  ·exact hs.cl k (k8 k h1).1 (k8 k h1).2 j h2
 have Fb : ∀ p∈cm,p.q≠q:=fun p hp ov=>by
  have:=(hs.xL q hq).2 (.inr ⟨p,hp,ov⟩)
  rw [vQ]at this;cases this
 have Ml:q∈R.map (·.1):=by
  by_cases hm:q∈R.map (·.1)
  ·exact hm
  ·have:=(hs.xL q hq).2 (.inl hm)
   rw [vQ]at this;cases this
 obtain⟨⟨q',b⟩,hx,QB⟩:=List.mem_map.1 Ml
 simp only at QB
 subst QB
 obtain⟨X,Y,rfl⟩:=List.append_of_mem hx
 obtain⟨g1,g2,g3,g4,g5⟩:=nP hs.ok
 rw [List.append_nil]at g1 g5
 obtain⟨M,s,tm,nQ,aX,e,r,ht,ln,hn,hd,hg,pO,ny⟩:=h
 have Fc:fF is q'=ai.kind:=by simp [fF,pK]
 -- what must have come up ahead of it, is not here any more, but for what was allocated early
 have JQ : ∀ a∈X.map (·.1),a∈eB pt q'→∃ p∈cm,p.q=a:=fun a ha ek=>by
  have h1:=xM a ek
  obtain⟨x,QC,rfl⟩:=List.mem_map.1 ha
  rcases(hs.xL x.1 (hs.lt x (by simp [QC]))).1 h1 with h2 | h2
  ·exact(h2 (by simp;exact .inl ⟨x.2,QC⟩)).elim
  ·exact h2
 have JR : ∀ x l,X=x::l→x.1∉eB pt q':=fun x l hX Tb=>by
  obtain⟨p,hp,ov⟩:=JQ x.1 (by simp [hX]) Tb
  exact O4 x (l++(q',b)::Y) (by simp [hX]) p hp ov
 have QD : ∀ p∈cm,fF is p.q = .alloc:=fun p hp=>by simp [fF,(pO p hp).ai,AI.kind]
 have uS : ∀ p∈cm,(p.q∈X.map (·.1)→gQ is p.q q'=true)→(∀ t,ai.dst=some t→t≠p.t)∧p.t∉ai.reads:=fun p hp hX=>by
  have hk:=pO p hp
  have hm:=hk.mem
  simp only [List.map_append,List.map_cons,List.mem_append,List.mem_cons]at hm
  rcases hm with hm | hm | hm
  ·have:=hX hm
   simp only [gQ,hk.ai,pK]at this
   obtain⟨p1,p2,p3⟩:=apart_spec this
   exact⟨fun t ht he=>p3 p.t rfl (by rw [ht,he]),p1 p.t rfl⟩
  ·exact(Fb p hp hm).elim
  ·obtain⟨x,Tc,JS⟩:=List.mem_map.1 hm
   have:=(tO g5 x Tc).2 (by rw [JS];exact QD p hp) q' (by simp)
   rw [JS]at this
   simp only [gQ,hk.ai,pK]at this
   obtain⟨p1,p2,p3⟩:=apart_spec this
   exact⟨fun t ht he=>p3 t ht (by rw [he];rfl),p2 p.t rfl⟩
 have Fe:(∀ p∈cm,p.t∉ai.reads)→∀ t∈ai.reads,tm.get t=nQ.get t:=fun hp t ht=>(ln t fun p Mn he=>hp p Mn (by rw [he];exact ht)).symm
 have JT : ∀ p∈cm,p.q∈(X++Y).map (·.1):=fun p hp=>by
  have hm:=(pO p hp).mem
  have:=Fb p hp
  simp only [List.map_append,List.map_cons,List.mem_append,List.mem_cons]at hm ⊢
  rcases hm with hm | hm | hm
  ·exact .inl hm
  ·exact(this hm).elim
  ·exact .inr hm
 by_cases Ff:ai.kind = .alloc
 ·-- an allocation
  obtain⟨t,z,rfl⟩:=CI Ff
  have ek : ∀ a∈X.map (·.1),gQ is a q'=true:=fun a ha=>by
   unfold kp at g1
   rw [Fc,Ff]at g1
   simp only [List.all_reverse,List.all_eq_true]at g1
   exact g1 a ha
  have xN:=fun p hp=>uS p hp (ek p.q)
  refine AT hi Fa fun vs T hl h1 h2=> ?_
  obtain⟨r1,e1,u1⟩:=r.idle (.cells vs T)
  have Mr:t<act.tmps.size:=by
   rw [hn]
   exact qP Fa t (by rw [← nO Fa];rfl)
  have:=hs.flag (p:=⟨q',t,z,w.heap.size⟩) hq xM
  refine Mq _ _ _ _ this ⟨M,s,tm,nQ.put (some t) .junk,aX,e.trans e1,r1,iF.put ht (dst:=some t) (fun u hu=>by cases hu;exact Mr) (.junk _),fun u hu=> ?_,by simp [Act.put,hn],by simp [Act.put,hd],hg,fun p hp=> ?_,fun p hp p' ki he=> ?_⟩
  ·have h3:=hu ⟨q',t,z,w.heap.size⟩ (by simp)
   rw [Tm.gU,if_neg (by simpa using h3)]
   exact ln u fun p hp=>hu p (List.mem_cons_of_mem _ hp)
  ·rcases List.mem_cons.1 hp with rfl | hp
   ·refine⟨by simp,pK,⟨vs,T,heap_alloc_new w _,hl,h1,h2⟩,u1,e.size, ?_⟩
    simp [Act.put,Mr]
   ·have hk:=pO p hp
    obtain⟨dJ,T',iI,kP,mO,qR⟩:=hk.cells
    refine⟨hk.mem,hk.ai,⟨dJ,T',by rw [heap_alloc_old w _ _ (iD iI)];exact iI,kP,mO,qR⟩,hk.unk,hk.base, ?_⟩
    rw [← hk.slot]
    have dC:t≠p.t:=(xN p hp).1 t rfl
    simp [Act.put,Array.getElem?_setIfInBounds_ne dC]
  ·have cH : ∀ p∈cm,¬ (q'=p.q∨t=p.t∨w.heap.size=p.b):=fun p hp h=>by
    rcases h with h | h | h
    ·exact Fb p hp h.symm
    ·exact(xN p hp).1 t rfl h
    ·obtain⟨dJ,T',iI,_⟩:=(pO p hp).cells
     have:=iD iI
     omega
   rcases List.mem_cons.1 hp with rfl | hp <;> rcases List.mem_cons.1 ki with rfl | ki
   ·rfl
   ·exact(cH p' ki he).elim
   ·exact(cH p hp (he.imp Eq.symm (Or.imp Eq.symm Eq.symm))).elim
   ·exact ny p hp p' ki he
 ·by_cases jT:ej ai.kind=true
  ·-- a step that changes something: it stands first
   have Td:ai.kind = .core:=by
    cases hk:ai.kind <;> simp_all [ej]
   have hX:X = []:=by
    cases X with
    | nil=>rfl
    | cons x l=>
     refine(JR x l rfl ?_).elim
     unfold kp at g1
     rw [Fc,Td]at g1
     simp only [List.all_reverse,List.all_eq_true]at g1
     have:=g1 x.1 (by simp)
     rwa [List.contains_iff_mem]at this
   subst hX
   have xN:=fun p hp=>uS p hp (fun h=>by simp at h)
   simp only [List.nil_append,gG,pK,jT]at hg
   obtain⟨d,s1,uh,hg⟩:=hg
   have Rq:=qk (Fe fun p hp=>(xN p hp).2) uh
   refine wpOp_mono (fun a' w' hr=>Mq _ _ _ _ (hs.done hq xM) hr) ?_
   exact JO hi Fa e r ht ln hn hd pO ny (zG Rq) hg JT (fun p hp he=>(xN p hp).1 _ he rfl)
  ·-- a step that changes nothing
   have hm:ej ai.kind=false:=by simpa using jT
   have kA : ∀ a∈X.map (·.1),a∉eB pt q':=fun a ha ek=>by
    obtain⟨p,hp,ov⟩:=JQ a ha ek
    have EV:fF is a = .alloc:=by rw [← ov];exact QD p hp
    have gy:gL is (eB pt q') (X.map (·.1)).reverse=true:=by
     unfold kp at g1
     rw [Fc]at g1
     cases hk:ai.kind with
     | pure=>simp only [hk,Bool.and_eq_true]at g1;exact g1.2
     | load=>simp only [hk,Bool.and_eq_true]at g1;exact g1.1.2
     | alloc=>exact(Ff hk).elim
     | core=>rw [hk]at hm;cases hm
    cases X with
    | nil=>simp at ha
    | cons x l=>
     have Te:a∈((x::l).map (·.1)).reverse:=List.mem_reverse.2 ha
     obtain⟨l1,l2,ux⟩:=List.append_of_mem Te
     have qo:=qS gy a l1 l2 ux EV ek
     refine JR x l rfl ?_
     cases pH:l2.reverse with
     | nil=>
      have h3:l2 = []:=by simpa using pH
      subst h3
      have:=congrArg List.reverse ux
      simp at this
      rw [this.1];exact ek
     | cons y l3=>
      have:=congrArg List.reverse ux
      simp only [List.reverse_reverse,List.map_cons,List.reverse_append,List.reverse_cons,List.reverse_nil,List.append_assoc,pH,List.cons_append,List.nil_append,List.cons.injEq]at this
      rw [this.1]
      exact qo y (by rw [← List.mem_reverse,pH];simp)
   have ek : ∀ a∈X,gQ is a.1 q'=true:=fun a ha=>by
    have h3 : ∀ x∈(X.map (·.1)).reverse,((eB pt q').contains x || gQ is x q')=true:=by
     unfold kp at g1
     rw [Fc]at g1
     cases hk:ai.kind with
     | pure=>simp only [hk,Bool.and_eq_true]at g1;exact List.all_eq_true.1 g1.1
     | load=>simp only [hk,Bool.and_eq_true]at g1;exact List.all_eq_true.1 g1.1.1
     | alloc=>exact(Ff hk).elim
     | core=>rw [hk]at hm;cases hm
    have:=h3 a.1 (List.mem_reverse.2 (List.mem_map_of_mem ha))
    simp only [Bool.or_eq_true,List.contains_iff_mem]at this
    exact this.resolve_left (kA a.1 (List.mem_map_of_mem ha))
   have Ms:ai.kind = .load→fI is (X.map (·.1))≤b:=fun hk=>by
    unfold kp at g1
    rw [Fc,hk]at g1
    simp only [Bool.and_eq_true,decide_eq_true_eq]at g1
    have h3:=g1.2
    have h4:(X.map (·.1)).reverse.filter (fun a=> !(eB pt q').contains a)=(X.map (·.1)).reverse:=by
     rw [List.filter_eq_self]
     intro a ha
     have:=kA a (List.mem_reverse.1 ha)
     simpa using this
    rw [h4]at h3
    unfold fI at h3 ⊢
    rw [List.filter_reverse,List.length_reverse]at h3
    exact h3
   have xN:=fun p hp=>uS p hp (fun h=>by
    obtain⟨x,hx,JS⟩:=List.mem_map.1 h
    rw [← JS];exact ek x hx)
   obtain⟨d,h1,_,zH⟩:=ql hK pK hm Y X aX tm s ek Ms hg
   have mO:fV ai nQ s=some d:=by rw [← lQ (Fe fun p hp=>(xN p hp).2)];exact h1
   refine wpOp_mono (fun a' w' hr=>Mq _ _ _ _ (hs.done hq xM) hr) ?_
   exact JO hi Fa e r ht ln hn hd pO ny (CH hm mO) zH JT (fun p hp he=>(xN p hp).1 _ he rfl)
theorem uy {o:Oper} {j:Nat} : j∈jh o↔∃ e∈o.after,Region.binds .any e=true∧e.on=j:=by
 simp only [jh,List.mem_map,List.mem_filter,Array.mem_toList_iff]
 constructor
 ·rintro⟨e,⟨h1,h2⟩,h3⟩;exact⟨e,h1,h2,h3⟩
 ·rintro⟨e,h1,h2,h3⟩;exact⟨e,⟨h1,h2⟩,h3⟩
theorem CM {ops:Array Oper} (qn:lX P nt ops ops.toList=some is) (CK:qI (ops.toList.map jh) pt is.length=true)
 (Mt : ∀ i,i<is.length→∀ j∈eB (ops.toList.map jh) i,j<is.length) {Q:Exit→Tm→St→Prop} (hK : ∀ tm bd s,Tm.eqv tm bd→K tm s→K bd s)
 (Tf : ∀ tm s act w,K tm s→Holds B nt tm s act w→kS B nt Q .normal act w) :
 ∀ (fuel:Nat) (bH:Array Bool) (R:List (Nat×Nat)) (cm:List Pd) (act:Act) (w:World) (U:List Nat),U.length≤fuel→(∀ j,j<is.length→bH.getD j false=false→j∈U)→
  l9 is (ops.toList.map jh) pt bH R cm→rp P is K B nt R cm act w→wpAny P .any ops (kS B nt Q) fuel bH act w:=by
 obtain⟨hlen,_⟩:=tP qn
 have pQ:is.length=ops.size:=by rw [hlen];simp
 have Mu : ∀ (j:Nat) (o:Oper),ops[j]? = some o→eB (ops.toList.map jh) j=jh o:=fun j o h=>by
  simp [eB,List.getD,h]
 have fin : ∀ {bH:Array Bool} {cm:List Pd} {act:Act} {w:World},rp P is K B nt [] cm act w→kS B nt Q .normal act w:=by
  intro bH cm act w h
  obtain⟨M,s,tm,nQ,aX,e,r,ht,ln,hn,hd,hg,pO,ny⟩:=h
  have zt : ∀ p∈cm,False:=fun p hp=>by have:=(pO p hp).mem;simp at this
  exact Tf nQ s act w (hK tm nQ s (fun t=>(ln t fun p hp=>(zt p hp).elim).symm) hg) ⟨M,e,r,ht,hn,hd⟩
 have Fg : ∀ {bH:Array Bool} {R:List (Nat×Nat)} {cm:List Pd} {x:Nat×Nat} {l:List (Nat×Nat)},l9 is (ops.toList.map jh) pt bH R cm→R=x::l→(∀ p∈cm,p.q≠x.1)→
  x.1∈Region.ready .any ops bH:=by
  intro bH R cm x l hs hR Fb
  subst hR
  have hx:=hs.lt x (by simp)
  rw [mem_ready]
  have vQ:bH.getD x.1 false=false:=by
   cases hl:bH.getD x.1 false with
   | false=>rfl
   | true=>
    rcases(hs.xL x.1 hx).1 hl with h1 | ⟨p,hp,ov⟩
    ·exact(h1 (by simp)).elim
    ·exact(Fb p hp ov).elim
  have QE:x.1<ops.size:=by rw [← pQ];exact hx
  refine⟨by rw [nz (by rw [hs.size];exact hx)];exact vQ,ops[x.1],by simp [QE],fun e he hb=> ?_⟩
  have hm:e.on∈eB (ops.toList.map jh) x.1:=by rw [Mu x.1 ops[x.1] (by simp [QE])];exact uy.2 ⟨e,he,hb,rfl⟩
  obtain⟨_,_,_,g4,_⟩:=nP (X:= []) (q:=x.1) (b:=x.2) hs.ok
  obtain⟨h1,h2⟩:=g4 _ hm
  refine(hs.xL e.on (Mt x.1 hx _ hm)).2 (.inl ?_)
  simp only [List.map_cons,List.mem_cons,not_or]
  exact⟨h1,h2⟩
 intro fuel
 induction fuel with
 | zero=>
  intro bH R cm act w U hU vQ hs h
  obtain⟨R',pP,ku,h',hn⟩:=norm R cm hs h
  have Tg:U = []:=List.length_eq_zero_iff.1 (by omega)
  have qo : ∀ j,j<is.length→bH.getD j false=true:=fun j hj=>by
   cases hl:bH.getD j false with
   | true=>rfl
   | false=>have:=vQ j hj hl;rw [Tg]at this;cases this
  have hR:R' = []:=by
   cases hR:R' with
   | nil=>rfl
   | cons x l=>
    have hx:=ku.lt x (by simp [hR])
    have:=Fg ku hR (hn x l hR)
    rw [mem_ready,nz (by rw [ku.size];exact hx),qo x.1 hx]at this
    cases this.1
  subst hR
  refine⟨?_,fin (bH:=bH) h'⟩
  cases hr:Region.ready .any ops bH with
  | nil=>rfl
  | cons j js=>
   have hj:j∈Region.ready .any ops bH:=by rw [hr];simp
   rw [mem_ready]at hj
   obtain⟨h1,o,ho,_⟩:=hj
   have vR:j<is.length:=by rw [pQ];exact(Array.getElem?_eq_some_iff.1 ho).1
   rw [nz (by rw [hs.size];exact vR),qo j vR]at h1
   cases h1
 | succ fuel ih=>
  intro bH R cm act w U hU vQ hs h
  obtain⟨R',pP,ku,h',hn⟩:=norm R cm hs h
  refine⟨fun hr=> ?_,fun i hi=> ?_⟩
  ·cases hR:R' with
   | nil=>subst hR;exact fin (bH:=bH) h'
   | cons x l=>
    have:=Fg ku hR (hn x l hR)
    rw [hr]at this
    cases this
  ·rw [mem_ready]at hi
   obtain⟨h1,o,ho,Rs⟩:=hi
   have l7:i<is.length:=by rw [pQ];exact(Array.getElem?_eq_some_iff.1 ho).1
   rw [nz (by rw [hs.size];exact l7)]at h1
   refine CJ qn CK hK ku h' hn l7 h1 (fun j hj=>⟨Mt i l7 j hj, ?_⟩) fun R2 O6 a2 w2 Bu h2=> ?_
   ·rw [Mu i o ho]at hj
    obtain⟨e,he,hb,rfl⟩:=uy.1 hj
    exact Rs e he hb
   ·refine ih _ R2 O6 a2 w2 (U.erase i) ?_ (fun j hj hl=> ?_) Bu h2
    ·have:=List.length_erase_of_mem (vQ i l7 h1)
     omega
    ·have QF:j≠i:=fun e=>by
      subst e
      have:j<bH.size:=by rw [hs.size];exact l7
      simp [this]at hl
     rw [getD_set_ne false (Ne.symm QF)]at hl
     exact(List.mem_erase_of_ne QF).2 (vQ j hj hl)
theorem Sem.par {is:List AI} {iw:List (Nat×Nat)} {Q:Exit→Tm→St→Prop} {tm:Tm} {s:St} (h:gG P is (Q .normal) iw [] tm s):Sem P B nt (.par is iw) Q tm s:=by
 intro c hc act w hh
 obtain⟨id,ops,rfl,hi,hm,pt,hp⟩:=iH hc
 simp only [yZ,Bool.and_eq_true,List.all_eq_true,List.mem_range,List.contains_iff_mem,decide_eq_true_eq]at hp
 obtain⟨⟨⟨⟨h1,h2⟩,h3⟩,h4⟩,h5⟩:=hp
 obtain⟨hlen,_⟩:=tP hi
 have pQ:is.length=ops.size:=by rw [hlen];simp
 refine wp_region_any hm ?_
 obtain⟨M,e,r,ht,hn,hd⟩:=hh
 have key : ∀ (R:List (Nat×Nat)) (aX:List St) (tm:Tm) (s:St),gG P is (Q .normal) R aX tm s→gG P is (fun tm s=>∃ bd,tm.eqv bd∧Q .normal bd s) R aX tm s:=by
  intro R
  induction R with
  | nil=>intro aX tm s h;exact⟨tm,fun _=>rfl,h⟩
  | cons x R ih=>
   obtain⟨q,b⟩:=x
   intro aX tm s h
   unfold gG at h ⊢
   split at h
   ·exact h.elim
   ·split at h
    ·obtain⟨d,s',h1,h2⟩:=h;exact⟨d,s',h1,ih _ _ _ h2⟩
    ·obtain⟨d,h1,h2,h3⟩:=h;exact⟨d,h1,h2,ih _ _ _ h3⟩
 have hg:=key _ _ _ _ h
 refine CM (K:=fun tm s=>∃ bd,tm.eqv bd∧Q .normal bd s) hi h1 h5 (fun tm bd s he ⟨t2,h3,h4⟩=>⟨t2,fun t=>(he t).symm.trans (h3 t),h4⟩)
  (fun tm s act w ⟨t2,h3,h4⟩ ⟨M,e,r,ht,hn,hd⟩=>⟨t2,s,h4,M,e,r,fun t=>by rw [← h3 t];exact ht t,hn,hd⟩) ops.size _ iw [] act _ (List.range is.length) (by simp [pQ]) (fun j hj _=>by simpa using hj)
  ⟨h2,fun i hi=> ?_,fun i hi hl=> ?_,by simp [pQ],h4⟩ ⟨M,s,tm,tm,[],⟨e.le,e.kept,e.lU,e.lV,e.nZ,e.size,e.os,e.tape,e.output⟩,r.of_heap rfl,ht,fun _ _=>rfl,hn,hd,hg,by simp,by simp⟩
 ·have:i<ops.size:=by rw [← pQ];exact hi
  have h6:=h3 i hi
  simp only [List.not_mem_nil,false_and,exists_false,or_false]
  rw [show(Array.replicate ops.size false).getD i false=false by simp [this]]
  simp [h6]
 ·have:i<ops.size:=by rw [← pQ];exact hi
  rw [show(Array.replicate ops.size false).getD i false=false by simp [this]]at hl
  cases hl
end
end Go.Abs

/-! Step -/

namespace Go.Abs
theorem KE (k:IntKind) (n:Int):D.row (.int k n)=some [.int k n]:=rfl
theorem Ht (b:Bool):D.row (.bool b)=some [.bool b]:=rfl
theorem KF (l:List UInt8):D.row (.str l)=some [.str l]:=rfl
theorem Hu:D.row .dG=some [.dG]:=rfl
theorem KH (o f:Nat):D.row (.ptr o f)=some [.ptr o f]:=rfl
theorem Hv (r:List D) (f:Nat):D.row (.cD r f)=some [.cD r f]:=rfl
theorem Fh (g:Tag) (z:Nat) (r:List (List D)):D.row (.slice g z r)=some [.slice g z r]:=rfl
theorem KI (cs:List D):D.row (.agg cs)=some cs:=rfl
theorem KK (v:Value):D.row (.val v)=some [.val v]:=rfl
theorem Fi (T:TypeId) (o:Nat):D.row (.dH T o)=some [.dH T o]:=rfl
theorem KM (f:Nat) (cs:List D):D.row (.ez f cs)=some [.ez f cs]:=rfl
theorem Hw (o:Nat):D.row (.eO o)=some [.eO o]:=rfl
theorem Hx (w:Bool):Tag.cut .full w=if w then .full else .shared:=rfl
theorem CN (w:Bool):Tag.cut .shared w = .shared:=rfl
theorem Hy (t:Nat) (y:Bool) (w:Bool):Tag.cut (.tok t y) w = .tok t y:=rfl
section
variable {P:Program}
def KC (P:Program) (r:List AI) (K:Tm→St→Prop) (tm:Tm) (dst:Option Nat) (d:D) (s:St):Prop:=fk P r K (tm.put dst d) s
def GI (P:Program) (g:D) (want:Bool) (i:AI) (r:List AI) (K:Tm→St→Prop) (tm:Tm) (s:St):Prop:=
 match g with
 | .bool b=>(b=want→fk P (i::r) K tm s)∧(b=(!want)→fk P r K (tm.put i.dst (.tuple [])) s)
 | .tuple _=>fk P r K (tm.put i.dst (.tuple [])) s
 | _=>False
def NI (P:Program) (dst:Option Nat) (neg:Bool) (x:D) (r:List AI) (K:Tm→St→Prop) (tm:Tm) (s:St):Prop:=
 match x with
 | .slice _ _ rows=>∀ b:Bool,(rows≠ []→b=false)→fk P r K (tm.put dst (.bool (if neg then !b else b))) s
 | _=>False
def oE (d:D) (A C:Prop):Prop:=
 match d with
 | .bool b=>(b=true→A)∧(b=false→C)
 | _=>False
theorem Sem.O7 {B:eR} {nt:Nat} {Q:Exit→Tm→St→Prop} {tm:Tm} {s:St} {x:X} {a b:AC} (h:oE (x.ev tm) (Sem P B nt a Q tm s) (Sem P B nt b Q tm s)):Sem P B nt (.cond x a b) Q tm s:=by
 unfold oE at h
 split at h
 ·rename_i t ht
  exact Sem.cond ht h.1 h.2
 ·exact h.elim
def eo (P:Program) (K:Tm→St→Prop):List (AI×Nat)→List St→Tm→St→Prop
 | [],_,tm,s=>K tm s
 | (ai,b)::r,aX,tm,s=>
  match ej ai.kind with
  | true=>∃ d s',nr P ai tm s d s'∧eo P K r (s::aX) (tm.put ai.dst d) s'
  | false=>∃ d,fV ai tm s=some d∧(ai.kind = .load→∀ s'∈aX.take b,fV ai tm s'=some d)∧eo P K r aX (tm.put ai.dst d) s
def jm (is:List AI):List (Nat×Nat)→Option (List (AI×Nat))
 | []=>some []
 | (q,b)::r=>match is[q]?,jm is r with
  | some ai,some l=>some ((ai,b)::l)
  | _,_=>none
theorem wZ {is:List AI} {K:Tm→St→Prop} : ∀ {iw:List (Nat×Nat)} {items:List (AI×Nat)} {aX:List St} {tm:Tm} {s:St},jm is iw=some items→eo P K items aX tm s→gG P is K iw aX tm s
 | [],items,aX,tm,s,h,g=>by cases h;exact g
 | (q,b)::r,items,aX,tm,s,h,g=>by
  simp only [jm]at h
  split at h
  ·rename_i ai l h1 h2
   cases h
   simp only [eo]at g
   simp only [gG,h1]
   split at g
   ·rename_i hk
    obtain⟨d,s',g1,g2⟩:=g
    try simp only [hk]
    exact⟨d,s',g1,wZ h2 g2⟩
   ·rename_i hk
    obtain⟨d,g1,g2,g3⟩:=g
    try simp only [hk]
    exact⟨d,g1,g2,wZ h2 g3⟩
  ·cases h
theorem Sem.Rt {B:eR} {nt:Nat} {Q:Exit→Tm→St→Prop} {tm:Tm} {s:St} {is:List AI} {iw:List (Nat×Nat)} {items:List (AI×Nat)} (hi:jm is iw=some items) (h:eo P (Q .normal) items [] tm s):Sem P B nt (.par is iw) Q tm s:=
 Sem.par (wZ hi h)
def AI.free:AI→AI
 | .op d _ o=> .op d none o
 | .call d _ f xs=> .call d none f xs
 | .nil d _ n x=> .nil d none n x
 | .fE d _ t xs=> .fE d none t xs
def GL (P:Program) (g:D) (want:Bool) (i:AI) (b:Nat) (r:List (AI×Nat)) (K:Tm→St→Prop) (aX:List St) (tm:Tm) (s:St):Prop:=
 match g with
 | .bool v=>(v=want→eo P K ((i,b)::r) aX tm s)∧(v=(!want)→eo P K r (if ej i.kind then s::aX else aX) (tm.put i.dst (.tuple [])) s)
 | .tuple _=>eo P K r (if ej i.kind then s::aX else aX) (tm.put i.dst (.tuple [])) s
 | _=>False
def CL (P:Program) (f:Nat) (args:List D) (s:St) (K:D→St→Prop):Prop:=∃ d s',aH P f args s d s'∧K d s'
def KL (P:Program) (K:Tm→St→Prop) (r:List (AI×Nat)) (aX:List St) (tm:Tm) (dst:Option Nat) (d:D) (s:St):Prop:=eo P K r aX (tm.put dst d) s
def jW (i:AI) (tm:Tm) (d:D):List St→Prop
 | []=>True
 | s::r=>fV i tm s=some d∧jW i tm d r
theorem vS {i:AI} {tm:Tm} {d:D} : ∀ {l:List St},jW i tm d l→∀ s∈l,fV i tm s=some d
 | [],_,s,h=>by cases h
 | a::l,h,s,hs=>by
  rcases List.mem_cons.1 hs with rfl | hs
  ·exact h.1
  ·exact vS h.2 s hs
def PL (P:Program) (o:AO) (dst:Option Nat) (b:Nat) (r:List (AI×Nat)) (K:Tm→St→Prop) (aX:List St) (tm:Tm) (s:St):Prop:=
 match aD o tm s with
 | some (d,_)=>jW (.op dst none o) tm d (aX.take b)∧eo P K r aX (tm.put dst d) s
 | none=>False
def ML (P:Program) (o:AO) (dst:Option Nat) (r:List (AI×Nat)) (K:Tm→St→Prop) (aX:List St) (tm:Tm) (s:St):Prop:=
 match aD o tm s with
 | some (d,s')=>eo P K r (s::aX) (tm.put dst d) s'
 | none=>False
def AO.core:AO→Bool
 | .alloc _=>true
 | .box _=>true
 | .oL .. =>true
 | .sw _=>true
 | .store .. =>true
 | .app .. =>true
 | .nG .. =>true
 | .sy .. =>true
 | .sA .. =>true
 | .apps .. =>true
 | .pA=>true
 | .sB .. =>true
 | _=>false
theorem nR (dst:Option Nat) (g:Option (Nat×Bool)) (o:AO):ej (AI.op dst g o).kind=o.core:=by
 cases dst <;> cases g <;> cases o <;> rfl
def OL (P:Program) (o:AO) (dst:Option Nat) (b:Nat) (r:List (AI×Nat)) (K:Tm→St→Prop) (aX:List St) (tm:Tm) (s:St):Prop:=
 match o.core with
 | true=>ML P o dst r K aX tm s
 | false=>PL P o dst b r K aX tm s
theorem zI {K:Tm→St→Prop} {dst:Option Nat} {o:AO} {b:Nat} {r:List (AI×Nat)} {aX:List St} {tm:Tm} {s:St} (h:OL P o dst b r K aX tm s) :
 eo P K ((.op dst none o,b)::r) aX tm s:=by
 unfold OL at h
 simp only [eo,nR]
 cases hc:o.core with
 | true=>
  simp only [hc,ML]at h
  simp only []
  split at h
  ·rename_i d s' he
   exact⟨d,s',by simpa [nr,guarded]using he,h⟩
  ·exact h.elim
 | false=>
  simp only [hc,PL]at h
  simp only []
  split at h
  ·rename_i d s' he
   exact⟨d,by simp [fV,he],fun _=>vS h.1,h.2⟩
  ·exact h.elim
theorem CP {K:Tm→St→Prop} {dst:Option Nat} {f:Nat} {xs:List X} {b:Nat} {r:List (AI×Nat)} {aX:List St} {tm:Tm} {s:St} (h:CL P f (xs.map (·.ev tm)) s (KL P K r (s::aX) tm dst)) :
 eo P K ((.call dst none f xs,b)::r) aX tm s:=by
 obtain⟨d,s',h1,h2⟩:=h
 exact⟨d,s',h1,h2⟩
theorem Mv {K:Tm→St→Prop} {i:AI} {t:Nat} {w:Bool} {b:Nat} {r:List (AI×Nat)} {aX:List St} {tm:Tm} {s:St} {j:AI} (hf:(∃ d o,i = .op d none o∧j = .op d (some (t,w)) o)∨(∃ d f xs,i = .call d none f xs∧j = .call d (some (t,w)) f xs))
 (hg:tm.get t = .bool w) (h:eo P K ((i,b)::r) aX tm s):eo P K ((j,b)::r) aX tm s:=by
 rcases hf with ⟨d,o,rfl,rfl⟩ | ⟨d,f,xs,rfl,rfl⟩
 ·simp only [eo,nR]at h ⊢
  cases hc:o.core <;> simp only [hc]at h ⊢
  ·obtain⟨x,h1,h2,h3⟩:=h
   refine⟨x,by simpa [fV,hg]using h1,fun hk s' ku=> ?_,h3⟩
   have uw:(AI.op d none o).kind = .load:=by
    cases d <;> cases o <;> first | exact hk | (cases hc;done) | (cases hk;done)
   simpa [fV,hg]using h2 uw s' ku
  ·obtain⟨x,s',h1,h2⟩:=h
   exact⟨x,s',by simpa [nr,guarded,hg]using h1,h2⟩
 ·obtain⟨x,s',h1,h2⟩:=h
  exact⟨x,s',by simpa [nr,guarded,hg]using h1,h2⟩
theorem Fj {K:Tm→St→Prop} {i:AI} {t:Nat} {w:Bool} {b:Nat} {r:List (AI×Nat)} {aX:List St} {tm:Tm} {s:St} {j:AI} (hf:(∃ d o,i = .op d none o∧j = .op d (some (t,w)) o)∨(∃ d f xs,i = .call d none f xs∧j = .call d (some (t,w)) f xs))
 (hg:tm.get t = .bool (!w)∨∃ l,tm.get t = .tuple l) (h:eo P K r (if ej i.kind then s::aX else aX) (tm.put i.dst (.tuple [])) s):eo P K ((j,b)::r) aX tm s:=by
 rcases hf with ⟨d,o,rfl,rfl⟩ | ⟨d,f,xs,rfl,rfl⟩
 ·simp only [eo,nR]at h ⊢
  cases hc:o.core <;> simp only [hc]at h ⊢
  ·refine⟨.tuple [], ?_,fun hk s' ku=> ?_,h⟩
   ·rcases hg with hg | ⟨l,hg⟩ <;> simp [fV,hg]
   ·rcases hg with hg | ⟨l,hg⟩ <;> simp [fV,hg]
  ·refine⟨.tuple [],s, ?_,h⟩
   rcases hg with hg | ⟨l,hg⟩ <;> simp [nr,guarded,hg]
 ·refine⟨.tuple [],s, ?_,h⟩
  rcases hg with hg | ⟨l,hg⟩ <;> simp [nr,guarded,hg]
theorem BE {K:Tm→St→Prop} {i j:AI} {t:Nat} {w:Bool} {b:Nat} {r:List (AI×Nat)} {aX:List St} {tm:Tm} {s:St} (hf:(∃ d o,i = .op d none o∧j = .op d (some (t,w)) o)∨(∃ d f xs,i = .call d none f xs∧j = .call d (some (t,w)) f xs))
 (h:GL P (tm.get t) w i b r K aX tm s):eo P K ((j,b)::r) aX tm s:=by
 unfold GL at h
 split at h
 ·rename_i v hv
  by_cases e:v=w
  ·exact Mv hf (by rw [hv,e]) (h.1 e)
  ·exact Fj hf (.inl (by rw [hv];cases v <;> cases w <;> simp_all)) (h.2 (by cases v <;> cases w <;> simp_all))
 ·rename_i l hl
  exact Fj hf (.inr ⟨l,hl⟩) h
 ·exact h.elim
theorem xO {K:Tm→St→Prop} {dst:Option Nat} {o:AO} {t:Nat} {w:Bool} {b:Nat} {r:List (AI×Nat)} {aX:List St} {tm:Tm} {s:St} (h:GL P (tm.get t) w (.op dst none o) b r K aX tm s) :
 eo P K ((.op dst (some (t,w)) o,b)::r) aX tm s:=BE (.inl ⟨dst,o,rfl,rfl⟩) h
theorem AV {K:Tm→St→Prop} {dst:Option Nat} {f:Nat} {xs:List X} {t:Nat} {w:Bool} {b:Nat} {r:List (AI×Nat)} {aX:List St} {tm:Tm} {s:St} (h:GL P (tm.get t) w (.call dst none f xs) b r K aX tm s) :
 eo P K ((.call dst (some (t,w)) f xs,b)::r) aX tm s:=BE (.inr ⟨dst,f,xs,rfl,rfl⟩) h
theorem CU {f:Nat} {args:List D} {s:St} {d:D} {s':St} {K:D→St→Prop} (h:aH P f args s d s') (hk:K d s'):CL P f args s K:=⟨d,s',h,hk⟩
end
end Go.Abs

/-! Wp -/

namespace Go.Abs
theorem nd {α:Type} {a b:α} (h:a=b):a=b:=h
def GJ (g:D) (w:Bool) (A C:Prop):Prop:=
 match g with
 | .bool b=>(b=w→A)∧(b=(!w)→C)
 | .tuple _=>C
 | _=>False
class QG where
 a:Prop
 c:Prop
def CB (d:D) [b:QG] : Prop:=oE d b.a b.c
def GB (d:D) (w:Bool) [b:QG] : Prop:=GJ d w b.a b.c
def jn (g:Option (Nat×Bool)) (tm:Tm) (A C:Prop):Prop:=
 match g with
 | none=>A
 | some (t,w)=>GJ (tm.get t) w A C
def gC (P:Program):List AI→(Tm→St→Prop)→Tm→St→Prop
 | [],K,tm,s=>K tm s
 | .op dst g o::r,K,tm,s=>jn g tm (match aD o tm s with | some (d,s')=>gC P r K (tm.put dst d) s' | none=>False) (gC P r K (tm.put dst (.tuple [])) s)
 | .call dst g f xs::r,K,tm,s=>jn g tm (CL P f (xs.map (·.ev tm)) s fun d s'=>gC P r K (tm.put dst d) s') (gC P r K (tm.put dst (.tuple [])) s)
 | .nil dst g neg x::r,K,tm,s=>
  jn g tm (match x.ev tm with
   | .slice _ _ rows=>∀ b:Bool,(rows≠ []→b=false)→gC P r K (tm.put dst (.bool (if neg then !b else b))) s
   | _=>False) (gC P r K (tm.put dst (.tuple [])) s)
 | .fE dst g t xs::r,K,tm,s=>
  jn g tm (match tm.get t with
   | .ez f jD=>enters P f=true∧CL P f (xs.map (·.ev tm)++jD) s fun d s'=>gC P r K (tm.put dst d) s'
   | _=>False) (gC P r K (tm.put dst (.tuple [])) s)
theorem nA {g:Option (Nat×Bool)} {tm:Tm} {A C A' C':Prop} (h:jn g tm A C) (ha:A→A') (hc:C→C'):guarded g tm A' C':=by
 unfold jn at h
 unfold guarded
 cases g with
 | none=>exact ha h
 | some p=>
  obtain⟨t,w⟩:=p
  simp only [GJ]at h ⊢
  split at h
  ·rename_i hb;try simp only [hb]
   exact⟨fun e=>ha (h.1 e),fun e=>hc (h.2 e)⟩
  ·rename_i hb;try simp only [hb]
   exact hc h
  ·exact h.elim
theorem j6 {P:Program} {K:Tm→St→Prop} : ∀ {is:List AI} {tm:Tm} {s:St},gC P is K tm s→fk P is K tm s
 | [],tm,s,h=>h
 | .op dst g o::r,tm,s,h=>by
  refine nA h (fun h=> ?_) j6
  split at h
  ·rename_i he;try simp only [he]
   exact j6 h
  ·exact h.elim
 | .call dst g f xs::r,tm,s,h=>nA h (fun⟨d,s',h1,h2⟩=>h1.use (j6 h2)) j6
 | .nil dst g neg x::r,tm,s,h=>by
  refine nA h (fun h=> ?_) j6
  split at h
  ·rename_i he;try simp only [he]
   exact fun b hb=>j6 (h b hb)
  ·exact h.elim
 | .fE dst g t xs::r,tm,s,h=>by
  refine nA h (fun h=> ?_) j6
  split at h
  ·rename_i he;try simp only [he]
   obtain⟨h0,d,s',h1,h2⟩:=h
   exact⟨h0,h1.use (j6 h2)⟩
  ·exact h.elim
def dV (P:Program) (K:Tm→St→Prop):List (AI×Nat)→List St→Tm→St→Prop
 | [],_,tm,s=>K tm s
 | (.op dst g o,b)::r,aX,tm,s=>
  match o.core with
  | true=>jn g tm (match aD o tm s with | some (d,s')=>dV P K r (s::aX) (tm.put dst d) s' | none=>False) (dV P K r (s::aX) (tm.put dst (.tuple [])) s)
  | false=>jn g tm (match aD o tm s with | some (d,_)=>jW (.op dst none o) tm d (aX.take b)∧dV P K r aX (tm.put dst d) s | none=>False) (dV P K r aX (tm.put dst (.tuple [])) s)
 | (.call dst g f xs,_)::r,aX,tm,s=>jn g tm (CL P f (xs.map (·.ev tm)) s fun d s'=>dV P K r (s::aX) (tm.put dst d) s') (dV P K r (s::aX) (tm.put dst (.tuple [])) s)
 | (.nil ..,_)::_,_,_,_=>False
 | (.fE ..,_)::_,_,_,_=>False
theorem sZ {P:Program} {t:Nat} {w:Bool} {tm:Tm} {i:AI} {b:Nat} {r:List (AI×Nat)} {K:Tm→St→Prop} {aX:List St} {s:St} {A C:Prop} (h:jn (some (t,w)) tm A C) (ha:A→eo P K ((i,b)::r) aX tm s)
 (hc:C→eo P K r (if ej i.kind then s::aX else aX) (tm.put i.dst (.tuple [])) s):GL P (tm.get t) w i b r K aX tm s:=by
 simp only [jn,GJ]at h
 unfold GL
 split at h
 ·rename_i hb;try simp only [hb]
  exact⟨fun e=>ha (h.1 e),fun e=>hc (h.2 e)⟩
 ·rename_i hb;try simp only [hb]
  exact hc h
 ·exact h.elim
theorem iT {P:Program} {K:Tm→St→Prop} : ∀ {l:List (AI×Nat)} {aX:List St} {tm:Tm} {s:St},dV P K l aX tm s→eo P K l aX tm s
 | [],aX,tm,s,h=>h
 | (.op dst g o,b)::r,aX,tm,s,h=>by
  simp only [dV]at h
  cases hc:o.core with
  | true=>
   simp only [hc]at h
   have ha:(match aD o tm s with | some (d,s')=>dV P K r (s::aX) (tm.put dst d) s' | none=>False)→eo P K ((.op dst none o,b)::r) aX tm s:=by
    intro h
    refine zI ?_
    simp only [OL,hc,ML]
    split at h
    ·rename_i he;try simp only [he]
     exact iT h
    ·exact h.elim
   cases g with
   | none=>exact ha h
   | some p=>
    obtain⟨t,w⟩:=p
    refine xO (sZ h ha fun h=> ?_)
    simp only [nR,hc,if_true]
    exact iT h
  | false=>
   simp only [hc]at h
   have ha:(match aD o tm s with | some (d,_)=>jW (.op dst none o) tm d (aX.take b)∧dV P K r aX (tm.put dst d) s | none=>False)→eo P K ((.op dst none o,b)::r) aX tm s:=by
    intro h
    refine zI ?_
    simp only [OL,hc,PL]
    split at h
    ·rename_i he;try simp only [he]
     exact⟨h.1,iT h.2⟩
    ·exact h.elim
   cases g with
   | none=>exact ha h
   | some p=>
    obtain⟨t,w⟩:=p
    refine xO (sZ h ha fun h=> ?_)
    simp only [nR,hc]
    exact iT h
 | (.call dst g f xs,b)::r,aX,tm,s,h=>by
  simp only [dV]at h
  have ha:(CL P f (xs.map (·.ev tm)) s fun d s'=>dV P K r (s::aX) (tm.put dst d) s')→eo P K ((.call dst none f xs,b)::r) aX tm s:=
   fun⟨d,s',h1,h2⟩=>CP ⟨d,s',h1,iT h2⟩
  cases g with
  | none=>exact ha h
  | some p=>
   obtain⟨t,w⟩:=p
   exact AV (sZ h ha fun h=>iT h)
 | (.nil ..,_)::_,aX,tm,s,h=>h.elim
 | (.fE ..,_)::_,aX,tm,s,h=>h.elim
section
variable {P:Program} {B:eR} {nt:Nat}
def hO (P:Program) (B:eR) (nt:Nat):AC→(Exit→Tm→St→Prop)→Tm→St→Prop
 | .skip,Q,tm,s=>Q .normal tm s
 | .run is,Q,tm,s=>gC P is (Q .normal) tm s
 | .par is iw,Q,tm,s=>match jm is iw with | some l=>dV P (Q .normal) l [] tm s | none=>False
 | .seq a b,Q,tm,s=>hO P B nt a (l6 (hO P B nt b Q) Q) tm s
 | .cond x a b,Q,tm,s=>oE (x.ev tm) (hO P B nt a Q tm s) (hO P B nt b Q tm s)
 | .block id a,Q,tm,s=>hO P B nt a (kx id Q) tm s
 | .loop a,Q,tm,s=>bx P B nt a Q tm s
 | .exit id,Q,tm,s=>Q (.exit id) tm s
 | .scope a,Q,tm,s=>Ct P B nt a a Q tm s
 | .label _,Q,tm,s=>Q .normal tm s
 | .goto l,Q,tm,s=>Q (.goto l) tm s
 | .ret,Q,tm,s=>Q .ret tm s
theorem gk : ∀ {ac:AC} {Q:Exit→Tm→St→Prop} {tm:Tm} {s:St},hO P B nt ac Q tm s→Sem P B nt ac Q tm s:=by
 intro ac
 induction ac with
 | skip=>exact fun h=>Sem.skip h
 | run is=>exact fun h=>Sem.run (j6 h)
 | par is iw=>
  intro Q tm s h
  simp only [hO]at h
  split at h
  ·exact Sem.Rt ‹_› (iT h)
  ·exact h.elim
 | seq a b Mx My=>
  intro Q tm s h
  refine Sem.seq ((Mx h).mono fun e tm s hq=> ?_)
  cases e with
  | normal=>exact My hq
  | _=>exact hq
 | cond x a b Mx My=>
  intro Q tm s h
  refine Sem.O7 ?_
  simp only [hO]at h
  unfold oE at h ⊢
  split at h
  ·exact⟨fun e=>Mx (h.1 e),fun e=>My (h.2 e)⟩
  ·exact h.elim
 | block id a ih=>exact fun h=>Sem.block (ih h)
 | loop a ih=>exact fun h=>Sem.loop h
 | exit id=>exact fun h=>Sem.exit h
 | scope a ih=>exact fun h=>Sem.scope h
 | label l=>exact fun h=>Sem.label h
 | goto l=>exact fun h=>Sem.goto h
 | ret=>exact fun h=>Sem.ret h
section
variable (Q:Exit→Tm→St→Prop) (N:Tm→St→Prop) (tm:Tm) (s:St) (a b:AC) (is:List AI) (x:X)
theorem Hz:hO P B nt .skip Q tm s=Q .normal tm s:=nd rfl
theorem KO:hO P B nt (.run is) Q tm s=gC P is (Q .normal) tm s:=nd rfl
theorem KP (iw:List (Nat×Nat)):hO P B nt (.par is iw) Q tm s=match jm is iw with | some l=>dV P (Q .normal) l [] tm s | none=>False:=nd rfl
theorem KQ:hO P B nt (.seq a b) Q tm s=hO P B nt a (l6 (hO P B nt b Q) Q) tm s:=nd rfl
theorem HA:hO P B nt (.cond x a b) Q tm s = @CB (x.ev tm) ⟨hO P B nt a Q tm s,hO P B nt b Q tm s⟩:=nd rfl
theorem Fk (id:Nat):hO P B nt (.block id a) Q tm s=hO P B nt a (kx id Q) tm s:=nd rfl
theorem HC:hO P B nt (.loop a) Q tm s=bx P B nt a Q tm s:=nd rfl
theorem Fl:hO P B nt (.scope a) Q tm s=Ct P B nt a a Q tm s:=nd rfl
theorem HD (id:Nat):hO P B nt (.exit id) Q tm s=Q (.exit id) tm s:=nd rfl
theorem Fm (id:Nat):hO P B nt (.label id) Q tm s=Q .normal tm s:=nd rfl
theorem HE (id:Nat):hO P B nt (.goto id) Q tm s=Q (.goto id) tm s:=nd rfl
theorem KR:hO P B nt .ret Q tm s=Q .ret tm s:=nd rfl
theorem KS:l6 N Q .normal tm s=N tm s:=nd rfl
theorem KT:l6 N Q .ret tm s=Q .ret tm s:=nd rfl
theorem KU (id:Nat):l6 N Q (.exit id) tm s=Q (.exit id) tm s:=nd rfl
theorem KV (id:Nat):l6 N Q (.goto id) tm s=Q (.goto id) tm s:=nd rfl
theorem HF (id:Nat):kx id Q .normal tm s=Q .normal tm s:=nd rfl
theorem HG (id:Nat):kx id Q .ret tm s=Q .ret tm s:=nd rfl
theorem HH (id l:Nat):kx id Q (.goto l) tm s=Q (.goto l) tm s:=nd rfl
theorem HI (id i:Nat):kx id Q (.exit i) tm s=if i=id then Q .normal tm s else Q (.exit i) tm s:=nd rfl
end
theorem bx.yL {a:AC} {Q:Exit→Tm→St→Prop} {tm:Tm} {s:St} (h:hO P B nt a (l6 (bx P B nt a Q) Q) tm s):bx P B nt a Q tm s:=bx.once (gk h)
def pR (tm:Tm) (n m:Nat):Tm→Prop
 | []=>True
 | (k,d)::r=>Wk ((tm.get k).fg n m) d∧pR tm n m r
theorem pR.get {tm:Tm} {n m:Nat} : ∀ {bd:Tm},pR tm n m bd→∀ t,Wk ((tm.get t).fg n m) (bd.get t)
 | [],_,t=>Wk.junk _
 | (k,d)::r,h,t=>by
  simp only [Tm.get]
  split
  ·rename_i hk;subst hk;exact h.1
  ·exact pR.get h.2 t
theorem Holds.re {Q:Exit→Tm→St→Prop} {tm bd:Tm} {s:St} {je:List (List D)} {act:Act} {w:World} (n m:Nat) (hn:B.s.al.length≤n) (hm:B.s.aq.length≤m) (ht:pR tm n m bd) (ho:fv (s.cut n m).al je)
 (h:Holds B nt tm s act w):Holds B nt bd ⟨je,(s.cut n m).aq⟩ act w:=by
 obtain⟨M,e,r,hr,h1,h2⟩:=h
 obtain⟨r',le⟩:=(r.cut n m).wV ho
 have e':=e.cut hn hm
 refine⟨M,e'.trans ⟨le,fun _ _ _ _=>rfl,fun o h1 h2=> ?_,fun t b c z hl e=> .inl ⟨hl,c,z,e⟩,fun _ _ h=>(h rfl).elim,Nat.le_refl _,rfl,rfl,rfl⟩,r',fun k=>((ht.get k) _ _ _ ((hr k).fg n m)).mono le,h1,h2⟩
 rw [← ho.len]at h2
 exact absurd h2 (Nat.not_lt.2 h1)
theorem bx.re {a:AC} {Q:Exit→Tm→St→Prop} {tm:Tm} {s:St} (bd:Tm) (je:List (List D)) (n m:Nat) (hn:B.s.al.length≤n) (hm:B.s.aq.length≤m) (ht:pR tm n m bd) (ho:fv (s.cut n m).al je)
 (h:bx P B nt a Q bd ⟨je,(s.cut n m).aq⟩):bx P B nt a Q tm s:=
 fun c hc act w hh=>h c hc act w (hh.re (Q:=Q) n m hn hm ht ho)
theorem bx.ind {ι:Type} {a:AC} {Q:Exit→Tm→St→Prop} (I:ι→Prop) (μ:ι→Nat) (TM:ι→Tm) (ST:ι→St)
 (step : ∀ i,I i→(∀ j,I j→μ j<μ i→bx P B nt a Q (TM j) (ST j))→hO P B nt a (l6 (bx P B nt a Q) Q) (TM i) (ST i)) : ∀ i,I i→bx P B nt a Q (TM i) (ST i):=by
 have key : ∀ n i,μ i<n→I i→bx P B nt a Q (TM i) (ST i):=by
  intro n
  induction n with
  | zero=>intro i h;exact absurd h (Nat.not_lt_zero _)
  | succ n ih=>exact fun i h hi=>bx.yL (step i hi fun j hj hD=>ih j (by omega) hj)
 exact fun i hi=>key (μ i+1) i (Nat.lt_succ_self _) hi
theorem drop_cons {α:Type} {l rest:List α} {k:Nat} {x:α} (h:l.drop k=x::rest):l[k]? = some x∧l.drop (k+1)=rest∧decide ((k:Int)<(l.length:Int))=true∧k<l.length:=by
 have h1:l[k]? = some x:=by
  have:(l.drop k)[0]? = some x:=by rw [h];rfl
  simpa using this
 have h2:=(List.getElem?_eq_some_iff.1 h1).1
 refine⟨h1, ?_,by simpa using h2,h2⟩
 have:l.drop (k+1)=(l.drop k).drop 1:=by rw [List.drop_drop]
 rw [this,h];rfl
theorem drop_nil {α:Type} {l:List α} {k:Nat} (h:l.drop k = []):decide ((k:Int)<(l.length:Int))=false:=by
 have:=List.drop_eq_nil_iff.1 h
 simp;omega
theorem bx.uU {a:AC} {Q:Exit→Tm→St→Prop} {tm:Tm} {s:St} (t z':Nat) {z:Nat} (hw:tm.get t = .slice .full z [])
 (h:bx P B nt a Q (tm.set t (.slice (.tok s.aq.length) z' [])) {s with aq:=s.aq++ [some 0]}):bx P B nt a Q tm s:=by
 intro c hc act w ⟨M,e,r,ht,h1,h2⟩
 obtain⟨r',le⟩:=r.blank
 refine h c hc act w ⟨_,xJ e le,r',fun k=> ?_,h1,h2⟩
 rw [Tm.wQ]
 split
 ·rename_i hk;subst hk;have:=ht k;rw [hw]at this;exact this.own
 ·exact(ht k).mono le
theorem bx.HJ {a:AC} {Q:Exit→Tm→St→Prop} {tm:Tm} {s:St} (o i z':Nat) {z:Nat} {cs:List D} (hc:s.al[o]? = some cs) (hi:cs[i]? = some (.slice .full z []))
 (h:bx P B nt a Q tm ⟨s.al.set o (cs.set i (.slice (.tok s.aq.length) z' [])),s.aq++ [some 0]⟩):bx P B nt a Q tm s:=by
 intro c L7 act w hh
 obtain⟨M,e,r,ht,h1,h2⟩:=hh
 obtain⟨r',le⟩:=r.blank
 have QH:Le M s (M.cO s.aq.length none) ⟨s.al.set o (cs.set i (.slice (.tok s.aq.length) z' [])),s.aq++ [some 0]⟩:=⟨le.G,by simp,le.loc,le.t,le.tk⟩
 have Mz:Le (M.cO s.aq.length none) {s with aq:=s.aq++ [some 0]} (M.cO s.aq.length none) ⟨s.al.set o (cs.set i (.slice (.tok s.aq.length) z' [])),s.aq++ [some 0]⟩:=
  ⟨fun _ _ _ h=>h,by simp,fun _ _=>rfl,Nat.le_refl _,fun t n' _ e=>⟨n',e,Nat.le_refl _,fun _=>rfl⟩⟩
 have r2:Rel (M.cO s.aq.length none) ⟨s.al.set o (cs.set i (.slice (.tok s.aq.length) z' [])),s.aq++ [some 0]⟩ w:=by
  refine⟨r'.comm,fun o' ds e=> ?_,fun o ho=>r'.gV o (by simpa using ho),fun o o' ho jB=>r'.inj o o' (by simpa using ho) (by simpa using jB),r'.tok,
   fun t b c z o hv e ho=>r'.dz t b c z o hv e (by simpa using ho),r'.dZ⟩
  simp only [List.getElem?_set]at e
  split at e
  ·rename_i ho
   subst ho
   split at e
   ·cases e
    obtain⟨vs,T,g1,g2,g3,g4⟩:=r.obj o cs hc
    refine⟨vs,T,g1,by simpa using g2,g3,fun j d v e1 e2=> ?_⟩
    rw [List.getElem?_set]at e1
    split at e1
    ·rename_i hj
     subst hj
     split at e1
     ·cases e1
      exact((g4 i _ v hi e2).own (z':=z')).mono Mz
     ·cases e1
    ·exact(g4 j d v e1 e2).mono QH
   ·cases e
  ·obtain⟨vs,T,g1,g2,g3,g4⟩:=r'.obj o' ds e
   exact⟨vs,T,g1,g2,g3,fun i d v e1 e2=>(g4 i d v e1 e2).mono Mz⟩
 have ee:Ext B.M B.s B.w (M.cO s.aq.length none) ⟨s.al.set o (cs.set i (.slice (.tok s.aq.length) z' [])),s.aq++ [some 0]⟩ w:=by
  refine(xJ e le).trans ⟨Mz,fun _ _ _ _=>rfl,fun o h1 h2=> ?_,fun t b c z hl e=> .inl ⟨hl,c,z,e⟩,fun _ _ h=>(h rfl).elim,Nat.le_refl _,rfl,rfl,rfl⟩
  simp at h2
  exact absurd h2 (Nat.not_lt.2 h1)
 exact h c L7 act w ⟨_,ee,r2,fun k=>(ht k).mono QH,h1,h2⟩
theorem Sem.n8 {a b:AC} {Q:Exit→Tm→St→Prop} {tm:Tm} {s:St} (h:hO P B nt a (l6 (Sem P B nt b Q) Q) tm s):Sem P B nt (.seq a b) Q tm s:=Sem.seq (gk h)
theorem Sem.re {a:AC} {Q:Exit→Tm→St→Prop} {tm:Tm} {s:St} (bd:Tm) (je:List (List D)) (n m:Nat) (hn:B.s.al.length≤n) (hm:B.s.aq.length≤m) (ht:pR tm n m bd) (ho:fv (s.cut n m).al je)
 (h:Sem P B nt a Q bd ⟨je,(s.cut n m).aq⟩):Sem P B nt a Q tm s:=
 fun c hc act w hh=>h c hc act w (hh.re (Q:=Q) n m hn hm ht ho)
def Has (P:Program) (f nt:Nat) (res:List (Nat×Option (Bool×Nat))) (body:AC):Prop:=∃ fn,P.funcs[f]? = some fn∧cF P fn=some ⟨nt,res,body⟩
theorem aH.go {f:FuncId} {res:List (Nat×Option (Bool×Nat))} {body:AC} {args:List D} {s:St} {d:D} {s':St} (h0:Has P f nt res body) (hl:Nat.ble args.length nt=true)
 (h : ∀ (B:eR) (Q:Exit→Tm→St→Prop),B.s=s→mX s.al.length s.aq.length res d s'=Q→hO P B nt body Q (kh 0 args) s):aH P f args s d s':=by
 obtain⟨fn,hf,hc⟩:=h0
 exact aH.intro ⟨fn,hf,hc⟩ (Nat.le_of_ble_eq_true hl) fun B hB=>gk (h B _ hB rfl)
theorem aH.Rw {f:FuncId} {pre post:List D} {rows np:List (List D)} {z z' k k':Nat} (h:aH P f (pre++ .slice (.tok 0) z rows::post) ⟨[],[some k]⟩ (.slice (.tok 0) z' np) ⟨[],[some k']⟩)
 (hp:D.bG 0 0 pre=true) (ha:D.bG 0 0 post=true) (hw:D.ik 0 0 rows=true) (Ti:D.ik 0 0 np=true)
 {s:St} {t:Nat} (ht:s.aq[t]? = some (some k)):aH P f (pre++ .slice (.tok t) z rows::post) s (.slice (.tok t) z' np) ⟨s.al,s.aq.set t (some k')⟩:=by
 refine cQ.frame [] [t] h (by simp) (by simp) (by simp) (by simpa using (List.getElem?_eq_some_iff.1 ht).1) rfl (fun i o' ds e1 e2=>by simp at e1) rfl (fun i t' e1=> ?_)
  ?_ ?_ ?_
 ·cases i with
  | zero=>simp at e1;subst e1;simp [ht]
  | succ i=>simp at e1
 ·have h1:=eD [] [t] _ hp
  have h2:=eD [] [t] _ ha
  rw [dT]at h1 h2
  simp [dT,D.cB,Tag.cB,h1,h2,jC _ _ _ hw]
 ·have h1:=gu (n':=0) (m':=1) (Nat.le_refl 0) (Nat.zero_le 1) _ hp
  have h2:=gu (n':=0) (m':=1) (Nat.le_refl 0) (Nat.zero_le 1) _ ha
  rw [zu]at h1 h2 ⊢
  simp only [List.length_nil,List.length_cons,List.all_append,h1,Bool.true_and,List.all_cons,h2,Bool.and_true,D.ok,Tag.ok,lE (Nat.zero_le 0) (Nat.zero_le 1) _ hw]
  rfl
 ·rintro _ _ ⟨rfl,rfl⟩
  refine⟨by simp [D.back,D.cB,Tag.cB,iz,jC _ _ _ Ti], ?_⟩
  simp [St.back,gZ]
theorem Rx (A C:Prop) : @CB (.bool true) ⟨A,C⟩=A:=by simp [CB,oE]
theorem Ry (A C:Prop) : @CB (.bool false) ⟨A,C⟩=C:=by simp [CB,oE]
theorem MA (b:Bool) (A C:Prop) : @CB (.bool (!b)) ⟨A,C⟩ = @CB (.bool b) ⟨C,A⟩:=by
 cases b <;> simp [CB,oE]
theorem zJ {b:Bool} {A C:Prop} (h1:b=true→A) (h2:b=false→C) : @CB (.bool b) ⟨A,C⟩:=⟨h1,h2⟩
theorem MB {b:Bool} {A C:Prop} (h:b=true) (h1:b=true→A) : @CB (.bool b) ⟨A,C⟩:=zJ h1 (fun h'=>by rw [h]at h';cases h')
theorem MC {b:Bool} {A C:Prop} (h:b=false) (h1:b=false→C) : @CB (.bool b) ⟨A,C⟩:=zJ (fun h'=>by rw [h]at h';cases h') h1
theorem Pa {n m:Nat} {res:List (Nat×Option (Bool×Nat))} {d:D} {s':St} {tm:Tm} {s:St} {Q:Exit→Tm→St→Prop} (hQ:mX n m res d s'=Q)
 (h : ∃ l,aE res tm s=some l∧Wk ((aF l).fg n m) d∧fv (s.cut n m).al s'.al∧(s.cut n m).aq=s'.aq):Q .ret tm s:=hQ ▸ h
theorem Pb {n m:Nat} {res:List (Nat×Option (Bool×Nat))} {d:D} {s':St} {tm:Tm} {s:St} {Q:Exit→Tm→St→Prop} (hQ:mX n m res d s'=Q)
 (h : ∃ l,aE res tm s=some l∧Wk ((aF l).fg n m) d∧fv (s.cut n m).al s'.al∧(s.cut n m).aq=s'.aq):Q .normal tm s:=hQ ▸ h
end
attribute [go_sem] Hz KO KP KQ HA Fk HC Fl HD Fm HE KR KS KT KU KV HF HG HH HI
theorem Fo : ∀ (tm:Tm) (s:St) (x:X),aD (AO.mv x) tm s=some (X.ev tm x,s):=
 fun tm s x=>nd (aD.eq_1 tm s x)
theorem Fp : ∀ (tm:Tm) (s:St) (c a b:X),
 aD (AO.pick c a b) tm s =
  match X.ev tm c with
  | D.bool t=>some (if t=true then X.ev tm a else X.ev tm b,s)
  | x=>none:=
 fun tm s c a b=>nd (aD.eq_2 tm s c a b)
theorem Fq : ∀ (tm:Tm) (s:St) (zero:List D),
 aD (AO.alloc zero) tm s=some (D.ptr s.al.length 0,{al:=s.al++ [zero],aq:=s.aq}):=
 fun tm s zero=>nd (aD.eq_3 tm s zero)
theorem Fs : ∀ (tm:Tm) (s:St) (x:X),
 aD (AO.box x) tm s =
  match (X.ev tm x).row with
  | some r=>some (D.ptr s.al.length 0,{al:=s.al++ [r],aq:=s.aq})
  | none=>none:=
 fun tm s x=>nd (aD.eq_4 tm s x)
theorem Ft : ∀ (tm:Tm) (s:St) (zero:List D) (parts:List (Nat×Nat×X)),
 aD (AO.build zero parts) tm s =
  match lW zero (List.map (fun(p:Nat×Nat×X)=>(p.fst,p.snd.fst,X.ev tm p.snd.snd)) parts)with
  | some cs=>some (D.agg cs,s)
  | none=>none:=
 fun tm s zero parts=>nd (aD.eq_5 tm s zero parts)
theorem Fu : ∀ (tm:Tm) (s:St) (zero:List D) (size n:Nat) (parts:List (Nat×X)),
 aD (AO.dd zero size n parts) tm s =
  match fY size (fl zero n) (List.map (fun(p:Nat×X)=>(p.fst,X.ev tm p.snd)) parts)with
  | some rows=>some (D.slice Tag.full size rows,s)
  | none=>none:=
 fun tm s zero size n parts=>nd (aD.eq_6 tm s zero size n parts)
theorem Fv : ∀ (tm:Tm) (s:St) (zero:List D) (size n:Nat) (parts:List (Nat×X)),
 aD (AO.oL zero size n parts) tm s =
  match fY size (fl zero n) (List.map (fun(p:Nat×X)=>(p.fst,X.ev tm p.snd)) parts)with
  | some rows=>
   some (D.slice (Tag.tok s.aq.length) size rows,{al:=s.al,aq:=s.aq++ [some rows.length]})
  | none=>none:=
 fun tm s zero size n parts=>nd (aD.eq_7 tm s zero size n parts)
theorem Fw : ∀ (tm:Tm) (s:St) (x:X),
 aD (AO.sw x) tm s =
  match X.ev tm x with
  | D.slice (Tag.tok t _) z rows=>
   if rows≠ []∧s.aq[t]? = some (some rows.length)then
    some (D.slice Tag.shared z rows,{al:=s.al,aq:=s.aq.set t none})
   else none
  | x=>none:=
 fun tm s x=>nd (aD.eq_8 tm s x)
theorem Fx : ∀ (tm:Tm) (s:St) (x:X) (agg:Bool) (size:Nat),
 aD (AO.load x agg size) tm s =
  match X.ev tm x with
  | D.ptr o off=>
   match s.al[o]? with
   | some cs=>
    match part cs off agg size with
    | some d=>some (d,s)
    | none=>none
   | none=>none
  | D.cD row off=>
   match part row off agg size with
   | some d=>some (d,s)
   | none=>none
  | x=>none:=
 fun tm s x agg size=>nd (aD.eq_9 tm s x agg size)
theorem CR : ∀ (tm:Tm) (s:St) (p x:X) (size:Nat),
 aD (AO.store p x size) tm s =
  match X.ev tm p,(X.ev tm x).row with
  | D.ptr o off,some r=>
   match s.al[o]? with
   | some cs=>
    if r.length=size∧off+size≤cs.length then
     some (D.tuple [],{al:=s.al.set o (fU cs off r),aq:=s.aq})
    else none
   | none=>none
  | x,dn=>none:=
 fun tm s p x size=>nd (aD.eq_10 tm s p x size)
theorem CS : ∀ (tm:Tm) (s:St) (x:X),
 aD (AO.fQ x) tm s =
  match X.ev tm x with
  | D.ptr o off=>some (D.ptr o off,s)
  | D.cD row off=>some (D.cD row off,s)
  | x=>none:=
 fun tm s x=>nd (aD.eq_11 tm s x)
theorem CT : ∀ (tm:Tm) (s:St) (op:BinOp) (x y:X),
 aD (AO.bin op x y) tm s =
  match qe op (X.ev tm x) (X.ev tm y)with
  | some d=>some (d,s)
  | none=>none:=
 fun tm s op x y=>nd (aD.eq_12 tm s op x y)
theorem CW : ∀ (tm:Tm) (s:St) (neg:Bool) (x y:X),
 aD (AO.yU neg x y) tm s =
  match X.ev tm x,X.ev tm y with
  | D.bool a,D.bool b=>some (D.bool (if neg=true then !a==b else a==b),s)
  | x,dn=>none:=
 fun tm s neg x y=>nd (aD.eq_13 tm s neg x y)
theorem CX : ∀ (tm:Tm) (s:St) (neg:Bool) (ks:List Nat) (x y:X),
 aD (AO.eqs neg ks x y) tm s =
  match X.ev tm x,X.ev tm y with
  | D.agg a,D.agg b=>
   match gR ks a b with
   | some e=>some (D.bool (if neg=true then !e else e),s)
   | none=>none
  | x,dn=>none:=
 fun tm s neg ks x y=>nd (aD.eq_14 tm s neg ks x y)
theorem CY : ∀ (tm:Tm) (s:St) (neg:Bool) (x y:X),
 aD (AO.yV neg x y) tm s =
  match X.ev tm x,X.ev tm y with
  | D.dG,D.dG=>some (D.bool !neg,s)
  | D.ptr o off,D.dG=>some (D.bool neg,s)
  | D.cD row off,D.dG=>some (D.bool neg,s)
  | x,dn=>none:=
 fun tm s neg x y=>nd (aD.eq_15 tm s neg x y)
theorem CZ : ∀ (tm:Tm) (s:St) (op:UnOp) (x:X),
 aD (AO.un op x) tm s =
  match zb op (X.ev tm x)with
  | some d=>some (d,s)
  | none=>none:=
 fun tm s op x=>nd (aD.eq_16 tm s op x)
theorem C0 : ∀ (tm:Tm) (s:St) (k:IntKind) (x:X),
 aD (AO.conv k x) tm s =
  match X.ev tm x with
  | D.int k_1 n=>some (D.int k (k.wrap n),s)
  | x=>none:=
 fun tm s k x=>nd (aD.eq_17 tm s k x)
theorem C1 : ∀ (tm:Tm) (s:St) (x:X),
 aD (AO.vn x) tm s =
  match X.ev tm x with
  | D.slice g size rows=>
   match j5 rows with
   | some b=>some (D.str b,s)
   | none=>none
  | x=>none:=
 fun tm s x=>nd (aD.eq_18 tm s x)
theorem C2 : ∀ (tm:Tm) (s:St) (x:X),
 aD (AO.qH x) tm s =
  match X.ev tm x with
  | D.str l=>some (D.slice Tag.shared 1 (List.map (fun(c:UInt8)=> [D.int IntKind.u8 ↑c.toNat]) l),s)
  | x=>none:=
 fun tm s x=>nd (aD.eq_19 tm s x)
theorem C3 : ∀ (tm:Tm) (s:St) (size:Nat) (x:X) (lo hi:Option X),
 aD (AO.yW size x lo hi) tm s =
  match X.ev tm x with
  | D.slice g z rows=>
   match sD (Option.map (fun(x:X)=>X.ev tm x) lo),
    sE (Option.map (fun(x:X)=>X.ev tm x) hi) rows.length with
   | some l,some h=>
    if(rows = []∨z=size)∧0≤l∧l≤h∧h≤ ↑rows.length then
     some
      (D.slice (if l=0 then g.cut (decide (h = ↑rows.length))else Tag.shared) z
       (List.drop l.toNat (List.take h.toNat rows)),
       s)
    else none
   | x,dn=>none
  | x=>none:=
 fun tm s size x lo hi=>nd (aD.eq_20 tm s size x lo hi)
theorem C4 : ∀ (tm:Tm) (s:St) (x:X) (lo hi:Option X),
 aD (AO.yX x lo hi) tm s =
  match X.ev tm x with
  | D.str t=>
   match sD (Option.map (fun(x:X)=>X.ev tm x) lo),sE (Option.map (fun(x:X)=>X.ev tm x) hi) t.length with
   | some l,some h=>
    if 0≤l∧l≤h∧h≤ ↑t.length then some (D.str (List.drop l.toNat (List.take h.toNat t)),s)else none
   | x,dn=>none
  | x=>none:=
 fun tm s x lo hi=>nd (aD.eq_21 tm s x lo hi)
theorem C5 : ∀ (tm:Tm) (s:St) (x:X) (off:Nat),
 aD (AO.aG x off) tm s =
  match X.ev tm x with
  | D.ptr o k=>some (D.ptr o (k+off),s)
  | D.cD row k=>some (D.cD row (k+off),s)
  | x=>none:=
 fun tm s x off=>nd (aD.eq_22 tm s x off)
theorem C6 : ∀ (tm:Tm) (s:St) (x:X) (off:Nat) (agg:Bool) (size:Nat),
 aD (AO.yY x off agg size) tm s =
  match X.ev tm x with
  | D.agg cs=>
   match part cs off agg size with
   | some d=>some (d,s)
   | none=>none
  | x=>none:=
 fun tm s x off agg size=>nd (aD.eq_23 tm s x off agg size)
theorem C7 : ∀ (tm:Tm) (s:St) (x i:X) (size:Nat),
 aD (AO.cv x i size) tm s =
  match X.ev tm x,X.ev tm i with
  | D.slice g z rows,D.int k n=>
   if 0≤n∧z=size then
    match rows[n.toNat]? with
    | some row=>some (D.cD row 0,s)
    | none=>none
   else none
  | x,dn=>none:=
 fun tm s x i size=>nd (aD.eq_24 tm s x i size)
theorem C8 : ∀ (tm:Tm) (s:St) (x i:X),
 aD (AO.sx x i) tm s =
  match X.ev tm x,X.ev tm i with
  | D.str t,D.int k n=>
   if 0≤n then
    match t[n.toNat]? with
    | some c=>some (D.int IntKind.u8 ↑c.toNat,s)
    | none=>none
   else none
  | x,dn=>none:=
 fun tm s x i=>nd (aD.eq_25 tm s x i)
theorem C9 : ∀ (tm:Tm) (s:St) (x:X) (i:Nat),
 aD (AO.ext x i) tm s =
  match X.ev tm x with
  | D.tuple ds=>
   match ds[i]? with
   | some d=>some (d,s)
   | none=>none
  | x=>none:=
 fun tm s x i=>nd (aD.eq_26 tm s x i)
theorem Da : ∀ (tm:Tm) (s:St) (x:X),
 aD (AO.oM x) tm s =
  match X.ev tm x with
  | D.str t=>some (D.int IntKind.i64 ↑t.length,s)
  | x=>none:=
 fun tm s x=>nd (aD.eq_27 tm s x)
theorem Db : ∀ (tm:Tm) (s:St) (x:X),
 aD (AO.len x) tm s =
  match X.ev tm x with
  | D.slice g size rows=>some (D.int IntKind.i64 ↑rows.length,s)
  | x=>none:=
 fun tm s x=>nd (aD.eq_28 tm s x)
theorem Dc : ∀ (tm:Tm) (s:St) (size bytes:Nat) (x y:X),
 aD (AO.app size bytes x y) tm s=kq size bytes (X.ev tm x) (X.ev tm y) s:=
 fun tm s size bytes x y=>nd (aD.eq_29 tm s size bytes x y)
theorem Dd : ∀ (tm:Tm) (s:St) (isMax:Bool) (x y:X),
 aD (AO.mm isMax x y) tm s =
  match X.ev tm x,X.ev tm y with
  | D.int k a,D.int k' b=>
   if k=k' then some (D.int k (if isMax=true then if b > a then b else a else if b<a then b else a),s)
   else none
  | x,dn=>none:=
 fun tm s isMax x y=>nd (aD.eq_30 tm s isMax x y)
theorem De (tm:Tm) (s:St) (r:List D) (T:TypeId):aD (AO.nG (.dG::r) T) tm s=some (.ptr s.al.length 0,{al:=s.al++ [.dH T s.al.length::r],aq:=s.aq}):=nd rfl
theorem Df (tm:Tm) (s:St) (x:X) (T:TypeId):aD (AO.sy x T) tm s =
 match (x.ev tm).row with
 | some (.dG::r)=>some (.ptr s.al.length 0,{al:=s.al++ [.dH T s.al.length::r],aq:=s.aq})
 | _=>none:=nd rfl
theorem Dg (tm:Tm) (s:St) (x y:X):aD (AO.apps x y) tm s =
 match y.ev tm with
 | .str l=>sF (x.ev tm) (.slice .shared 1 (l.map fun c=> [.int .u8 c.toNat])) s
 | _=>none:=nd rfl
theorem Dh (tm:Tm) (s:St) (x y:X):aD (AO.sA x y) tm s=sF (x.ev tm) (y.ev tm) s:=nd rfl
theorem Di (tm:Tm) (s:St) (f:Nat) (xs:List X):aD (AO.oy f xs) tm s=some (.ez f (xs.map fun x=>x.ev tm),s):=nd rfl
theorem Dj (tm:Tm) (s:St):aD AO.pA tm s=some (.eO s.al.length,{al:=s.al++ [[]],aq:=s.aq}):=nd rfl
theorem Dk (tm:Tm) (s:St) (m k v:X):aD (AO.sB m k v) tm s =
 match m.ev tm,k.ev tm,v.ev tm with
 | .eO o, .str key, .slice g z rows=>
  match s.al[o]? with
  | some cs=>match uH key (.slice g z rows) cs with | some fM=>some (.tuple [],{al:=s.al.set o fM,aq:=s.aq}) | none=>none
  | none=>none
 | _,_,_=>none:=nd rfl
theorem Dl (tm:Tm) (s:St) (m k:X) (zero:D):aD (AO.ra m k zero) tm s =
 match m.ev tm,k.ev tm with
 | .eO o, .str key=>
  match s.al[o]? with
  | some cs=>match uG key zero cs with | some d=>some (d,s) | none=>none
  | none=>none
 | _,_=>none:=nd rfl
theorem zK (f:Nat) (xs:List X):(AO.oy f xs).core=false:=nd rfl
theorem zL:AO.pA.core=true:=nd rfl
theorem zM (m k v:X):(AO.sB m k v).core=true:=nd rfl
theorem zN (m k:X) (zero:D):(AO.ra m k zero).core=false:=nd rfl
theorem Fy (n m f:Nat) (cs:List D):D.fg n m (.ez f cs) = .ez f (D.e8 n m cs):=nd (by simp only [D.fg])
theorem Fz (n m:Nat) (o:Nat):D.fg n m (.eO o)=if o<n then .eO o else .junk:=nd (by simp only [D.fg])
theorem Dm (d:Option Nat) (g:Option (Nat×Bool)) (t:Nat) (xs:List X):(AI.fE d g t xs).dst=d:=nd rfl
theorem zO (x y:X):(AO.sA x y).core=true:=nd rfl
theorem zP (z:List D) (T:TypeId):(AO.nG z T).core=true:=nd rfl
theorem zQ (x:X) (T:TypeId):(AO.sy x T).core=true:=nd rfl
theorem zR (x y:X):(AO.apps x y).core=true:=nd rfl
theorem FA (n m:Nat) (v:Value):D.fg n m (.val v) = .val v:=nd (by simp only [D.fg])
theorem FB (n m:Nat) (T:TypeId) (o:Nat):D.fg n m (.dH T o)=if o<n then .dH T o else .junk:=nd (by simp only [D.fg])
theorem HK : ∀ (tm:Tm) (t:Nat),X.ev tm (X.s t)=tm.get t:=
 fun tm t=>nd (X.ev.eq_1 tm t)
theorem HL : ∀ (tm:Tm) (d:D),X.ev tm (X.k d)=d:=
 fun tm d=>nd (X.ev.eq_2 tm d)
theorem Dn : ∀ (tm:Tm) (d:D) (t:Nat),tm.put (some t) d=tm.set t d:=
 fun tm d t=>nd (Tm.put.eq_1 tm d t)
theorem Dp : ∀ (tm:Tm) (d:D),tm.put none d=tm:=
 fun tm d=>nd (Tm.put.eq_2 tm d)
theorem Dq : ∀ (x:Nat) (dn:D),Tm.set [] x dn = [(x,dn)]:=
 fun x dn=>nd (Tm.set.eq_1 x dn)
theorem Dr : ∀ (x:Nat) (dn:D) (k:Nat) (e:D) (r:List (Nat×D)),
 Tm.set ((k,e)::r) x dn=if k=x then(k,dn)::r else(k,e)::Tm.set r x dn:=
 fun x dn k e r=>nd (Tm.set.eq_2 x dn k e r)
theorem Ds : ∀ (x:Nat),Tm.get [] x=D.junk:=
 fun x=>nd (Tm.get.eq_1 x)
theorem Dt : ∀ (x k:Nat) (d:D) (r:List (Nat×D)),Tm.get ((k,d)::r) x=if k=x then d else Tm.get r x:=
 fun x k d r=>nd (Tm.get.eq_2 x k d r)
theorem FC : ∀ (x:Nat),kh x [] = []:=
 fun x=>nd (kh.eq_1 x)
theorem FD : ∀ (x:Nat) (d:D) (r:List D),kh x (d::r)=(x,d)::kh (x+1) r:=
 fun x d r=>nd (kh.eq_2 x d r)
theorem Du : ∀ (d:Option Nat) (g:Option (Nat×Bool)) (o:AO),(AI.op d g o).dst=d:=
 fun d g o=>nd (AI.dst.eq_1 d g o)
theorem Dv : ∀ (d:Option Nat) (g:Option (Nat×Bool)) (f:Nat) (xs:List X),(AI.call d g f xs).dst=d:=
 fun d g f xs=>nd (AI.dst.eq_2 d g f xs)
theorem Dw : ∀ (d:Option Nat) (g:Option (Nat×Bool)) (neg:Bool) (dn:X),(AI.nil d g neg dn).dst=d:=
 fun d g neg dn=>nd (AI.dst.eq_3 d g neg dn)
theorem HM : ∀ (cs:List D) (off size:Nat),
 part cs off true size=if off+size≤cs.length then some (D.agg (List.take size (List.drop off cs)))else none:=
 fun cs off size=>nd (part.eq_1 cs off size)
theorem HN : ∀ (cs:List D) (off size:Nat),part cs off false size=cs[off]? :=
 fun cs off size=>nd (part.eq_2 cs off size)
theorem Dx : ∀ (cs:List D) (off:Nat) (r:List D),
 fU cs off r=List.take off cs++r++List.drop (off+r.length) cs:=
 fun cs off r=>nd (fU.eq_1 cs off r)
theorem FE : ∀ (cells:List D),lW cells [] = some cells:=
 fun cells=>nd (lW.eq_1 cells)
theorem FF : ∀ (cells:List D) (off size:Nat) (d:D) (rest:List (Nat×Nat×D)),
 lW cells ((off,size,d)::rest) =
  match d.row with
  | none=>none
  | some r=>if r.length=size∧off+size≤cells.length then lW (fU cells off r) rest else none:=
 fun cells off size d rest=>nd (lW.eq_2 cells off size d rest)
theorem zS : ∀ (size:Nat) (rows:List (List D)),fY size rows [] = some rows:=
 fun size rows=>nd (fY.eq_1 size rows)
theorem zT : ∀ (size:Nat) (rows:List (List D)) (i:Nat) (d:D) (rest:List (Nat×D)),
 fY size rows ((i,d)::rest) =
  match d.row with
  | none=>none
  | some r=>if r.length=size∧i<rows.length then fY size (rows.set i r) rest else none:=
 fun size rows i d rest=>nd (fY.eq_2 size rows i d rest)
theorem zU : ∀ (zero:List D),fl zero 0 = []:=
 fun zero=>nd (fl.eq_1 zero)
theorem zV : ∀ (zero:List D) (i:Nat),fl zero i.succ=zero::fl zero i:=
 fun zero i=>nd (fl.eq_2 zero i)
theorem HO : ∀ (op:BinOp) (k:IntKind) (a:Int) (k':IntKind) (b:Int),
 qe op (D.int k a) (D.int k' b)=if k=k' then dR op k a b else none:=
 fun op k a k' b=>nd (qe.eq_1 op k a k' b)
theorem HP : ∀ (op:BinOp) (a b:List UInt8),qe op (D.str a) (D.str b)=jQ op a b:=
 fun op a b=>nd (qe.eq_2 op a b)
theorem Dy : ∀ (k:IntKind) (a b:Int),dR BinOp.add k a b=some (D.int k (k.wrap (a+b))):=
 fun k a b=>nd (dR.eq_1 k a b)
theorem Dz : ∀ (k:IntKind) (a b:Int),dR BinOp.sub k a b=some (D.int k (k.wrap (a - b))):=
 fun k a b=>nd (dR.eq_2 k a b)
theorem DA : ∀ (k:IntKind) (a b:Int),dR BinOp.mul k a b=some (D.int k (k.wrap (a*b))):=
 fun k a b=>nd (dR.eq_3 k a b)
theorem DB : ∀ (k:IntKind) (a b:Int),
 dR BinOp.quo k a b=if b=0 then none else some (D.int k (k.wrap (a.tdiv b))):=
 fun k a b=>nd (dR.eq_4 k a b)
theorem DC : ∀ (k:IntKind) (a b:Int),dR BinOp.rem k a b=if b=0 then none else some (D.int k (a.tmod b)):=
 fun k a b=>nd (dR.eq_5 k a b)
theorem DD : ∀ (k:IntKind) (a b:Int),dR BinOp.eql k a b=some (D.bool (a==b)):=
 fun k a b=>nd (dR.eq_6 k a b)
theorem DE : ∀ (k:IntKind) (a b:Int),dR BinOp.neq k a b=some (D.bool (a != b)):=
 fun k a b=>nd (dR.eq_7 k a b)
theorem DF : ∀ (k:IntKind) (a b:Int),dR BinOp.lss k a b=some (D.bool (decide (a<b))):=
 fun k a b=>nd (dR.eq_8 k a b)
theorem DG : ∀ (k:IntKind) (a b:Int),dR BinOp.leq k a b=some (D.bool (decide (a≤b))):=
 fun k a b=>nd (dR.eq_9 k a b)
theorem AW : ∀ (k:IntKind) (a b:Int),dR BinOp.gtr k a b=some (D.bool (decide (a > b))):=
 fun k a b=>nd (dR.eq_10 k a b)
theorem AX : ∀ (k:IntKind) (a b:Int),dR BinOp.geq k a b=some (D.bool (decide (a≥b))):=
 fun k a b=>nd (dR.eq_11 k a b)
theorem DH : ∀ (a b:List UInt8),
 jQ BinOp.add a b=if a.length+b.length≤bO then some (D.str (a++b))else none:=
 fun a b=>nd (jQ.eq_1 a b)
theorem DI : ∀ (a b:List UInt8),jQ BinOp.eql a b=some (D.bool (a==b)):=
 fun a b=>nd (jQ.eq_2 a b)
theorem DJ : ∀ (a b:List UInt8),jQ BinOp.neq a b=some (D.bool !a==b):=
 fun a b=>nd (jQ.eq_3 a b)
theorem DK : ∀ (a b:List UInt8),jQ BinOp.lss a b=some (D.bool (bytesLess a b)):=
 fun a b=>nd (jQ.eq_4 a b)
theorem KW : ∀ (k:IntKind) (n:Int),zb UnOp.neg (D.int k n)=some (D.int k (k.wrap (0 - n))):=
 fun k n=>nd (zb.eq_1 k n)
theorem KX : ∀ (b:Bool),zb UnOp.not (D.bool b)=some (D.bool !b):=
 fun b=>nd (zb.eq_2 b)
theorem DL : ∀ (k:IntKind) (a:Int) (k':IntKind) (b:Int),
 ji 0 (D.int k a) (D.int k' b)=if k=k' then some (a==b)else none:=
 fun k a k' b=>nd (ji.eq_1 k a k' b)
theorem DM : ∀ (a b:Bool),ji 1 (D.bool a) (D.bool b)=some (a==b):=
 fun a b=>nd (ji.eq_2 a b)
theorem DN : ∀ (a b:List UInt8),ji 2 (D.str a) (D.str b)=some (a==b):=
 fun a b=>nd (ji.eq_3 a b)
theorem AY:gR [] [] [] = some true:=
 nd (gR.eq_1)
theorem AZ : ∀ (k:Nat) (ks:List Nat) (JU:D) (xs:List D) (y:D) (ys:List D),
 gR (k::ks) (JU::xs) (y::ys) =
  match ji k JU y with
  | none=>none
  | some true=>gR ks xs ys
  | some false=>some false:=
 fun k ks JU xs y ys=>nd (gR.eq_2 k ks JU xs y ys)
theorem KY:sD none=some 0:=
 nd (sD.eq_1)
theorem KZ : ∀ (k:IntKind) (n:Int),sD (some (D.int k n))=some n:=
 fun k n=>nd (sD.eq_2 k n)
theorem K0 : ∀ (len:Nat),sE none len=some ↑len:=
 fun len=>nd (sE.eq_1 len)
theorem K1 : ∀ (len:Nat) (k:IntKind) (n:Int),sE (some (D.int k n)) len=some n:=
 fun len k n=>nd (sE.eq_2 len k n)
theorem A0 : ∀ (zero:List D),(AO.alloc zero).core=true:=
 fun zero=>nd (AO.core.eq_1 zero)
theorem A1 : ∀ (dn:X),(AO.box dn).core=true:=
 fun dn=>nd (AO.core.eq_2 dn)
theorem A2 : ∀ (zero:List D) (size n:Nat) (parts:List (Nat×X)),(AO.oL zero size n parts).core=true:=
 fun zero size n parts=>nd (AO.core.eq_3 zero size n parts)
theorem A3 : ∀ (dn:X),(AO.sw dn).core=true:=
 fun dn=>nd (AO.core.eq_4 dn)
theorem A4 : ∀ (p dn:X) (size:Nat),(AO.store p dn size).core=true:=
 fun p dn size=>nd (AO.core.eq_5 p dn size)
theorem A5 : ∀ (size bytes:Nat) (dn y:X),(AO.app size bytes dn y).core=true:=
 fun size bytes dn y=>nd (AO.core.eq_6 size bytes dn y)
theorem A6 : ∀ (val:Nat) (zero:List D),(AI.op (some val) none (AO.alloc zero)).kind=AK.alloc:=
 fun val zero=>nd (AI.kind.eq_1 val zero)
theorem A7 : ∀ (zero:List D),(AO.alloc zero).kind=AK.core:=
 fun zero=>nd (AO.kind.eq_1 zero)
theorem A8 : ∀ (dn:X),(AO.box dn).kind=AK.core:=
 fun dn=>nd (AO.kind.eq_2 dn)
theorem A9 : ∀ (zero:List D) (size n:Nat) (parts:List (Nat×X)),(AO.oL zero size n parts).kind=AK.core:=
 fun zero size n parts=>nd (AO.kind.eq_3 zero size n parts)
theorem Ba : ∀ (dn:X),(AO.sw dn).kind=AK.core:=
 fun dn=>nd (AO.kind.eq_4 dn)
theorem Bb : ∀ (p dn:X) (size:Nat),(AO.store p dn size).kind=AK.core:=
 fun p dn size=>nd (AO.kind.eq_5 p dn size)
theorem Bc : ∀ (size bytes:Nat) (dn y:X),(AO.app size bytes dn y).kind=AK.core:=
 fun size bytes dn y=>nd (AO.kind.eq_6 size bytes dn y)
theorem Bd : ∀ (dn:X) (agg:Bool) (size:Nat),(AO.load dn agg size).kind=AK.load:=
 fun _ _ _=>nd rfl
theorem DO:ej AK.core=true:=
 nd (ej.eq_1)
theorem DP:ej AK.alloc=true:=
 nd (ej.eq_2)
theorem DQ : ∀ (i:AI) (tm:Tm) (d:D),jW i tm d [] = True:=
 fun i tm d=>nd (jW.eq_1 i tm d)
theorem DR : ∀ (i:AI) (tm:Tm) (d:D) (s:St) (r:List St),
 jW i tm d (s::r)=(fV i tm s=some d∧jW i tm d r):=
 fun i tm d s r=>nd (jW.eq_2 i tm d s r)
theorem K3 : ∀ (tm:Tm) (s:St) (dst:Option Nat) (o:AO),
 fV (AI.op dst none o) tm s=Option.map (fun(x:D×St)=>x.fst) (aD o tm s):=
 fun tm s dst o=>nd (fV.eq_1 tm s dst o)
theorem K4 : ∀ (tm:Tm) (s:St) (dst:Option Nat) (t:Nat) (want:Bool) (o:AO),
 fV (AI.op dst (some (t,want)) o) tm s =
  match tm.get t with
  | D.bool b=>if b=want then Option.map (fun(x:D×St)=>x.fst) (aD o tm s)else some (D.tuple [])
  | D.tuple vs=>some (D.tuple [])
  | x=>none:=
 fun tm s dst t want o=>nd (fV.eq_2 tm s dst t want o)
theorem Be : ∀ (is:List AI),jm is [] = some []:=
 fun is=>nd (jm.eq_1 is)
theorem Bf : ∀ (is:List AI) (q b:Nat) (r:List (Nat×Nat)),
 jm is ((q,b)::r) =
  match is[q]?,jm is r with
  | some ai,some l=>some ((ai,b)::l)
  | x,dn=>none:=
 fun is q b r=>nd (jm.eq_2 is q b r)
theorem K5 : ∀ (tm:Tm) (n m:Nat),pR tm n m [] = True:=
 fun tm n m=>nd (pR.eq_1 tm n m)
theorem K6 : ∀ (tm:Tm) (n m k:Nat) (d:D) (r:List (Nat×D)),
 pR tm n m ((k,d)::r)=(Wk (D.fg n m (tm.get k)) d∧pR tm n m r):=
 fun tm n m k d r=>nd (pR.eq_2 tm n m k d r)
theorem HQ : ∀ (n m o off:Nat),D.fg n m (D.ptr o off)=if o<n then D.ptr o off else D.junk:=
 fun n m o off=>nd (D.fg.eq_1 n m o off)
theorem HR : ∀ (n m:Nat) (row:List D) (off:Nat),D.fg n m (D.cD row off)=D.cD (D.e8 n m row) off:=
 fun n m row off=>nd (D.fg.eq_2 n m row off)
theorem HS : ∀ (n m:Nat) (g:Tag) (z:Nat) (rows:List (List D)),
 D.fg n m (D.slice g z rows)=D.slice (Tag.fg m g) z (D.gB n m rows):=
 fun n m g z rows=>nd (D.fg.eq_3 n m g z rows)
theorem HT : ∀ (n m:Nat) (cs:List D),D.fg n m (D.agg cs)=D.agg (D.e8 n m cs):=
 fun n m cs=>nd (D.fg.eq_4 n m cs)
theorem HU : ∀ (n m:Nat) (ds:List D),D.fg n m (D.tuple ds)=D.tuple (D.e8 n m ds):=
 fun n m ds=>nd (D.fg.eq_5 n m ds)
theorem HV : ∀ (n m:Nat),D.fg n m D.junk=D.junk:=
 fun n m=>nd (D.fg.eq_6 n m)
theorem HW : ∀ (n m:Nat) (k:IntKind) (dn:Int),D.fg n m (D.int k dn)=D.int k dn:=
 fun n m k dn=>nd (D.fg.eq_7 n m k dn)
theorem HX : ∀ (n m:Nat) (b:Bool),D.fg n m (D.bool b)=D.bool b:=
 fun n m b=>nd (D.fg.eq_8 n m b)
theorem HY : ∀ (n m:Nat) (l:List UInt8),D.fg n m (D.str l)=D.str l:=
 fun n m l=>nd (D.fg.eq_9 n m l)
theorem FG : ∀ (n m:Nat),D.fg n m D.dG=D.dG:=
 fun n m=>nd (D.fg.eq_10 n m)
theorem FH : ∀ (n m:Nat),D.e8 n m [] = []:=
 fun n m=>nd (D.e8.eq_1 n m)
theorem FI : ∀ (n m:Nat) (d:D) (r:List D),D.e8 n m (d::r)=D.fg n m d::D.e8 n m r:=
 fun n m d r=>nd (D.e8.eq_2 n m d r)
theorem FJ : ∀ (n m:Nat),D.gB n m [] = []:=
 fun n m=>nd (D.gB.eq_1 n m)
theorem FK : ∀ (n m:Nat) (d:List D) (r:List (List D)),D.gB n m (d::r)=D.e8 n m d::D.gB n m r:=
 fun n m d r=>nd (D.gB.eq_2 n m d r)
theorem DS : ∀ (m t:Nat) (y:Bool),Tag.fg m (Tag.tok t y)=if t<m then Tag.tok t y else Tag.shared:=
 fun _ _ _=>nd rfl
theorem DT : ∀ (s:St) (n m:Nat),
 s.cut n m = {al:=List.map (D.e8 n m) (List.take n s.al),aq:=List.take m s.aq}:=
 fun s n m=>nd (St.cut.eq_1 s n m)
theorem HZ : ∀ (d:D),aF [d] = d:=
 fun d=>nd (aF.eq_1 d)
theorem H0 (size bytes t:Nat) (rows:List (List D)) (g:Tag) (r:List D) (s:St):kq size bytes (.slice (.tok t) size rows) (.slice g size [r]) s =
 if(rows.length+1)*(bytes+1)≤bO∧s.aq[t]? = some (some rows.length)then some (.slice (.tok t) size (rows++ [r]),⟨s.al,s.aq.set t (some (rows.length+1))⟩)else none:=by
 simp only [kq,List.length_singleton]
 by_cases h1:(rows.length+1)*(bytes+1)≤bO <;> by_cases h2:s.aq[t]? = some (some rows.length) <;> simp [h1,h2]
theorem H2 {size bytes t:Nat} {rows new:List (List D)} {g:Tag} {s:St} (h1:(rows.length+new.length)*(bytes+1)≤bO) (h2:s.aq[t]? = some (some rows.length)) :
 kq size bytes (.slice (.tok t) size rows) (.slice g size new) s=some (.slice (.tok t) size (rows++new),⟨s.al,s.aq.set t (some (rows.length+new.length))⟩):=by
 cases new with
 | nil=>
  have:s.aq.set t (some rows.length)=s.aq:=by
   apply List.ext_getElem?
   intro i
   rw [List.getElem?_set]
   split
   ·rename_i hi;subst hi;rw [h2,if_pos (List.getElem?_eq_some_iff.1 h2).1]
   ·rfl
  simp only [List.length_nil,Nat.add_zero]at h1
  simp [kq,h1,this]
 | cons x l=>
  simp only [kq,h1,h2]
  simp
theorem FL (size bytes z:Nat) (g:Tag) (r:List D) (s:St):kq size bytes (.slice .full z []) (.slice g size [r]) s =
 if bytes+1≤bO then some (.slice (.tok s.aq.length) size [r],⟨s.al,s.aq++ [some 1]⟩)else none:=by
 simp [kq]
theorem K7 {P:Program} {B:eR} {nt:Nat} (ac:AC) (Q:Exit→Tm→St→Prop) (tm:Tm) (s:St):Cu P B nt ac Q .normal tm s=Q .normal tm s:=nd rfl
theorem K8 {P:Program} {B:eR} {nt:Nat} (ac:AC) (Q:Exit→Tm→St→Prop) (tm:Tm) (s:St):Cu P B nt ac Q .ret tm s=Q .ret tm s:=nd rfl
theorem K9 {P:Program} {B:eR} {nt:Nat} (ac:AC) (Q:Exit→Tm→St→Prop) (tm:Tm) (s:St) (i:Nat):Cu P B nt ac Q (.exit i) tm s=Q (.exit i) tm s:=nd rfl
theorem La (m:Nat):Tag.fg m .full = .full:=nd rfl
theorem FM (m:Nat):Tag.fg m .shared = .shared:=nd rfl
theorem Pe {P:Program} (K:Tm→St→Prop) (tm:Tm) (s:St):gC P [] K tm s=K tm s:=nd rfl
theorem s_op {P:Program} (dst:Option Nat) (o:AO) (r:List AI) (K:Tm→St→Prop) (tm:Tm) (s:St) :
 gC P (.op dst none o::r) K tm s=(match aD o tm s with | some (d,s')=>gC P r K (tm.put dst d) s' | none=>False):=nd rfl
def KJ (P:Program) (r:List AI) (K:Tm→St→Prop) (tm:Tm) (dst:Option Nat) (d:D) (s:St):Prop:=gC P r K (tm.put dst d) s
theorem RA {P:Program} (r:List AI) (K:Tm→St→Prop) (tm:Tm) (dst:Option Nat) (d:D) (s:St):KJ P r K tm dst d s=gC P r K (tm.put dst d) s:=nd rfl
theorem s_call {P:Program} (dst:Option Nat) (f:Nat) (xs:List X) (r:List AI) (K:Tm→St→Prop) (tm:Tm) (s:St) :
 gC P (.call dst none f xs::r) K tm s=CL P f (xs.map (·.ev tm)) s (KJ P r K tm dst):=nd rfl
def NJ (P:Program) (dst:Option Nat) (neg:Bool) (x:D) (r:List AI) (K:Tm→St→Prop) (tm:Tm) (s:St):Prop:=
 match x with
 | .slice _ _ rows=>∀ b:Bool,(rows≠ []→b=false)→gC P r K (tm.put dst (.bool (if neg then !b else b))) s
 | _=>False
theorem MD {P:Program} (dst:Option Nat) (neg:Bool) (x:X) (r:List AI) (K:Tm→St→Prop) (tm:Tm) (s:St) :
 gC P (.nil dst none neg x::r) K tm s=NJ P dst neg (x.ev tm) r K tm s:=nd rfl
theorem Lb {P:Program} (dst:Option Nat) (neg:Bool) (g:Tag) (z:Nat) (d:List D) (l:List (List D)) (r:List AI) (K:Tm→St→Prop) (tm:Tm) (s:St) :
 NJ P dst neg (.slice g z (d::l)) r K tm s=gC P r K (tm.put dst (.bool neg)) s:=by
 simp only [NJ,ne_eq,reduceCtorEq,not_false_eq_true,true_imp_iff,eq_iff_iff]
 refine⟨fun h=>by have:=h false rfl;cases neg <;> exact this,fun h b hb=> ?_⟩
 subst hb;cases neg <;> exact h
theorem Pf {P:Program} (dst:Option Nat) (t:Nat) (w:Bool) (o:AO) (r:List AI) (K:Tm→St→Prop) (tm:Tm) (s:St) :
 gC P (.op dst (some (t,w)) o::r) K tm s = @GB (tm.get t) w ⟨(gC P (.op dst none o::r) K tm s),(gC P r K (tm.put dst (.tuple [])) s)⟩:=nd rfl
def CV (P:Program) (x:D) (Ph:List D) (s:St) (K:D→St→Prop):Prop:=
 match x with
 | .ez f jD=>enters P f=true∧CL P f (Ph++jD) s K
 | _=>False
theorem Lc {P:Program} (dst:Option Nat) (t:Nat) (xs:List X) (r:List AI) (K:Tm→St→Prop) (tm:Tm) (s:St) :
 gC P (.fE dst none t xs::r) K tm s=CV P (tm.get t) (xs.map (·.ev tm)) s (KJ P r K tm dst):=nd rfl
theorem CV.use {P:Program} {f:Nat} {jD Ph:List D} {s s':St} {d:D} {K:D→St→Prop} (he:enters P f=true) (h:aH P f (Ph++jD) s d s') (k:K d s'):CV P (.ez f jD) Ph s K:=⟨he,d,s',h,k⟩
theorem H3 {P:Program} (dst:Option Nat) (t:Nat) (w:Bool) (u:Nat) (xs:List X) (r:List AI) (K:Tm→St→Prop) (tm:Tm) (s:St) :
 gC P (.fE dst (some (t,w)) u xs::r) K tm s = @GB (tm.get t) w ⟨(gC P (.fE dst none u xs::r) K tm s),(gC P r K (tm.put dst (.tuple [])) s)⟩:=nd rfl
theorem Ld {P:Program} (dst:Option Nat) (t:Nat) (w:Bool) (f:Nat) (xs:List X) (r:List AI) (K:Tm→St→Prop) (tm:Tm) (s:St) :
 gC P (.call dst (some (t,w)) f xs::r) K tm s = @GB (tm.get t) w ⟨(gC P (.call dst none f xs::r) K tm s),(gC P r K (tm.put dst (.tuple [])) s)⟩:=nd rfl
theorem MF {P:Program} (dst:Option Nat) (t:Nat) (w:Bool) (neg:Bool) (x:X) (r:List AI) (K:Tm→St→Prop) (tm:Tm) (s:St) :
 gC P (.nil dst (some (t,w)) neg x::r) K tm s = @GB (tm.get t) w ⟨(gC P (.nil dst none neg x::r) K tm s),(gC P r K (tm.put dst (.tuple [])) s)⟩:=nd rfl
theorem RC (b:Bool) (A C:Prop) : @GB (.bool b) true ⟨A,C⟩ = @CB (.bool b) ⟨A,C⟩:=nd rfl
theorem RE (b:Bool) (A C:Prop) : @GB (.bool b) false ⟨A,C⟩ = @CB (.bool b) ⟨C,A⟩:=by
 cases b <;> simp [GB,CB,GJ,oE]
theorem RF (l:List D) (w:Bool) (A C:Prop) : @GB (.tuple l) w ⟨A,C⟩=C:=nd rfl
theorem Pj {P:Program} {K:Tm→St→Prop} (aX:List St) (tm:Tm) (s:St):dV P K [] aX tm s=K tm s:=nd rfl
def OJ (P:Program) (o:AO) (dst:Option Nat) (b:Nat) (r:List (AI×Nat)) (K:Tm→St→Prop) (aX:List St) (tm:Tm) (s:St):Bool→Prop
 | true=>match aD o tm s with | some (d,s')=>dV P K r (s::aX) (tm.put dst d) s' | none=>False
 | false=>match aD o tm s with | some (d,_)=>jW (.op dst none o) tm d (aX.take b)∧dV P K r aX (tm.put dst d) s | none=>False
theorem RH {P:Program} {K:Tm→St→Prop} (dst:Option Nat) (o:AO) (b:Nat) (r:List (AI×Nat)) (aX:List St) (tm:Tm) (s:St) :
 dV P K ((.op dst none o,b)::r) aX tm s=OJ P o dst b r K aX tm s o.core:=by
 simp only [dV,jn]
 cases o.core <;> rfl
theorem RI {P:Program} (o:AO) (dst:Option Nat) (b:Nat) (r:List (AI×Nat)) (K:Tm→St→Prop) (aX:List St) (tm:Tm) (s:St) :
 OJ P o dst b r K aX tm s true=match aD o tm s with | some (d,s')=>dV P K r (s::aX) (tm.put dst d) s' | none=>False:=nd rfl
theorem RJ {P:Program} (o:AO) (dst:Option Nat) (b:Nat) (r:List (AI×Nat)) (K:Tm→St→Prop) (aX:List St) (tm:Tm) (s:St) :
 OJ P o dst b r K aX tm s false=match aD o tm s with | some (d,_)=>jW (.op dst none o) tm d (aX.take b)∧dV P K r aX (tm.put dst d) s | none=>False:=nd rfl
theorem Pk {P:Program} {K:Tm→St→Prop} (dst:Option Nat) (t:Nat) (w:Bool) (o:AO) (b:Nat) (r:List (AI×Nat)) (aX:List St) (tm:Tm) (s:St) :
 dV P K ((.op dst (some (t,w)) o,b)::r) aX tm s = @GB (tm.get t) w ⟨(dV P K ((.op dst none o,b)::r) aX tm s),(dV P K r (if o.core then s::aX else aX) (tm.put dst (.tuple [])) s)⟩:=by
 simp only [GB,dV,jn]
 cases o.core <;> rfl
def KG (P:Program) (K:Tm→St→Prop) (r:List (AI×Nat)) (aX:List St) (tm:Tm) (dst:Option Nat) (d:D) (s:St):Prop:=dV P K r aX (tm.put dst d) s
theorem RK {P:Program} (K:Tm→St→Prop) (r:List (AI×Nat)) (aX:List St) (tm:Tm) (dst:Option Nat) (d:D) (s:St):KG P K r aX tm dst d s=dV P K r aX (tm.put dst d) s:=nd rfl
theorem g_call {P:Program} {K:Tm→St→Prop} (dst:Option Nat) (f:Nat) (xs:List X) (b:Nat) (r:List (AI×Nat)) (aX:List St) (tm:Tm) (s:St) :
 dV P K ((.call dst none f xs,b)::r) aX tm s=CL P f (xs.map (·.ev tm)) s (KG P K r (s::aX) tm dst):=nd rfl
theorem Lf {P:Program} {K:Tm→St→Prop} (dst:Option Nat) (t:Nat) (w:Bool) (f:Nat) (xs:List X) (b:Nat) (r:List (AI×Nat)) (aX:List St) (tm:Tm) (s:St) :
 dV P K ((.call dst (some (t,w)) f xs,b)::r) aX tm s = @GB (tm.get t) w ⟨(dV P K ((.call dst none f xs,b)::r) aX tm s),(dV P K r (s::aX) (tm.put dst (.tuple [])) s)⟩:=nd rfl
class Ok (p:Prop):Prop where
 out:p
instance:Ok True:=⟨trivial⟩
instance {p q:Prop} [Ok p] [Ok q] : Ok (p∧q):=⟨⟨Ok.out,Ok.out⟩⟩
instance {α:Type} (a:α):Ok (a=a):=⟨rfl⟩
instance (d:D):Ok (Wk d .junk):=⟨Wk.junk d⟩
instance {l l':List D} [Ok (jk l l')] : Ok (Wk (.tuple l) (.tuple l')):=⟨Wk.tuple Ok.out⟩
instance {l l':List D} [Ok (jk l l')] : Ok (Wk (.agg l) (.agg l')):=⟨Wk.agg Ok.out⟩
instance {g:Tag} {z:Nat} {l l':List (List D)} [Ok (fv l l')] : Ok (Wk (.slice g z l) (.slice g z l')):=⟨Wk.rows Ok.out⟩
instance {g:Tag} {z:Nat} {l l':List (List D)} [Ok (fv l l')] : Ok (Wk (.slice g z l) (.slice .shared z l')):=⟨Wk.slice Ok.out⟩
instance (z z':Nat):Ok (Wk (.slice .full z []) (.slice .full z' [])):=⟨Wk.Rp z z'⟩
instance (g:Tag) (z z':Nat):Ok (Wk (.slice g z []) (.slice .shared z' [])):=⟨Wk.nil g z z'⟩
instance (d:D):Ok (Wk d d):=⟨Wk.refl d⟩
instance:Ok (jk [] []):=⟨.nil⟩
instance {d d':D} {l l':List D} [Ok (Wk d d')] [Ok (jk l l')] : Ok (jk (d::l) (d'::l')):=⟨.cons Ok.out Ok.out⟩
instance (l:List D):Ok (jk l l):=⟨jk.refl l⟩
instance:Ok (fv [] []):=⟨.nil⟩
instance {d d':List D} {l l':List (List D)} [Ok (jk d d')] [Ok (fv l l')] : Ok (fv (d::l) (d'::l')):=⟨.cons Ok.out Ok.out⟩
instance {a a' b b':List (List D)} [Ok (fv a a')] [Ok (fv b b')] : Ok (fv (a++b) (a'++b')):=⟨fv.append Ok.out Ok.out⟩
instance (l:List (List D)):Ok (fv l l):=⟨fv.refl l⟩
theorem bs:(∀ b,(true || b)=true)∧(∀ b,(false || b)=b)∧(∀ b,(b || true)=true)∧(∀ b,(b || false)=b)∧(∀ b,(true && b)=b)∧(∀ b,(false && b)=false)∧(∀ b,(b && true)=b)∧(∀ b,(b && false)=false)∧
 (!true)=false∧(!false)=true∧(∀ b,(!!b)=b)∧((false=true)=False)∧(∀ (α β:Type) (a:α) (f:α→Option β),(some a).bind f=f a)∧
 (∀ (α β γ:Type) (x:Option α) (f:α→Option β) (g:β→Option γ),(x.bind f).bind g=x.bind fun y=>(f y).bind g):=
 ⟨Bool.true_or,Bool.false_or,Bool.or_true,Bool.or_false,Bool.true_and,Bool.false_and,Bool.and_true,Bool.and_false,rfl,rfl,Bool.not_not,by simp,fun _ _ _ _=>rfl,fun _ _ _ x f g=>Option.bind_assoc x f g⟩
attribute [go_sem] MA Rx Ry Pe s_op RA s_call MD Lb Pf Ld MF RC RE RF Pj RH RI RJ Pk RK g_call Lf AO.core AI.kind AO.kind ej
attribute [go_sem] Lc H3 Di Dj Dk Dl zK zL zM zN Fy Fz Dm KM Hw
attribute [go_sem] Dh zO De Df Dg zP zQ zR FA FB KK Fi KE Ht KF Hu KH Hv Fh KI Hx CN Hy
attribute [go_sem] Fo Fp Fq Fs Ft Fu Fv Fw Fx CR CS CT CW CX CY CZ C0 C1 C2 C3 C4 C5 C6 C7 C8 C9 Da Db Dc Dd HK HL Dn Dp Dq Dr Ds Dt FC FD Du Dv Dw HM HN Dx FE FF zS zT zU zV HO HP Dy Dz DA DB DC DD DE DF DG AW AX DH DI DJ DK KW KX DL DM DN AY AZ KY KZ K0 K1 A0 A1 A2 A3 A4 A5 A6 A7 A8 A9 Ba Bb Bc Bd DO DP DQ DR K3 K4 Be Bf K5 K6 HQ HR HS HT HU HV HW HX HY FG FH FI FJ FK DS DT HZ H0 FL La FM K7 K8 K9
attribute [go_sem] List.map_cons List.map_nil List.getElem?_cons_zero List.getElem?_cons_succ List.length_cons List.length_nil List.set_cons_zero List.set_cons_succ List.take_succ_cons List.take_zero List.take_nil List.drop_succ_cons List.drop_zero List.drop_nil List.cons_append List.nil_append List.append_nil Nat.zero_add Nat.add_zero Option.map_some Option.map_none
attribute [go_sem] Bool.not_false Bool.not_true List.length_map List.getElem?_map Int.toNat_natCast Int.natCast_nonneg Int.toNat_zero and_self and_true true_and
attribute [go_sem_proc ↓] reduceIte
attribute [go_sem_proc] Int.reduceLE reduceCtorEq Nat.reduceEqDiff Nat.reduceLeDiff Nat.reduceAdd Nat.reduceMul Nat.reduceSub Nat.reduceLT
theorem cq {b:Bool} {A C:Prop} (h1:b=true→A) (h:b=true:=by assumption) : @CB (.bool b) ⟨A,C⟩:=MB h h1
theorem cr {b:Bool} {A C:Prop} (h1:b=false→C) (h:b=false:=by assumption) : @CB (.bool b) ⟨A,C⟩:=MC h h1
theorem ct {b:Bool} {A C:Prop} (h1:b=true→A) (h2:b=false→C) : @CB (.bool b) ⟨A,C⟩:=⟨h1,h2⟩
theorem aV {a b:Prop} (x:a) (y:b):a∧b:=⟨x,y⟩
theorem dj {α:Type _} (a b:α):(some a=some b)=(a=b):=Option.some.injEq a b
theorem dk {α:Sort _} {p:α→Prop} {a:α} : (∃ x,a=x∧p x)↔p a:=exists_eq_left'
theorem uz {n m:Nat} (h:Nat.ble n m=true):n≤m:=Nat.le_of_ble_eq_true h
theorem aL {n m:Nat} {res:List (Nat×Option (Bool×Nat))} {d:D} {s':St} {e:Exit} {tm:Tm} {s:St} {Q:Exit→Tm→St→Prop} (hQ:mX n m res d s'=Q) (h : ∃ l,aE res tm s=some l∧Wk ((aF l).fg n m) d∧fv (s.cut n m).al s'.al∧(s.cut n m).aq=s'.aq) (he:e = .ret∨e = .normal:=by first | exact .inl rfl | exact .inr rfl):Q e tm s:=by cases he with | inl x=>cases x;exact Pa hQ h | inr x=>cases x;exact Pb hQ h
theorem la {p:Prop} (h:p:=by repeat' (first | exact Ok.out | with_reducible refine aV ?_ ?_ | (simp;done))):p:=h
theorem bQ {p:Prop} (h:p:=by repeat' (first | exact Ok.out | with_reducible refine aV ?_ ?_)):p:=h
theorem im {p:Prop} (h:p:=by(try cases h);simp only [aE,aF,dj,dk,go_sem,hD,hF,hJ,hP];repeat' (first | exact Ok.out | with_reducible refine aV ?_ ?_ | (simp;done))):p:=h
theorem QI {p:Prop} (h:p:=by simp only [go_sem,hD,hF,hJ,hP];repeat' (first | exact Ok.out | with_reducible refine aV ?_ ?_)):p:=h
theorem dM {P:Program} {B:eR} {nt:Nat} {a:AC} {Q:Exit→Tm→St→Prop} {tm bd:Tm} {s:St} {je:List (List D)} (n m:Nat) (h:bx P B nt a Q bd ⟨je,(s.cut n m).aq⟩) (hn:B.s.al.length≤n:=by rw [hB];exact uz rfl) (hm:B.s.aq.length≤m:=by rw [hB];exact uz rfl) (ht:pR tm n m bd:=by exact QI) (ho:fv (s.cut n m).al je:=by exact QI):bx P B nt a Q tm s:=bx.re bd je n m hn hm ht ho h
theorem ep {P:Program} {B:eR} {nt:Nat} {a:AC} {Q:Exit→Tm→St→Prop} {tm bd:Tm} {s:St} {je:List (List D)} (n m:Nat) (ht:pR tm n m bd) (ho:fv (s.cut n m).al je) (h:bx P B nt a Q bd ⟨je,(s.cut n m).aq⟩) (hn:B.s.al.length≤n:=by rw [hB];exact uz rfl) (hm:B.s.aq.length≤m:=by rw [hB];exact uz rfl):bx P B nt a Q tm s:=bx.re bd je n m hn hm ht ho h
theorem cf:0<1∧0<1∧0<1∧0<1:=⟨Nat.zero_lt_one,Nat.zero_lt_one,Nat.zero_lt_one,Nat.zero_lt_one⟩
end Go.Abs

/-! Types -/

namespace Go.Abs
mutual
theorem DU (n m:Nat) : ∀ d,D.ok 0 0 d=true→D.fg n m d=d
 | .junk,_=>by simp [D.fg]
 | .int k n,_=>by simp [D.fg]
 | .bool b,_=>by simp [D.fg]
 | .str l,_=>by simp [D.fg]
 | .dG,_=>by simp [D.fg]
 | .val v,_=>by simp [D.fg]
 | .dH T o,h=>by simp [D.ok]at h
 | .eO o,h=>by simp [D.ok]at h
 | .ez f cs,h=>by
  simp only [D.ok]at h
  simp only [D.fg,fw n m cs h]
 | .ptr o f,h=>by simp [D.ok]at h
 | .cD r f,h=>by
  simp only [D.ok]at h
  simp only [D.fg,fw n m r h]
 | .slice g z rows,h=>by
  simp only [D.ok,Bool.and_eq_true]at h
  simp only [D.fg,zW n m rows h.2]
  cases g with
  | tok t y=>simp [Tag.ok]at h
  | full=>rfl
  | shared=>rfl
 | .agg cs,h=>by
  simp only [D.ok]at h
  simp only [D.fg,fw n m cs h]
 | .tuple cs,h=>by
  simp only [D.ok]at h
  simp only [D.fg,fw n m cs h]
theorem fw (n m:Nat) : ∀ l,D.bG 0 0 l=true→D.e8 n m l=l
 | [],_=>by simp [D.e8]
 | d::r,h=>by
  simp only [D.bG,Bool.and_eq_true]at h
  simp only [D.e8,DU n m d h.1,fw n m r h.2]
theorem zW (n m:Nat) : ∀ l,D.ik 0 0 l=true→D.gB n m l=l
 | [],_=>by simp [D.gB]
 | d::r,h=>by
  simp only [D.ik,Bool.and_eq_true]at h
  simp only [D.gB,fw n m d h.1,zW n m r h.2]
end
theorem fx {α:Type} {f:α→List D} (h : ∀ x,D.bG 0 0 (f x)=true) (l:List α):D.ik 0 0 (l.map f)=true:=by
 simp [zv,h]
theorem jo {α:Type} {f:α→List D} (h : ∀ x,D.bG 0 0 (f x)=true) (n m:Nat) (l:List α):D.gB n m (l.map f)=l.map f:=zW n m _ (fx h l)
theorem BF (n m:Nat) : ∀ a b,D.gB n m (a++b)=D.gB n m a++D.gB n m b
 | [],b=>by simp [D.gB]
 | x::a,b=>by simp [D.gB,BF n m a b]
abbrev ax:=List UInt8
structure lb where
 kind:Int
 text:ax
 n:Int
 pos:Int
deriving DecidableEq
structure Ex where
 op:Int
 n:Int
 name:ax
 kids:List Ex
structure Ar where
 ref:Bool
 name:ax
 x:Ex
structure Sm where
 id:Int
 kind:Int
 labels:List ax
 name:ax
 proc:ax
 x:Ex
 has:Bool
 args:List Ar
 bf:List Sm
 bb:List Sm
structure Pm where
 name:ax
 ref:Bool
structure Pc where
 name:ax
 params:List Pm
 vars:List ax
 body:List Sm
 fin:List ax
structure Pg where
 globals:List ax
 procs:List Pc
def ma:Ex:=⟨0,0,[],[]⟩
def Tk:Ar:=⟨false,[],ma⟩
def JV:Sm:=⟨0,0,[],[],[],ma,false,[],[],[]⟩
def MG:Pg:=⟨[],[]⟩
def encStr (s:ax):List D:= [.str s]
def fW (t:lb):List D:= [.int .i64 t.kind, .str t.text, .int .i64 t.n, .int .i64 t.pos]
def sl (z:Nat) (rows:List (List D)):D:= .slice .shared z rows
mutual
def bu:Ex→List D
 | ⟨op,n,name,kids⟩=> [.int .i64 op, .int .i64 n, .str name, .slice .shared 4 (oV kids)]
def oV:List Ex→List (List D)
 | []=> []
 | x::l=>bu x::oV l
end
theorem xP : ∀ l,oV l=l.map bu
 | []=>by simp [oV]
 | x::l=>by simp [oV,xP l]
theorem fm (x:Ex):bu x = [.int .i64 x.op, .int .i64 x.n, .str x.name, .slice .shared 4 (x.kids.map bu)]:=by
 cases x;simp [bu,xP]
def dm (a:Ar):List D:= [.bool a.ref, .str a.name, .int .i64 a.x.op, .int .i64 a.x.n, .str a.x.name, .slice .shared 4 (a.x.kids.map bu)]
mutual
def bl:Sm→List D
 | ⟨id,kind,labels,name,proc,x,has,args,bf,bb⟩=> [.int .i64 id, .int .i64 kind, .slice .shared 1 (labels.map encStr), .str name, .str proc,
  .int .i64 x.op, .int .i64 x.n, .str x.name, .slice .shared 4 (x.kids.map bu), .bool has, .slice .shared 6 (args.map dm), .slice .shared 13 (nS bf), .slice .shared 13 (nS bb)]
def nS:List Sm→List (List D)
 | []=> []
 | x::l=>bl x::nS l
end
theorem xQ : ∀ l,nS l=l.map bl
 | []=>by simp [nS]
 | x::l=>by simp [nS,xQ l]
theorem cR (s:Sm):bl s = [.int .i64 s.id, .int .i64 s.kind, .slice .shared 1 (s.labels.map encStr), .str s.name, .str s.proc,
 .int .i64 s.x.op, .int .i64 s.x.n, .str s.x.name, .slice .shared 4 (s.x.kids.map bu), .bool s.has, .slice .shared 6 (s.args.map dm), .slice .shared 13 (s.bf.map bl), .slice .shared 13 (s.bb.map bl)]:=by
 cases s;simp [bl,xQ]
def fR (p:Pm):List D:= [.str p.name, .bool p.ref]
def bP (p:Pc):List D:= [.str p.name, .slice .shared 2 (p.params.map fR), .slice .shared 1 (p.vars.map encStr), .slice .shared 13 (p.body.map bl), .slice .shared 1 (p.fin.map encStr)]
def b7 (p:Pg):List D:= [.slice .shared 1 (p.globals.map encStr), .slice .shared 5 (p.procs.map bP)]
theorem MH (x:lb):(fW x).length=4:=nd rfl
theorem Lg (x:lb):List.take 4 (fW x)=fW x:=nd rfl
theorem Lh (x:lb):List.drop 4 (fW x) = []:=nd rfl
theorem FN (x:lb):(fW x)[0]? = some (.int .i64 x.kind):=nd rfl
theorem FO (x:lb):(fW x)[1]? = some (.str x.text):=nd rfl
theorem FP (x:lb):(fW x)[2]? = some (.int .i64 x.n):=nd rfl
theorem FQ (x:lb):(fW x)[3]? = some (.int .i64 x.pos):=nd rfl
theorem Pl (vT:Int) (JW:ax) (n_:Int) (MJ:Int):fW ⟨vT,JW,n_,MJ⟩ = [.int .i64 vT, .str JW, .int .i64 n_, .int .i64 MJ]:=by simp only [fW]
theorem JX (x:Ex):(bu x).length=4:=by simp only [fm];rfl
theorem MK (x:Ex):List.take 4 (bu x)=bu x:=by simp only [fm];rfl
theorem MM (x:Ex):List.drop 4 (bu x) = []:=by simp only [fm];rfl
theorem H4 (x:Ex):(bu x)[0]? = some (.int .i64 x.op):=by simp only [fm];rfl
theorem H5 (x:Ex):(bu x)[1]? = some (.int .i64 x.n):=by simp only [fm];rfl
theorem H6 (x:Ex):(bu x)[2]? = some (.str x.name):=by simp only [fm];rfl
theorem H7 (x:Ex):(bu x)[3]? = some (.slice .shared 4 (x.kids.map bu)):=by simp only [fm];rfl
theorem RL (QJ:Int) (n_:Int) (kj:ax) (JY:List Ex):bu ⟨QJ,n_,kj,JY⟩ = [.int .i64 QJ, .int .i64 n_, .str kj, .slice .shared 4 (JY.map bu)]:=by simp only [fm]
theorem Pn (x:Ar):(dm x).length=6:=nd rfl
theorem MN (x:Ar):List.take 6 (dm x)=dm x:=nd rfl
theorem MO (x:Ar):List.drop 6 (dm x) = []:=nd rfl
theorem H8 (x:Ar):(dm x)[0]? = some (.bool x.ref):=nd rfl
theorem H9 (x:Ar):(dm x)[1]? = some (.str x.name):=nd rfl
theorem Ia (x:Ar):(dm x)[2]? = some (.int .i64 x.x.op):=nd rfl
theorem Ib (x:Ar):(dm x)[3]? = some (.int .i64 x.x.n):=nd rfl
theorem Ic (x:Ar):(dm x)[4]? = some (.str x.x.name):=nd rfl
theorem Ie (x:Ar):(dm x)[5]? = some (.slice .shared 4 (x.x.kids.map bu)):=nd rfl
theorem Ig (x:Ar):List.take 4 (List.drop 2 (dm x))=bu x.x:=by simp only [dm,fm];rfl
theorem RM (zX:Bool) (kj:ax) (x_:Ex):dm ⟨zX,kj,x_⟩ = [.bool zX, .str kj, .int .i64 x_.op, .int .i64 x_.n, .str x_.name, .slice .shared 4 (x_.kids.map bu)]:=by simp only [dm]
theorem yM (x:Sm):(bl x).length=13:=by simp only [cR];rfl
theorem MP (x:Sm):List.take 13 (bl x)=bl x:=by simp only [cR];rfl
theorem MQ (x:Sm):List.drop 13 (bl x) = []:=by simp only [cR];rfl
theorem Ih (x:Sm):(bl x)[0]? = some (.int .i64 x.id):=by simp only [cR];rfl
theorem Ii (x:Sm):(bl x)[1]? = some (.int .i64 x.kind):=by simp only [cR];rfl
theorem Ij (x:Sm):(bl x)[2]? = some (.slice .shared 1 (x.labels.map encStr)):=by simp only [cR];rfl
theorem Ik (x:Sm):(bl x)[3]? = some (.str x.name):=by simp only [cR];rfl
theorem Il (x:Sm):(bl x)[4]? = some (.str x.proc):=by simp only [cR];rfl
theorem Io (x:Sm):(bl x)[5]? = some (.int .i64 x.x.op):=by simp only [cR];rfl
theorem Ip (x:Sm):(bl x)[6]? = some (.int .i64 x.x.n):=by simp only [cR];rfl
theorem Iq (x:Sm):(bl x)[7]? = some (.str x.x.name):=by simp only [cR];rfl
theorem Ir (x:Sm):(bl x)[8]? = some (.slice .shared 4 (x.x.kids.map bu)):=by simp only [cR];rfl
theorem Is (x:Sm):(bl x)[9]? = some (.bool x.has):=by simp only [cR];rfl
theorem FR (x:Sm):(bl x)[10]? = some (.slice .shared 6 (x.args.map dm)):=by simp only [cR];rfl
theorem FT (x:Sm):(bl x)[11]? = some (.slice .shared 13 (x.bf.map bl)):=by simp only [cR];rfl
theorem FU (x:Sm):(bl x)[12]? = some (.slice .shared 13 (x.bb.map bl)):=by simp only [cR];rfl
theorem Iu (x:Sm):List.take 4 (List.drop 5 (bl x))=bu x.x:=by simp only [cR,fm];rfl
theorem RN (QK:Int) (vT:Int) (BG:List ax) (kj:ax) (JZ:ax) (x_:Ex) (MR:Bool) (J0:List Ar) (MS:List Sm) (MT:List Sm):bl ⟨QK,vT,BG,kj,JZ,x_,MR,J0,MS,MT⟩ = [.int .i64 QK, .int .i64 vT, .slice .shared 1 (BG.map encStr), .str kj, .str JZ, .int .i64 x_.op, .int .i64 x_.n, .str x_.name, .slice .shared 4 (x_.kids.map bu), .bool MR, .slice .shared 6 (J0.map dm), .slice .shared 13 (MS.map bl), .slice .shared 13 (MT.map bl)]:=by simp only [cR]
theorem Po (x:Pm):(fR x).length=2:=nd rfl
theorem MU (x:Pm):List.take 2 (fR x)=fR x:=nd rfl
theorem MV (x:Pm):List.drop 2 (fR x) = []:=nd rfl
theorem Iv (x:Pm):(fR x)[0]? = some (.str x.name):=nd rfl
theorem Iw (x:Pm):(fR x)[1]? = some (.bool x.ref):=nd rfl
theorem RO (kj:ax) (zX:Bool):fR ⟨kj,zX⟩ = [.str kj, .bool zX]:=by simp only [fR]
theorem Pp (x:Pc):(bP x).length=5:=nd rfl
theorem MW (x:Pc):List.take 5 (bP x)=bP x:=nd rfl
theorem MX (x:Pc):List.drop 5 (bP x) = []:=nd rfl
theorem Ix (x:Pc):(bP x)[0]? = some (.str x.name):=nd rfl
theorem Iy (x:Pc):(bP x)[1]? = some (.slice .shared 2 (x.params.map fR)):=nd rfl
theorem Iz (x:Pc):(bP x)[2]? = some (.slice .shared 1 (x.vars.map encStr)):=nd rfl
theorem IA (x:Pc):(bP x)[3]? = some (.slice .shared 13 (x.body.map bl)):=nd rfl
theorem IB (x:Pc):(bP x)[4]? = some (.slice .shared 1 (x.fin.map encStr)):=nd rfl
theorem RP (kj:ax) (BH:List Pm) (J1:List ax) (J2:List Sm) (MY:List ax):bP ⟨kj,BH,J1,J2,MY⟩ = [.str kj, .slice .shared 2 (BH.map fR), .slice .shared 1 (J1.map encStr), .slice .shared 13 (J2.map bl), .slice .shared 1 (MY.map encStr)]:=by simp only [bP]
theorem Pq (x:Pg):(b7 x).length=2:=nd rfl
theorem MZ (x:Pg):List.take 2 (b7 x)=b7 x:=nd rfl
theorem M3 (x:Pg):List.drop 2 (b7 x) = []:=nd rfl
theorem IC (x:Pg):(b7 x)[0]? = some (.slice .shared 1 (x.globals.map encStr)):=nd rfl
theorem ID (x:Pg):(b7 x)[1]? = some (.slice .shared 5 (x.procs.map bP)):=nd rfl
theorem RQ (zY:List ax) (FV:List Pc):b7 ⟨zY,FV⟩ = [.slice .shared 1 (zY.map encStr), .slice .shared 5 (FV.map bP)]:=by simp only [b7]
attribute [go_sem] MH Lg Lh FN FO FP FQ Pl JX MK MM H4 H5 H6 H7 RL Pn MN MO H8 H9 Ia Ib Ic Ie Ig RM yM MP MQ Ih Ii Ij Ik Il Io Ip Iq Ir Is FR FT FU Iu RN Po MU MV Iv Iw RO Pp MW MX Ix Iy Iz IA IB RP Pq MZ M3 IC ID RQ
theorem vU (s:ax):D.bG 0 0 (encStr s)=true:=rfl
theorem J3 (t:lb):D.bG 0 0 (fW t)=true:=rfl
mutual
theorem kc : ∀ x,D.bG 0 0 (bu x)=true
 | ⟨op,n,name,kids⟩=>by simp [bu,D.bG,D.ok,Tag.ok,J4 kids]
theorem J4 : ∀ l,D.ik 0 0 (oV l)=true
 | []=>rfl
 | x::l=>by simp [oV,D.ik,kc x,J4 l]
end
theorem DV (a:Ar):D.bG 0 0 (dm a)=true:=by simp [dm,D.bG,D.ok,Tag.ok,fx kc]
mutual
theorem qp : ∀ x,D.bG 0 0 (bl x)=true
 | ⟨id,kind,labels,name,proc,x,has,args,bf,bb⟩=>by simp [bl,D.bG,D.ok,Tag.ok,DW bf,DW bb,fx vU,fx kc,fx DV]
theorem DW : ∀ l,D.ik 0 0 (nS l)=true
 | []=>rfl
 | x::l=>by simp [nS,D.ik,qp x,DW l]
end
theorem IE (p:Pm):D.bG 0 0 (fR p)=true:=rfl
theorem uV (p:Pc):D.bG 0 0 (bP p)=true:=by simp [bP,D.bG,D.ok,Tag.ok,fx IE,fx vU,fx qp]
theorem lG (p:Pg):D.bG 0 0 (b7 p)=true:=by simp [b7,D.bG,D.ok,Tag.ok,fx vU,fx uV]
theorem M4 (n m:Nat) (x:lb):D.e8 n m (fW x)=fW x:=fw n m _ (J3 x)
theorem Pr (n m:Nat) (x:Ex):D.e8 n m (bu x)=bu x:=fw n m _ (kc x)
theorem Ps (n m:Nat) (x:Ar):D.e8 n m (dm x)=dm x:=fw n m _ (DV x)
theorem Pt (n m:Nat) (x:Sm):D.e8 n m (bl x)=bl x:=fw n m _ (qp x)
theorem Pu (n m:Nat) (x:Pm):D.e8 n m (fR x)=fR x:=fw n m _ (IE x)
theorem Pv (n m:Nat) (x:Pc):D.e8 n m (bP x)=bP x:=fw n m _ (uV x)
theorem Pw (n m:Nat) (x:Pg):D.e8 n m (b7 x)=b7 x:=fw n m _ (lG x)
attribute [go_sem] M4 Pr Ps Pt Pu Pv Pw
theorem er (l:List ax):D.ik 0 0 (l.map encStr)=true:=fx vU l
theorem J5 (l:List Ex):D.ik 0 0 (l.map bu)=true:=fx kc l
theorem DX (l:List Ar):D.ik 0 0 (l.map dm)=true:=fx DV l
theorem rq (l:List Sm):D.ik 0 0 (l.map bl)=true:=fx qp l
theorem yN (l:List Pc):D.ik 0 0 (l.map bP)=true:=fx uV l
theorem FW (n m:Nat) (l:List ax):D.gB n m (l.map encStr)=l.map encStr:=jo vU n m l
theorem M5 (n m:Nat) (l:List lb):D.gB n m (l.map fW)=l.map fW:=jo J3 n m l
theorem Px (n m:Nat) (l:List Ex):D.gB n m (l.map bu)=l.map bu:=jo kc n m l
theorem Py (n m:Nat) (l:List Ar):D.gB n m (l.map dm)=l.map dm:=jo DV n m l
theorem Pz (n m:Nat) (l:List Sm):D.gB n m (l.map bl)=l.map bl:=jo qp n m l
theorem PA (n m:Nat) (l:List Pm):D.gB n m (l.map fR)=l.map fR:=jo IE n m l
theorem J6 (n m:Nat) (l:List Pc):D.gB n m (l.map bP)=l.map bP:=jo uV n m l
theorem M6 (x:Ex) (r:List D):bu x++r = .int .i64 x.op:: .int .i64 x.n:: .str x.name:: .slice .shared 4 (x.kids.map bu)::r:=by rw [fm];rfl
theorem Li (d:D) (x:Ex):d::bu x = [d, .int .i64 x.op, .int .i64 x.n, .str x.name, .slice .shared 4 (x.kids.map bu)]:=by rw [fm]
attribute [go_sem] M6 Li
theorem PB:((0:Nat):Int)=0:=nd rfl
theorem PC:((1:Nat):Int)=1:=nd rfl
theorem PD:((2:Nat):Int)=2:=nd rfl
attribute [go_sem] PB PC PD BF List.length_append List.map_append encStr ma Tk JV MG FW M5 Px Py Pz PA J6
theorem mx (a b:Nat):(if(b:Int) > (a:Int)then(b:Int)else(a:Int))=((max a b:Nat):Int):=by split <;> omega
theorem dg {x:Int} (h1 : -9223372036854775808≤x) (h2:x<9223372036854775808):IntKind.wrap .i64 x=x:=by
 rw [IntKind.wrap_i64];omega
@[go_sem] theorem aQ {n:Nat} (h:n<4611686018427387904):IntKind.wrap .i64 ((n:Int)+1)=((n+1:Nat):Int):=by
 rw [dg] <;> omega
def inc (n:Nat):Option Nat:=if n<4611686018427387904 then some (n+1)else none
def RR (n:Int):Option Int:=if -4611686018427387904<n∧n<4611686018427387904 then some (n+1)else none
@[go_sem] theorem QL {n:Nat} (h:n+1<4611686018427387904):IntKind.wrap .i64 ((n:Int)+1)=((n+1:Nat):Int):=by
 rw [dg] <;> omega
@[go_sem] theorem QM {n:Nat} (h:n<4611686018427387904):IntKind.wrap .i64 ((n:Int)+2)=((n+2:Nat):Int):=by
 rw [dg] <;> omega
def M7 {α:Type} (l:List α) (i:Nat):Option α:=if i<4611686018427387904 then l[i]? else none
def push {α:Type} (k:Nat) (l:List α) (x:α):Option (List α):=if(l.length+1)*k≤bO then some (l++ [x])else none
end Go.Abs

/-! Mir -/

namespace Go.Abs
mutual
def Ex.size:Ex→Nat
 | ⟨_,_,_,kids⟩=>1+Ex.aT kids
def Ex.aT:List Ex→Nat
 | []=>0
 | x::l=>1+x.size+Ex.aT l
end
mutual
def Ex.depth:Ex→Nat
 | ⟨_,_,_,kids⟩=>Ex.ld kids+1
def Ex.ld:List Ex→Nat
 | []=>0
 | x::l=>max x.depth (Ex.ld l)
end
def M8 (x:Ex):Option Int:=if x.size<4611686018427387904 then some (x.depth:Int)else none
theorem Ex.b8 {x:Ex} : ∀ {l:List Ex},x∈l→x.size<Ex.aT l
 | y::l,h=>by
  simp only [Ex.aT]
  rcases List.mem_cons.1 h with rfl | h
  ·omega
  ·have:=Ex.b8 h;omega
theorem Ex.dt : ∀ (l:List Ex),l.length≤Ex.aT l
 | []=>Nat.le_refl _
 | x::l=>by simp only [Ex.aT,List.length_cons];have:=Ex.dt l;omega
def DY (t:lb):Int×Int:=
 if t.kind != 4 then(0,0)
 else if t.text == [124,124]then(17,1)
 else if t.text == [38,38]then(16,2)
 else if t.text == [61,61]then(14,3)
 else if t.text == [33,61]then(15,3)
 else if t.text == [60]then(10,4)
 else if t.text == [60,61]then(11,4)
 else if t.text == [62]then(12,4)
 else if t.text == [62,61]then(13,4)
 else if t.text == [43]then(8,5)
 else if t.text == [45]then(9,5)
 else if t.text == [42]then(5,6)
 else if t.text == [47]then(6,6)
 else if t.text == [37]then(7,6)
 else(0,0)
structure Rd where
 l:List lb
 i:Nat
 code:Int
 zZ:Int
 n:Nat
abbrev Rd.good (r:Rd):Bool:=r.code==0
def Rd.oW (r:Rd):Option lb:=(M7 r.l r.i).bind fun t=>if decide (0≤t.kind) && decide (t.kind≤4)then some t else none
def Rd.bad (c:Int) (r:Rd):Option Rd:=if r.good then r.oW.bind fun t=>some {r with code:=c,zZ:=t.pos}else some r
def Rd.is (text:ax) (r:Rd):Option Bool:=r.oW.bind fun t=>some ((t.kind==3 || t.kind==4) && t.text==text)
def Rd.take (text:ax) (r:Rd):Option (Bool×Rd):=
 if !r.good then some (false,r)else(r.is text).bind fun b=>if !b then some (false,r)else some (true,{r with i:=r.i+1})
def Rd.want (text:ax) (r:Rd):Option Rd:=(r.take text).bind fun p=>if !p.1 then p.2.bad 3 else some p.2
def Rd.name (room:Bool) (r:Rd):Option (ax×Rd):=
 r.oW.bind fun t=>if !r.good || t.kind != 1 then(r.bad 3).bind fun r=>some ([],r)else if !room then(r.bad 4).bind fun r=>some ([],r)else some (t.text,{r with i:=r.i+1})
def Rd.on (r:Rd):Rd:= {r with i:=r.i+1}
mutual
def Rd.one:Nat→Rd→Option (Ex×Rd)
 | 0,_=>none
 | n+1,r=>r.oW.bind fun t=>
  if !r.good then some (ma,r)
  else if t.kind==2 then some (⟨1,t.n,[],[]⟩,{r with i:=r.i+1})
  else if t.kind==1 then some (⟨2,0,t.text,[]⟩,{r with i:=r.i+1})
  else(r.take [40]).bind fun p=>
   if p.1 then(Rd.two n 1 p.2).bind fun x=>(x.2.want [41]).bind fun r=>some (x.1,r)
   else(p.2.take [45]).bind fun p=>
    if p.1 then(Rd.one n p.2).bind fun x=>some (⟨3,0,[],[x.1]⟩,x.2)
    else(p.2.take [33]).bind fun p=>
     if p.1 then(Rd.one n p.2).bind fun x=>some (⟨4,0,[],[x.1]⟩,x.2)
     else(p.2.bad 3).bind fun r=>some (ma,r)
def Rd.two:Nat→Int→Rd→Option (Ex×Rd)
 | 0,_,_=>none
 | n+1,least,r=>(Rd.one n r).bind fun x=>Rd.M9 n least x.1 x.2
def Rd.M9:Nat→Int→Ex→Rd→Option (Ex×Rd)
 | 0,_,_,_=>none
 | n+1,least,x,r=>
  if r.good then r.oW.bind fun t=>
   if decide ((DY t).2<least) || (DY t).1==0 then some (x,r)
   else(Rd.two n ((DY t).2+1) {r with i:=r.i+1}).bind fun y=>Rd.M9 n least ⟨(DY t).1,0,[],[x,y.1]⟩ y.2
  else some (x,r)
end
def Rd.whole (n:Nat) (r:Rd):Option (Ex×Rd):=
 r.oW.bind fun t=>(Rd.two n 1 r).bind fun x=>
  if x.2.good then(M8 x.1).bind fun d=>if decide (d > 20)then some (x.1,{x.2 with code:=4,zZ:=t.pos})else some (x.1,x.2)
  else some (x.1,x.2)
def Rd.names:Nat→List ax→Int→Rd→Option (List ax×Rd)
 | 0,_,_,_=>none
 | n+1,l,Na,r=>
  if r.good then(r.name (decide ((l.length:Int)<Na))).bind fun p=>(push 17 l p.1).bind fun l=>(p.2.take [44]).bind fun q=>
   if !q.1 then(q.2.want [59]).bind fun r=>some (l,r)else Rd.names n l Na q.2
  else some (l,r)
def Rd.ahead (sign:ax) (r:Rd):Option Bool:=
 if r.good then r.oW.bind fun t=>if t.kind==1 then(M7 r.l (r.i+1)).bind fun u=>some (u.kind==4 && u.text==sign)else some false
 else some false
def Rd.labels:Nat→List ax→Rd→Option (List ax×Rd)
 | 0,_,_=>none
 | n+1,l,r=>(r.ahead [58]).bind fun b=>if b then r.oW.bind fun t=>(push 17 l t.text).bind fun l=>Rd.labels n l {r with i:=r.i+2}else some (l,r)
def Rd.Nb (r:Rd):Option Bool:=
 r.oW.bind fun t=>some (if t.kind==1 then true else if t.kind != 3 then false
  else t.text == [105,102] || t.text == [119,104,105,108,101] || t.text == [98,114,101,97,107] || t.text == [99,111,110,116,105,110,117,101] || t.text == [114,101,116,117,114,110] || t.text == [103,111,116,111] || t.text == [114,101,97,100] || t.text == [112,114,105,110,116])
def Rd.DZ (m:Nat):Nat→List Ar→Rd→Option (List Ar×Rd)
 | 0,_,_=>none
 | n+1,l,r=>
  if r.good then(r.take [114,101,102]).bind fun p=>
   if p.1 then(p.2.name true).bind fun x=>(push 81 l ⟨true,x.1,ma⟩).bind fun l=>(x.2.take [44]).bind fun c=>if !c.1 then some (l,c.2)else Rd.DZ m n l c.2
   else(Rd.whole m p.2).bind fun x=>(push 81 l ⟨false,[],x.1⟩).bind fun l=>(x.2.take [44]).bind fun c=>if !c.1 then some (l,c.2)else Rd.DZ m n l c.2
  else some (l,r)
def Rd.other (sign:ax) (r:Rd):Option Bool:=if r.good then(r.is sign).bind fun b=>some !b else some false
def Rd.call (m:Nat) (name proc:ax) (r:Rd):Option (Sm×Rd):=
 (r.want [40]).bind fun r=>(r.other [41]).bind fun b=>
  if b then(Rd.DZ m m [] r).bind fun q=>(q.2.want [41]).bind fun r=>(r.want [59]).bind fun r=>some (⟨0,4,[],name,proc,ma,false,q.1,[],[]⟩,r)
  else(r.want [41]).bind fun r=>(r.want [59]).bind fun r=>some (⟨0,4,[],name,proc,ma,false,[],[],[]⟩,r)
def Rd.named (m:Nat) (r:Rd):Option (Sm×Rd):=
 (r.name true).bind fun x=>(x.2.is [40]).bind fun b=>
  if b then Rd.call m [] x.1 x.2
  else(x.2.want [61]).bind fun r=>(r.ahead [40]).bind fun b=>
   if b then(r.name true).bind fun y=>Rd.call m x.1 y.1 y.2
   else(Rd.whole m r).bind fun y=>(y.2.want [59]).bind fun r=>some (⟨0,1,[],x.1,[],y.1,false,[],[],[]⟩,r)
def Rd.plain (m:Nat) (word:ax) (r:Rd):Option (Sm×Rd):=
 if word == [98,114,101,97,107]then some (⟨0,7,[],[],[],ma,false,[],[],[]⟩,r)
 else if word == [99,111,110,116,105,110,117,101]then some (⟨0,8,[],[],[],ma,false,[],[],[]⟩,r)
 else if word == [114,101,116,117,114,110]then(r.is [59]).bind fun b=>
  if !b then(Rd.whole m r).bind fun x=>some (⟨0,9,[],[],[],x.1,true,[],[],[]⟩,x.2)else some (⟨0,9,[],[],[],ma,false,[],[],[]⟩,r)
 else if word == [103,111,116,111]then(r.name true).bind fun x=>some (⟨0,10,[],x.1,[],ma,false,[],[],[]⟩,x.2)
 else if word == [114,101,97,100]then(r.name true).bind fun x=>some (⟨0,2,[],x.1,[],ma,false,[],[],[]⟩,x.2)
 else if word == [112,114,105,110,116]then(Rd.whole m r).bind fun x=>some (⟨0,3,[],[],[],x.1,false,[],[],[]⟩,x.2)
 else some (JV,r)
def Rd.head (m:Nat) (r:Rd):Option (Ex×Rd):=(r.want [40]).bind fun r=>(Rd.whole m r).bind fun x=>(x.2.want [41]).bind fun r=>some (x.1,r)
mutual
def Rd.rows (m:Nat):Nat→Int→Bool→Rd→Option ((List Sm×List ax)×Rd)
 | 0,_,_,_=>none
 | n+1,nest,body,r=>Rd.J7 m n nest body [] r
def Rd.J7 (m:Nat):Nat→Int→Bool→List Sm→Rd→Option ((List Sm×List ax)×Rd)
 | 0,_,_,_,_=>none
 | n+1,nest,body,out,r=>
  if r.good then(Rd.labels m [] r).bind fun l=>(l.2.is [125]).bind fun b=>
   if b && (body || (l.1.length:Int)==0)then some ((out,l.1),{l.2 with i:=l.2.i+1})
   else(Rd.stmt m n nest l.2).bind fun s=>(push 209 out {s.1 with labels:=l.1}).bind fun out=>Rd.J7 m n nest body out s.2
  else some (([],[]),r)
def Rd.stmt (m:Nat):Nat→Int→Rd→Option (Sm×Rd)
 | 0,_,_=>none
 | n+1,nest,r=>r.Nb.bind fun b=>
  if !b then(r.bad 3).bind fun r=>some (JV,r)
  else(inc r.n).bind fun k=>
   if decide ((k:Int) > 200) || decide (nest > 12)then(({r with n:=k} : Rd).bad 4).bind fun r=>some (JV,r)
   else({r with n:=k} : Rd).oW.bind fun t=>
    if t.kind==1 then Rd.named m {r with n:=k}
    else if t.text == [105,102]then Rd.choice m n nest {r with n:=k,i:=r.i+1}
    else if t.text == [119,104,105,108,101]then(Rd.head m {r with n:=k,i:=r.i+1}).bind fun x=>(Rd.block m n nest x.2).bind fun b=>some (⟨0,6,[],[],[],x.1,false,[],b.1,[]⟩,b.2)
    else(Rd.plain m t.text {r with n:=k,i:=r.i+1}).bind fun s=>(s.2.want [59]).bind fun r=>some (s.1,r)
def Rd.block (m:Nat):Nat→Int→Rd→Option (List Sm×Rd)
 | 0,_,_=>none
 | n+1,nest,r=>(r.want [123]).bind fun r=>(RR nest).bind fun k=>(Rd.rows m n k false r).bind fun p=>some (p.1.1,p.2)
def Rd.choice (m:Nat):Nat→Int→Rd→Option (Sm×Rd)
 | 0,_,_=>none
 | n+1,nest,r=>(Rd.head m r).bind fun x=>(Rd.block m n nest x.2).bind fun t=>(t.2.take [101,108,115,101]).bind fun q=>
  if q.1 then(Rd.block m n nest q.2).bind fun e=>some (⟨0,5,[],[],[],x.1,false,[],t.1,e.1⟩,e.2)
  else some (⟨0,5,[],[],[],x.1,false,[],t.1,[]⟩,q.2)
end
def Rd.params:Nat→List Pm→Rd→Option (List Pm×Rd)
 | 0,_,_=>none
 | n+1,l,r=>
  if r.good then(r.take [114,101,102]).bind fun q=>(q.2.name (decide ((l.length:Int)<8))).bind fun x=>(push 25 l ⟨x.1,q.1⟩).bind fun l=>(x.2.take [44]).bind fun c=>
   if !c.1 then some (l,c.2)else Rd.params n l c.2
  else some (l,r)
def Rd.vars (m:Nat):Nat→List ax→Rd→Option (List ax×Rd)
 | 0,_,_=>none
 | n+1,l,r=>(r.take [118,97,114]).bind fun q=>if q.1 then(Rd.names m l 16 q.2).bind fun x=>Rd.vars m n x.1 x.2 else some (l,q.2)
def Rd.J8 (m:Nat) (name:ax) (ps:List Pm) (r:Rd):Option (Pc×Rd):=
 (Rd.vars m m [] r).bind fun v=>(Rd.rows m m 1 true v.2).bind fun b=>some (⟨name,ps,v.1,b.1.1,b.1.2⟩,b.2)
def Rd.proc (m:Nat) (r:Rd):Option (Pc×Rd):=
 (r.name true).bind fun x=>(x.2.want [40]).bind fun r=>(r.other [41]).bind fun b=>
  if b then(Rd.params m [] r).bind fun q=>(q.2.want [41]).bind fun r=>(r.want [123]).bind fun r=>Rd.J8 m x.1 q.1 r
  else(r.want [41]).bind fun r=>(r.want [123]).bind fun r=>Rd.J8 m x.1 [] r
def Rd.globals (m:Nat):Nat→List ax→Rd→Option (List ax×Rd)
 | 0,_,_=>none
 | n+1,l,r=>(r.take [103,108,111,98,97,108]).bind fun q=>if q.1 then(Rd.names m l 16 q.2).bind fun x=>Rd.globals m n x.1 x.2 else some (l,q.2)
def Rd.Nc (r:Rd):Option Bool:=if r.good then r.is [112,114,111,99]else some false
def Rd.FX (r:Rd):Option Bool:=if r.good then r.oW.bind fun t=>some (t.kind != 0)else some false
def Rd.procs (m:Nat):Nat→List Pc→Rd→Option (List Pc×Rd)
 | 0,_,_=>none
 | n+1,l,r=>r.Nc.bind fun b=>
  if b then
   if(l.length:Int)==16 then(r.bad 4).bind fun r=>some (l,r)
   else(Rd.proc m {r with i:=r.i+1}).bind fun x=>(push 113 l x.1).bind fun l=>Rd.procs m n l x.2
  else r.FX.bind fun b=>if b then(r.bad 3).bind fun r=>some (l,r)else some (l,r)
def Rd.program (m:Nat) (r:Rd):Option (Pg×Rd):=(Rd.globals m m [] r).bind fun g=>(Rd.procs m m [] g.2).bind fun q=>some (⟨g.1,q.1⟩,q.2)
mutual
def Ex.beq:Ex→Ex→Bool
 | ⟨op,n,name,kids⟩,⟨Tl,n',D0,J9⟩=>if op != Tl || n != n' || !(name==D0) || (kids.length:Int) != (J9.length:Int)then false else Ex.kT kids J9
def Ex.kT:List Ex→List Ex→Bool
 | [],_=>true
 | _::_,[]=>true
 | x::l,y::l'=>if !Ex.beq x y then false else Ex.kT l l'
end
end Go.Abs

/-! MirTree -/

namespace Go.Abs
def Ar.aT:List Ar→Nat
 | []=>0
 | a::l=>1+a.x.size+Ar.aT l
mutual
def Sm.size:Sm→Nat
 | ⟨_,_,labels,_,_,x,_,args,bf,bb⟩=>1+labels.length+x.size+Ar.aT args+Sm.aT bf+Sm.aT bb
def Sm.aT:List Sm→Nat
 | []=>0
 | s::l=>1+s.size+Sm.aT l
end
def Pc.size (f:Pc):Nat:=1+f.params.length+f.vars.length+f.fin.length+Sm.aT f.body
def Pc.aT:List Pc→Nat
 | []=>0
 | f::l=>1+f.size+Pc.aT l
def Pg.size (p:Pg):Nat:=1+p.globals.length+Pc.aT p.procs
mutual
def Sm.num (b:Bool) (n:Nat):Sm→Sm×Nat
 | ⟨id,kind,labels,name,proc,x,has,args,bf,bb⟩=>
  (⟨if b then((n+1:Nat):Int)else id,kind,labels,name,proc,x,has,args,(Sm.n9 b (n+1) bf).1,(Sm.n9 b (Sm.n9 b (n+1) bf).2 bb).1⟩,(Sm.n9 b (Sm.n9 b (n+1) bf).2 bb).2)
def Sm.n9 (b:Bool) (n:Nat):List Sm→List Sm×Nat
 | []=>([],n)
 | s::l=>((Sm.num b n s).1::(Sm.n9 b (Sm.num b n s).2 l).1,(Sm.n9 b (Sm.num b n s).2 l).2)
end
def Pc.n9 (n:Nat):List Pc→List Pc
 | []=> []
 | f::l=> {f with body:=(Sm.n9 true n f.body).1}::Pc.n9 (Sm.n9 true n f.body).2 l
def Pg.number (p:Pg):Pg:= {p with procs:=Pc.n9 0 p.procs}
def Pg.Lj (p:Pg):Option Pg:=if p.size<1073741824 then some p.number else none
theorem Sm.dt : ∀ (l:List Sm),l.length≤Sm.aT l
 | []=>Nat.le_refl _
 | x::l=>by simp only [Sm.aT,List.length_cons];have:=Sm.dt l;omega
theorem Ar.dt : ∀ (l:List Ar),l.length≤Ar.aT l
 | []=>Nat.le_refl _
 | x::l=>by simp only [Ar.aT,List.length_cons];have:=Ar.dt l;omega
theorem Pc.dt : ∀ (l:List Pc),l.length≤Pc.aT l
 | []=>Nat.le_refl _
 | x::l=>by simp only [Pc.aT,List.length_cons];have:=Pc.dt l;omega
theorem Ar.b8 {x:Ar} : ∀ {l:List Ar},x∈l→x.x.size<Ar.aT l
 | y::l,h=>by
  simp only [Ar.aT]
  rcases List.mem_cons.1 h with rfl | h
  ·omega
  ·have:=Ar.b8 h;omega
theorem Sm.b8 {x:Sm} : ∀ {l:List Sm},x∈l→x.size<Sm.aT l
 | y::l,h=>by
  simp only [Sm.aT]
  rcases List.mem_cons.1 h with rfl | h
  ·omega
  ·have:=Sm.b8 h;omega
theorem Pc.b8 {x:Pc} : ∀ {l:List Pc},x∈l→x.size<Pc.aT l
 | y::l,h=>by
  simp only [Pc.aT]
  rcases List.mem_cons.1 h with rfl | h
  ·omega
  ·have:=Pc.b8 h;omega
end Go.Abs

/-! MirFlat -/

namespace Go.Abs
structure Im where
 s:Sm
 proc:Int
 up:Int
 next:Int
 loop:Int
mutual
def Sm.gf:Sm→Nat
 | ⟨_,_,_,_,_,_,_,_,bf,bb⟩=>1+Sm.fP bf+Sm.fP bb
def Sm.fP:List Sm→Nat
 | []=>0
 | s::l=>s.gf+Sm.fP l
end
mutual
def Im.one (proc up next loop:Int) (out:List Im):Sm→List Im
 | ⟨id,kind,labels,name,pc,x,has,args,bf,bb⟩=>
  Im.rows proc ((out.length:Int)+1) (if kind==6 then(out.length:Int)+1 else next) (if kind==6 then(out.length:Int)+1 else loop)
   (Im.rows proc ((out.length:Int)+1) (if kind==6 then(out.length:Int)+1 else next) (if kind==6 then(out.length:Int)+1 else loop) (out++ [⟨⟨id,kind,labels,name,pc,x,has,args,bf,bb⟩,proc,up,next,loop⟩]) bf) bb
def Im.rows (proc up next loop:Int) (out:List Im):List Sm→List Im
 | []=>out
 | s::l=>Im.rows proc up next loop (Im.one proc up (if l.length=0 then next else(out.length:Int)+1+(s.gf:Int)) loop out s) l
end
theorem Im.Nd (proc up next loop:Int) (out:List Im) (s:Sm):Im.one proc up next loop out s =
 Im.rows proc ((out.length:Int)+1) (if s.kind==6 then(out.length:Int)+1 else next) (if s.kind==6 then(out.length:Int)+1 else loop)
  (Im.rows proc ((out.length:Int)+1) (if s.kind==6 then(out.length:Int)+1 else next) (if s.kind==6 then(out.length:Int)+1 else loop) (out++ [⟨s,proc,up,next,loop⟩]) s.bf) s.bb:=by
 cases s;simp only [Im.one]
mutual
theorem Lk (proc up next loop:Int) (out:List Im) : ∀ s:Sm,(Im.one proc up next loop out s).length=out.length+s.gf
 | ⟨id,kind,labels,name,pc,x,has,args,bf,bb⟩=>by
  simp only [Im.one,Sm.gf]
  rw [eh,eh]
  simp only [List.length_append,List.length_cons,List.length_nil];omega
theorem eh (proc up next loop:Int) (out:List Im) : ∀ l:List Sm,(Im.rows proc up next loop out l).length=out.length+Sm.fP l
 | []=>rfl
 | s::l=>by
  simp only [Im.rows,Sm.fP]
  rw [eh,Lk];omega
end
mutual
theorem uW : ∀ s:Sm,s.gf≤s.size
 | ⟨_,_,labels,_,_,x,_,args,bf,bb⟩=>by
  have:=kB bf;have:=kB bb
  simp only [Sm.gf,Sm.size];omega
theorem kB : ∀ l:List Sm,Sm.fP l≤Sm.aT l
 | []=>Nat.le_refl _
 | s::l=>by
  have:=uW s;have:=kB l
  simp only [Sm.fP,Sm.aT];omega
end
structure Sh where
 L:List Im
 lo:List Int
 hi:List Int
def Sh.go (i:Nat) (h:Sh):List Pc→Sh
 | []=>h
 | f::l=>Sh.go (i+1) ⟨Im.rows i 0 (-1) 0 h.L f.body,h.lo++ [(h.L.length:Int)+1],h.hi++ [((Im.rows i 0 (-1) 0 h.L f.body).length:Int)+1]⟩ l
def Pg.eW (p:Pg):Sh:=Sh.go 0 ⟨[],[],[]⟩ p.procs
end Go.Abs

/-! Nums -/

namespace Go.Abs
def qT:Nat:=3
def FZ:Nat:=4
def G1:Nat:=5
def Es:Nat:=6
def mb:Nat:=7
def qq:Nat:=8
def lp:Nat:=9
def j7:Nat:=10
def oa:Nat:=11
def nT:Nat:=12
def oF:Nat:=13
def lq:Nat:=14
def iA:Nat:=15
def gp:Nat:=16
def LM:Nat:=17
def LN:Nat:=18
def LO:Nat:=19
def OH:Nat:=20
def PE:Nat:=21
def OI:Nat:=22
def PF:Nat:=23
def PG:Nat:=24
def qs:Nat:=25
def fJ:Nat:=26
def dW:Nat:=27
def gD:Nat:=28
def rr:Nat:=29
def fy:Nat:=30
def jX:Nat:=31
def jI:Nat:=32
def qt:Nat:=33
def dN:Nat:=34
def kl:Nat:=35
def bJ:Nat:=36
def iL:Nat:=37
def lr:Nat:=38
def jY:Nat:=39
def nB:Nat:=40
def lu:Nat:=41
def jf:Nat:=42
def mc:Nat:=43
def fG:Nat:=44
def fS:Nat:=45
def Nf:Nat:=46
def Ng:Nat:=47
def Ll:Nat:=48
def OM:Nat:=49
def Nh:Nat:=50
def PH:Nat:=51
def ON:Nat:=52
def me:Nat:=53
def gN:Nat:=54
def oG:Nat:=55
def ga:Nat:=56
def jq:Nat:=57
def jJ:Nat:=58
def gl:Nat:=59
def gb:Nat:=60
def gH:Nat:=61
def oX:Nat:=62
def ew:Nat:=63
def km:Nat:=64
def dS:Nat:=65
def ic:Nat:=66
def mf:Nat:=67
def vV:Nat:=68
def Ka:Nat:=69
def Ni:Nat:=70
def Nj:Nat:=71
def Lm:Nat:=72
def Bg:Nat:=73
def mg:Nat:=74
def s4:Nat:=75
def ry:Nat:=76
def oc:Nat:=77
def iV:Nat:=78
def kK:Nat:=79
def fi:Nat:=80
def s5:Nat:=81
def vk:Nat:=82
def s6:Nat:=83
def ub:Nat:=84
def tQ:Nat:=85
def qG:Nat:=86
def G2:Nat:=87
def sr:Nat:=88
def uX:Nat:=89
def G3:Nat:=90
def G4:Nat:=91
def Kb:Nat:=92
def qu:Nat:=93
def kC:Nat:=94
def mh:Nat:=95
def od:Nat:=96
def lf:Nat:=97
def vl:Nat:=98
def AL:Nat:=99
def Bh:Nat:=100
def su:Nat:=101
def wJ:Nat:=102
def F0:Nat:=103
def qv:Nat:=104
def qw:Nat:=105
def wK:Nat:=106
end Go.Abs

/-! Codes0 -/

namespace Go.Abs
abbrev AI.o (t:Nat) (a:AO):AI:= .op (some t) none a
abbrev AI.g (t c:Nat) (b:Bool) (a:AO):AI:= .op (some t) (some (c,b)) a
abbrev AI.c (t f:Nat) (l:List X):AI:= .call (some t) none f l
abbrev AI.d (t c:Nat) (b:Bool) (f:Nat) (l:List X):AI:= .call (some t) (some (c,b)) f l
abbrev AI.m (t:Nat) (x:X):AI:= .op (some t) none (.mv x)
abbrev bT:X:= .s 0
abbrev bB:X:= .s 1
abbrev dP:X:= .s 2
abbrev cV:X:= .s 3
abbrev fc:X:= .s 4
abbrev bW:X:= .s 5
abbrev de:X:= .s 6
abbrev cz:X:= .s 7
abbrev cG:X:= .s 8
abbrev dF:X:= .s 9
abbrev cP:X:= .s 10
abbrev dv:X:= .s 11
abbrev cL:X:= .s 12
abbrev dw:X:= .s 13
abbrev dq:X:= .s 14
abbrev dO:X:= .s 15
abbrev df:X:= .s 16
abbrev dQ:X:= .s 17
abbrev ei:X:= .s 18
abbrev fA:X:= .s 19
abbrev fB:X:= .s 20
abbrev fC:X:= .s 21
abbrev fH:X:= .s 22
abbrev fD:X:= .s 23
abbrev gv:X:= .s 24
abbrev gm:X:= .s 25
abbrev ix:X:= .s 26
abbrev hY:X:= .s 27
abbrev jr:X:= .s 28
abbrev iW:X:= .s 29
abbrev kd:X:= .s 30
abbrev jt:X:= .s 31
abbrev jK:X:= .s 32
abbrev jL:X:= .s 33
abbrev kU:X:= .s 34
abbrev kV:X:= .s 35
abbrev kW:X:= .s 36
abbrev lH:X:= .s 37
abbrev mZ:X:= .s 38
abbrev lI:X:= .s 39
abbrev oe:X:= .s 40
abbrev mj:X:= .s 41
abbrev og:X:= .s 42
abbrev oh:X:= .s 43
abbrev oi:X:= .s 44
abbrev oY:X:= .s 45
abbrev oZ:X:= .s 46
abbrev o3:X:= .s 47
abbrev o4:X:= .s 48
abbrev na:X:= .s 49
abbrev o5:X:= .s 50
abbrev lJ:X:= .s 51
abbrev o6:X:= .s 52
abbrev o7:X:= .s 53
abbrev o8:X:= .s 54
abbrev qx:X:= .s 55
abbrev qy:X:= .s 56
abbrev qz:X:= .s 57
abbrev qA:X:= .s 58
abbrev nc:X:= .s 59
abbrev rz:X:= .s 60
abbrev uY:X:= .s 61
abbrev s7:X:= .s 62
abbrev uZ:X:= .s 63
abbrev rA:X:= .s 64
abbrev u5:X:= .s 65
abbrev w5:X:= .s 66
abbrev u6:X:= .s 67
abbrev u7:X:= .s 68
abbrev w6:X:= .s 69
abbrev w7:X:= .s 70
abbrev D1:X:= .s 71
abbrev z1:X:= .s 72
abbrev D2:X:= .s 73
abbrev D3:X:= .s 74
abbrev D4:X:= .s 75
abbrev z6:X:= .s 76
abbrev D5:X:= .s 77
abbrev w8:X:= .s 78
abbrev IF:X:= .s 79
abbrev IG:X:= .s 80
abbrev II:X:= .s 81
abbrev Nk:X:= .s 82
abbrev Nl:X:= .s 83
abbrev Nn:X:= .s 84
abbrev No:X:= .s 85
abbrev Np:X:= .s 86
abbrev Nq:X:= .s 87
abbrev Nr:X:= .s 88
abbrev Ns:X:= .s 89
abbrev Nt:X:= .s 90
abbrev Nu:X:= .s 91
abbrev Nv:X:= .s 92
abbrev RS:X:= .s 93
abbrev RT:X:= .s 94
abbrev RU:X:= .s 95
abbrev Tn:AC:= .cond dw (.seq (.run [.o 6 (.mv (.k (.bool false)))]) .ret) .skip
abbrev To:AC:= .cond df (.seq (.run [.o 6 (.mv (.k (.bool true)))]) .ret) .skip
abbrev Tp:AC:= .cond fB (.seq (.run [.o 21 (.load cV true 2),(.c 22 j7 [fC,(.k (.str [109,97,105,110]))]), .o 23 (.len fH), .o 24 (.bin .eql fD (.k (.int .i64 0))), .m 6 gv]) .ret) .skip
abbrev Tq:AC:= .cond lI (.seq (.run [.o 6 (.mv (.k (.bool false)))]) .ret) .skip
abbrev Tr:AC:= .cond qA (.seq (.run [.o 6 (.mv (.k (.bool false)))]) .ret) .skip
abbrev Ts:AC:= .seq (.block 1 (.seq (.run [.o 53 (.cv na lJ 1), .o 54 (.load o7 false 1), .m 11 o8]) (.seq (.run [.m 55 cG, .m 56 dv, .c 57 nT [qx,qy], .o 58 (.un .not qz)]) Tr))) (.run [.o 59 (.bin .add lJ (.k (.int .i64 1))), .m 51 nc])
abbrev Tt:AC:= .block 0 (.loop (.seq (.run [.o 52 (.bin .lss lJ o5)]) (.seq (.cond o6 .skip (.exit 0)) Ts)))
abbrev Tv:AC:= .par [.o 60 (.load cV true 2), .m 61 dF, .c 62 j7 [rz,uY], .m 63 cG, .c 64 iA [s7,uZ], .m 65 rA, .g 66 65 true (.load cV true 2), .g 67 65 true (.mv dF), .d 68 65 true gp [w5,u6], .g 69 65 true (.load cV true 2), .g 70 65 true (.mv cz), .d 71 65 true gp [w6,w7], .d 72 65 true iA [u7,D1], .o 73 (.pick u5 z1 (.k (.bool false))), .m 74 D2, .g 75 74 true (.load cV true 2), .g 76 74 true (.mv cz), .d 77 74 true gp [D4,z6], .g 78 74 true (.aG cV 0), .g 79 74 true (.load w8 false 1), .d 80 74 true iA [D5,IF], .o 81 (.pick D3 IG (.k (.bool false))), .m 6 II] [(0,0),(1,0),(2,0),(3,0),(4,0),(5,0),(6,0),(7,0),(8,0),(9,1),(10,0),(11,0),(12,0),(13,0),(14,0),(15,0),(16,0),(17,0),(18,0),(19,1),(20,0),(21,0),(22,0)]
abbrev Tw:AC:= .seq (.seq (.run [.o 47 (.load cV true 2), .m 48 dF, .c 49 lq [o3,o4], .o 50 (.len na), .o 51 (.mv (.k (.int .i64 0)))]) Tt) (.seq Tv .ret)
abbrev Tx:AC:= .seq (.seq (.run [.m 31 cG, .m 32 cz, .c 33 nT [jt,jK], .o 34 (.un .not jL), .m 35 kU, .g 36 35 false (.mv cG), .g 37 35 false (.len kW), .g 38 35 false (.bin .eql lH (.k (.int .i64 0))), .o 39 (.pick kV (.k (.bool true)) mZ)]) Tq) (.seq (.run [.m 40 cG, .m 41 dP, .m 42 cG, .o 43 (.len og), .c 44 oF [mj,oh], .o 45 (.cv oe oi 1), .o 46 (.load oY false 1), .m 9 oZ]) Tw)
abbrev Ty:AC:= .seq (.seq (.run [.o 17 (.load cV true 2), .c 18 lp [dQ], .o 19 (.yY ei 0 false 1), .o 20 (.bin .neq fA (.k (.int .i64 0)))]) Tp) (.seq (.run [.o 25 (.load cV true 2), .m 26 bB, .c 27 oa [gm,ix], .m 7 hY]) (.seq (.run [.o 28 (.load cV true 2), .m 29 cz, .c 30 j7 [jr,iW], .m 8 kd]) Tx))
abbrev Tz:AC:= .seq (.run [.o 3 (.box bT), .o 6 (.mv (.k (.bool false)))]) (.seq (.seq (.run [.c 12 mb [], .o 13 (.un .not cL)]) Tn) (.seq (.seq (.run [.o 14 (.load cV true 2), .c 15 qq [dq], .o 16 (.un .not dO)]) To) Ty))
abbrev TA:AC:= .seq (.run [.c 2 qs [], .o 1 (.alloc [(.slice .full 0 []),(.slice .full 0 [])]), .op none none (.store bB dP 2)]) (.seq (.run [.o 3 (.load bB true 2),(.c 4 j7 [cV,(.k (.str [109,97,105,110]))]), .o 5 (.len fc), .o 6 (.bin .eql bW (.k (.int .i64 2))), .m 7 de, .g 8 7 true (.load bB true 2),(.d 9 7 true gp [cG,(.k (.str [109,97,105,110]))]), .g 10 7 true (.len dF), .g 11 7 true (.bin .eql cP (.k (.int .i64 1))), .o 12 (.pick cz dv (.k (.bool false))), .m 13 cL, .g 14 13 true (.load bB true 2),(.d 15 13 true lq [dq,(.k (.str [112]))]), .g 16 13 true (.len dO), .g 17 13 true (.bin .eql df (.k (.int .i64 0))), .o 18 (.pick dw dQ (.k (.bool false))), .m 0 ei]) .ret)
abbrev TB:AC:= .seq (.run [.o 0 (.mv (.k (.bool false)))]) TA
abbrev TC:AC:= .par [.o 26 (.aG bW 4), .o 27 (.load ix false 1), .o 28 (.aG bW 2), .o 29 (.load jr false 1), .o 30 (.aG bW 0), .o 31 (.load kd false 1), .m 32 cV, .c 33 dW [jt,jK], .c 34 fJ [iW,jL], .c 35 fJ [hY,kU], .m 3 kV] [(4,0),(5,0),(6,0),(7,0),(2,0),(3,1),(8,0),(0,0),(1,2),(9,0),(10,0)]
abbrev TD:AC:= .seq (.seq (.run [.m 36 de, .o 37 (.aG bW 1), .o 38 (.load lH false 1), .o 39 (.len mZ), .o 40 (.bin .lss kW lI), .m 41 oe, .g 42 41 true (.mv cV), .g 43 41 true (.bin .leq og (.k (.int .i64 20000))), .o 44 (.pick mj oh (.k (.bool false)))]) (.cond oi .skip (.exit 2))) (.seq (.block 3 (.run [.o 47 (.aG bW 1), .o 48 (.load o3 false 1), .m 49 de, .o 50 (.cv o4 na 2), .o 51 (.aG o5 0), .o 52 (.load lJ false 1), .m 53 cV, .c 54 dW [o6,o7], .m 3 o8])) (.run [.m 45 de, .o 46 (.bin .add oY (.k (.int .i64 1))), .m 6 oZ]))
abbrev TE:AC:= .seq (.seq (.run [.o 6 (.mv (.k (.int .i64 0)))]) (.block 2 (.loop TD))) (.run [.o 55 (.aG bW 3), .o 56 (.load qx false 1), .m 57 cV, .c 58 gD [qy,qz], .m 3 qA])
abbrev TF:AC:= .seq (.block 1 (.seq (.run [.o 21 (.aG bB 1), .o 22 (.load fC false 1), .m 23 fc, .o 24 (.cv fH fD 5), .o 25 (.load gv true 5), .o 5 (.alloc [(.str []),(.slice .full 0 []),(.slice .full 0 []),(.slice .full 0 []),(.slice .full 0 [])]), .op none none (.store bW gm 5)]) (.seq TC TE))) (.run [.m 19 fc, .o 20 (.bin .add fA (.k (.int .i64 1))), .m 4 fB])
abbrev TG:AC:= .seq (.seq (.run [.m 10 fc, .o 11 (.aG bB 1), .o 12 (.load dv false 1), .o 13 (.len cL), .o 14 (.bin .lss cP dw), .m 15 dq, .g 16 15 true (.mv cV), .g 17 15 true (.bin .leq df (.k (.int .i64 20000))), .o 18 (.pick dO dQ (.k (.bool false)))]) (.cond ei .skip (.exit 0))) TF
abbrev TH:AC:= .seq (.seq (.run [.o 4 (.mv (.k (.int .i64 0)))]) (.block 0 (.loop TG))) (.seq (.run [.m 59 cV, .o 60 (.bin .leq nc (.k (.int .i64 20000))), .m 2 rz]) .ret)
abbrev TI:AC:= .seq (.run [.o 1 (.box bT), .o 2 (.mv (.k (.bool false)))]) (.seq (.run [.o 7 (.aG bB 0), .o 8 (.load cz false 1), .c 9 fJ [cG,(.k (.int .i64 0))], .m 3 dF]) TH)
abbrev TJ:AC:= .seq (.run [(.o 16 (.build [(.int .i64 0),(.int .i64 0)] [(0,(1,(.k (.int .i64 1))))])), .op none none (.store dP df 2)]) .ret
abbrev TK:AC:= .seq (.block 1 (.seq (.run [.o 22 (.cv ei fB 5), .o 23 (.load fH true 5), .o 5 (.alloc [(.str []),(.slice .full 0 []),(.slice .full 0 []),(.slice .full 0 []),(.slice .full 0 [])]), .op none none (.store bW fD 5)]) (.run [.m 24 cV, .o 25 (.aG bW 0), .o 26 (.load gm false 1), .o 27 (.dd [(.str [])] 1 1 [(0,ix)]), .o 28 (.app 1 16 gv hY), .m 3 jr]))) (.run [.o 29 (.bin .add fB (.k (.int .i64 1))), .m 20 iW])
abbrev TL:AC:= .block 0 (.loop (.seq (.run [.o 21 (.bin .lss fB fA)]) (.seq (.cond fC .skip (.exit 0)) TK)))
abbrev TN:AC:= .seq (.run [(.o 53 (.build [(.int .i64 0),(.int .i64 0)] [(0,(1,(.k (.int .i64 5))))])), .op none none (.store dP o7 2)]) .ret
abbrev TO:AC:= .seq (.run [(.o 73 (.build [(.int .i64 0),(.int .i64 0)] [(0,(1,(.k (.int .i64 5))))])), .op none none (.store dP D2 2)]) .ret
abbrev TP:AC:= .seq (.run [.o 89 (.aG cL 0), .o 90 (.aG Ns 0), .o 91 (.load Nt false 1),(.o 92 (.build [(.int .i64 0),(.int .i64 0)] [(0,(1,(.k (.int .i64 5)))),(1,(1,Nu))])), .op none none (.store dP Nv 2)]) .ret
abbrev TQ:AC:= .seq (.block 5 (.seq (.run [.o 80 (.cv z6 w8 17), .o 81 (.load IG true 17), .o 12 (.alloc [(.int .i64 0),(.int .i64 0),(.slice .full 0 []),(.str []),(.str []),(.int .i64 0),(.int .i64 0),(.str []),(.slice .full 0 []),(.bool false),(.slice .full 0 []),(.slice .full 0 []),(.slice .full 0 []),(.int .i64 0),(.int .i64 0),(.int .i64 0),(.int .i64 0)]), .op none none (.store cL II 17)]) (.seq (.run [.o 82 (.load bB true 2), .o 83 (.load dF true 5), .m 84 cV, .o 85 (.aG cL 0), .o 86 (.load No true 13), .c 87 lr [Nk,Nl,Nn,Np], .o 88 (.un .not Nq)]) (.cond Nr TP .skip)))) (.run [.o 93 (.bin .add w8 (.k (.int .i64 1))), .m 78 RS])
abbrev TR:AC:= .block 4 (.loop (.seq (.run [.o 79 (.bin .lss w8 D5)]) (.seq (.cond IF .skip (.exit 4)) TQ)))
abbrev TS:AC:= .seq (.seq (.run [.m 66 cP, .c 67 jX [w5], .m 68 u6, .g 69 68 false (.mv cP), .g 70 68 false (.oy 35 [bB]), .d 71 68 false dN [w6,w7], .o 72 (.pick u7 (.k (.bool true)) D1)]) (.cond z1 TO .skip)) (.seq (.run [.m 74 cz, .m 75 cG, .c 76 iL [D3,D4], .o 77 (.len z6), .o 78 (.mv (.k (.int .i64 0)))]) TR)
abbrev TT:AC:= .seq (.block 3 (.seq (.run [.m 61 nc, .o 62 (.cv qz nc 5), .o 63 (.load s7 true 5), .o 9 (.alloc [(.str []),(.slice .full 0 []),(.slice .full 0 []),(.slice .full 0 []),(.slice .full 0 [])]), .m 8 uY, .op none none (.store dF uZ 5)]) (.seq (.run [.o 64 (.load dF true 5), .c 65 qt [rA], .m 10 u5]) TS))) (.run [.o 94 (.bin .add nc (.k (.int .i64 1))), .m 59 RT])
abbrev TU:AC:= .block 2 (.loop (.seq (.run [.o 60 (.bin .lss nc qA)]) (.seq (.cond rz .skip (.exit 2)) TT)))
abbrev TV:AC:= .seq (.seq (.run [.o 56 (.aG bB 1), .o 57 (.load qy false 1), .o 58 (.len qz), .o 59 (.mv (.k (.int .i64 0)))]) TU) (.seq (.run [.o 95 (.build [(.int .i64 0),(.int .i64 0)] []), .op none none (.store dP RU 2)]) .ret)
abbrev TW:AC:= .seq (.seq (.run [.o 32 (.aG bB 0), .o 33 (.load jK false 1), .c 34 jX [jL], .m 35 kU, .g 36 35 false (.mv cV), .d 37 35 false jX [kW], .o 38 (.pick kV (.k (.bool true)) lH), .m 39 mZ, .g 40 39 false (.mv de), .g 41 39 false (.bin .lss oe (.k (.int .i64 0))), .o 42 (.pick lI (.k (.bool true)) mj), .m 43 og, .g 44 43 false (.aG bB 1), .g 45 43 false (.load oi false 1), .g 46 43 false (.mv de), .g 47 43 false (.cv oY oZ 5), .g 48 43 false (.aG o3 1), .g 49 43 false (.load o4 false 1), .g 50 43 false (.len na), .g 51 43 false (.bin .gtr o5 (.k (.int .i64 0))), .o 52 (.pick oh (.k (.bool true)) lJ)]) (.cond o6 TN .skip)) (.seq (.run [.o 54 (.load bB true 2), .c 55 jI [o8], .m 7 qx]) TV)
abbrev TX:AC:= .seq (.seq (.run [.o 17 (.aG bB 1), .o 18 (.load dQ false 1), .o 19 (.len ei), .o 20 (.mv (.k (.int .i64 0)))]) TL) (.seq (.run [.m 30 cV,(.c 31 fy [kd,(.k (.str [109,97,105,110]))]), .m 6 jt]) TW)
abbrev TY:AC:= .seq (.seq (.run [.o 13 (.load bB true 2), .c 14 rr [dw], .o 15 (.un .not dq)]) (.cond dO TJ .skip)) (.seq (.run [.o 3 (.mv (.k (.slice .full 0 [])))]) TX)
abbrev T1:AC:= .seq (.run [.o 1 (.box bT), .o 2 (.alloc [(.int .i64 0),(.int .i64 0)])]) TY
abbrev T2:AC:= .cond cG (.seq (.run [.o 4 (.mv (.k (.slice .full 0 [])))]) .ret) .skip
abbrev T3:AC:= .seq (.run [.o 2 (.box bT), .o 4 (.mv (.k (.slice .full 0 [])))]) (.seq (.seq (.run [.o 5 (.load dP true 2), .m 6 bB, .c 7 jY [bW,de], .o 8 (.un .not cz)]) T2) (.seq (.run [.o 9 (.load dP true 2), .c 10 jI [dF], .m 11 bB, .c 12 nB [cP,dv], .m 4 cL]) .ret))
abbrev T4:AC:= .cond cG (.seq (.run [.o 4 (.mv (.k (.str [])))]) .ret) .skip
abbrev T5:AC:= .par [.o 9 (.aG dP 1), .o 10 (.load dF false 1), .m 11 bB, .o 12 (.aG dP 1), .o 13 (.load cL false 1), .o 14 (.len dw), .c 15 oF [dv,dq], .o 16 (.cv cP dO 5), .o 17 (.aG df 0), .o 18 (.load dQ false 1), .m 4 ei] [(2,0),(3,0),(4,0),(5,0),(6,0),(0,0),(1,1),(7,0),(8,0),(9,0),(10,0)]
abbrev T6:AC:= .seq (.seq (.run [.o 5 (.aG dP 1), .o 6 (.load bW false 1), .o 7 (.len de), .o 8 (.bin .eql cz (.k (.int .i64 0)))]) T4) (.seq T5 .ret)
abbrev T7:AC:= .seq (.run [.o 2 (.box bT), .o 4 (.mv (.k (.str [])))]) T6
abbrev T8:AC:= .cond df (.seq (.run [.o 4 (.mv (.k (.bool true)))]) .ret) .skip
abbrev T9:AC:= .seq (.block 1 (.seq (.run [.m 10 cG, .m 5 cP]) (.seq (.run [.m 11 bT, .m 12 bW, .o 13 (.cv dv cL 1), .o 14 (.load dw false 1), .m 15 bB, .o 16 (.bin .eql dq dO)]) T8))) (.run [.o 17 (.bin .add cG (.k (.int .i64 1))), .m 8 dQ])
abbrev Ua:AC:= .block 0 (.loop (.seq (.run [.o 9 (.bin .lss cG cz)]) (.seq (.cond dF .skip (.exit 0)) T9)))
abbrev Ub:AC:= .seq (.seq (.run [.m 6 bT, .o 7 (.len de), .o 8 (.mv (.k (.int .i64 0)))]) Ua) (.seq (.run [.o 4 (.mv (.k (.bool false)))]) .ret)
abbrev Uc:AC:= .seq (.run [.o 4 (.mv (.k (.bool false)))]) Ub
abbrev Ud:AC:= .cond de (.seq (.run [.o 4 (.mv (.k (.int .i64 0)))]) .ret) .skip
abbrev Ue:AC:= .seq (.seq (.run [.m 10 bT, .o 11 (.bin .lss cP (.k (.int .i64 0)))]) (.cond dv (.seq (.run [.m 12 bT, .m 13 bB, .o 14 (.bin .add cL dw), .m 4 dq]) .ret) .skip)) (.seq (.run [.m 15 bT, .m 4 dO]) .ret)
abbrev Uf:AC:= .seq (.seq (.run [.m 5 bB, .o 6 (.bin .lss bW (.k (.int .i64 1)))]) Ud) (.seq (.run [.m 7 bT, .m 8 bB, .o 9 (.bin .rem cz cG), .m 0 dF]) Ue)
abbrev Ug:AC:= .seq (.run [.o 4 (.mv (.k (.int .i64 0)))]) Uf
abbrev Uh:AC:= .cond cG (.seq (.run [.o 4 (.mv (.k (.slice .full 0 [])))]) .ret) .skip
abbrev Ui:AC:= .seq (.run [.o 2 (.box bT), .o 4 (.mv (.k (.slice .full 0 [])))]) (.seq (.seq (.run [.o 5 (.load dP true 2), .m 6 bB, .c 7 jY [bW,de], .o 8 (.un .not cz)]) Uh) (.seq (.run [.o 9 (.load dP true 2), .c 10 jI [dF], .m 11 bB, .c 12 lu [cP,dv], .m 4 cL]) .ret))
abbrev Uj:AC:= .cond df (.seq (.run [.o 4 (.mv (.k (.bool false)))]) .ret) .skip
abbrev Uk:AC:= .seq (.block 1 (.seq (.run [.o 11 (.cv cz dF 1), .o 12 (.load dv false 1), .m 6 cL]) (.seq (.run [.m 13 bB, .m 14 de, .c 15 nT [dw,dq], .o 16 (.un .not dO)]) Uj))) (.run [.o 17 (.bin .add dF (.k (.int .i64 1))), .m 9 dQ])
abbrev Ul:AC:= .block 0 (.loop (.seq (.run [.o 10 (.bin .lss dF cG)]) (.seq (.cond cP .skip (.exit 0)) Uk)))
abbrev Um:AC:= .seq (.seq (.run [.m 7 bT, .o 8 (.len cz), .o 9 (.mv (.k (.int .i64 0)))]) Ul) (.seq (.run [.o 4 (.mv (.k (.bool true)))]) .ret)
abbrev Un:AC:= .seq (.run [.o 4 (.mv (.k (.bool false)))]) Um
abbrev Uo:AC:= .cond df (.seq (.run [.o 4 (.mv (.k (.slice .full 0 [])))]) .ret) .skip
abbrev Up:AC:= .seq (.run [.o 43 (.cv lI mj 1), .o 44 (.load oh false 1), .m 12 oi]) (.seq (.run [.o 45 (.aG dP 0), .o 46 (.load oY false 1), .m 47 cL, .c 48 bJ [oZ,o3]]) (.cond o4 (.run [.m 49 de, .m 50 cL, .o 51 (.dd [(.str [])] 1 1 [(0,o5)]), .o 52 (.app 1 16 na lJ), .m 6 o6]) .skip))
abbrev Uq:AC:= .seq (.cond og .skip (.exit 4)) (.seq (.block 5 Up) (.run [.o 53 (.bin .add mj (.k (.int .i64 1))), .m 41 o7]))
abbrev Ur:AC:= .seq (.run [.o 37 (.aG cP 0), .o 38 (.load lH true 13), .c 39 mc [mZ], .o 40 (.len lI), .o 41 (.mv (.k (.int .i64 0)))]) (.block 4 (.loop (.seq (.run [.o 42 (.bin .lss mj oe)]) Uq)))
abbrev Us:AC:= .seq (.block 3 (.seq (.run [.o 35 (.cv jt jL 17), .o 36 (.load kV true 17), .o 10 (.alloc [(.int .i64 0),(.int .i64 0),(.slice .full 0 []),(.str []),(.str []),(.int .i64 0),(.int .i64 0),(.str []),(.slice .full 0 []),(.bool false),(.slice .full 0 []),(.slice .full 0 []),(.slice .full 0 []),(.int .i64 0),(.int .i64 0),(.int .i64 0),(.int .i64 0)]), .op none none (.store cP kW 17)]) Ur)) (.run [.o 54 (.bin .add jL (.k (.int .i64 1))), .m 33 o8])
abbrev Ut:AC:= .block 2 (.loop (.seq (.run [.o 34 (.bin .lss jL jK)]) (.seq (.cond kU .skip (.exit 2)) Us)))
abbrev Uu:AC:= .seq (.run [.o 25 (.cv fC fD 1), .o 26 (.load gm false 1), .m 8 ix]) (.seq (.run [.m 27 bW, .m 28 bW, .m 29 cG, .c 30 jf [jr,iW], .c 31 iL [hY,kd], .o 32 (.len jt), .o 33 (.mv (.k (.int .i64 0)))]) Ut)
abbrev Uv:AC:= .seq (.cond gv .skip (.exit 0)) (.seq (.block 1 Uu) (.run [.o 55 (.bin .add fD (.k (.int .i64 1))), .m 23 qx]))
abbrev Uw:AC:= .seq (.run [.m 19 bW, .m 20 bB, .c 21 nB [fA,fB], .o 22 (.len fC), .o 23 (.mv (.k (.int .i64 0)))]) (.block 0 (.loop (.seq (.run [.o 24 (.bin .lss fD fH)]) Uv)))
abbrev Ux:AC:= .seq (.run [.o 17 (.load dP true 2), .c 18 jI [dQ], .m 5 ei]) (.seq (.run [.o 6 (.mv (.k (.slice .full 0 [])))]) (.seq Uw (.seq (.run [.m 56 de, .c 57 fG [qy]]) (.seq (.run [.m 58 de, .c 59 fS [qA], .m 4 nc]) .ret))))
abbrev Uy:AC:= .seq (.run [.o 2 (.box bT), .o 4 (.mv (.k (.slice .full 0 [])))]) (.seq (.seq (.run [.o 13 (.load dP true 2), .m 14 bB, .c 15 jY [dw,dq], .o 16 (.un .not dO)]) Uo) Ux)
abbrev Uz:AC:= .run [(.o 3 (.dd [(.str [])] 1 1 [(0,(.k (.str [118])))])), .c 4 me [(.k (.int .i64 2))],(.o 5 (.build [(.int .i64 0),(.int .i64 0),(.slice .full 0 []),(.str []),(.str []),(.int .i64 0),(.int .i64 0),(.str []),(.slice .full 0 []),(.bool false),(.slice .full 0 []),(.slice .full 0 []),(.slice .full 0 [])] [(0,(1,(.k (.int .i64 1)))),(1,(1,(.k (.int .i64 1)))),(3,(1,(.k (.str [118])))),(5,(4,fc))])), .c 6 me [(.k (.int .i64 3))], .o 7 (.build [(.bool false),(.str []),(.int .i64 0),(.int .i64 0),(.str []),(.slice .full 0 [])] [(2,(4,de))]),(.o 8 (.build [(.bool false),(.str []),(.int .i64 0),(.int .i64 0),(.str []),(.slice .full 0 [])] [(0,(1,(.k (.bool true)))),(1,(1,(.k (.str [118]))))])), .o 9 (.dd [(.bool false),(.str []),(.int .i64 0),(.int .i64 0),(.str []),(.slice .full 0 [])] 6 2 [(0,cz),(1,cG)]),(.o 10 (.build [(.int .i64 0),(.int .i64 0),(.slice .full 0 []),(.str []),(.str []),(.int .i64 0),(.int .i64 0),(.str []),(.slice .full 0 []),(.bool false),(.slice .full 0 []),(.slice .full 0 []),(.slice .full 0 [])] [(0,(1,(.k (.int .i64 2)))),(1,(1,(.k (.int .i64 4)))),(3,(1,(.k (.str [103])))),(4,(1,(.k (.str [112])))),(10,(1,dF))])),(.c 11 gN [(.k (.str [118]))]),(.o 12 (.build [(.int .i64 0),(.int .i64 0),(.slice .full 0 []),(.str []),(.str []),(.int .i64 0),(.int .i64 0),(.str []),(.slice .full 0 []),(.bool false),(.slice .full 0 []),(.slice .full 0 []),(.slice .full 0 [])] [(0,(1,(.k (.int .i64 3)))),(1,(1,(.k (.int .i64 3)))),(5,(4,dv))])),(.c 13 gN [(.k (.str [103]))]),(.o 14 (.build [(.int .i64 0),(.int .i64 0),(.slice .full 0 []),(.str []),(.str []),(.int .i64 0),(.int .i64 0),(.str []),(.slice .full 0 []),(.bool false),(.slice .full 0 []),(.slice .full 0 []),(.slice .full 0 [])] [(0,(1,(.k (.int .i64 4)))),(1,(1,(.k (.int .i64 3)))),(5,(4,dw))])), .o 15 (.dd [(.int .i64 0),(.int .i64 0),(.slice .full 0 []),(.str []),(.str []),(.int .i64 0),(.int .i64 0),(.str []),(.slice .full 0 []),(.bool false),(.slice .full 0 []),(.slice .full 0 []),(.slice .full 0 [])] 13 4 [(0,bW),(1,cP),(2,cL),(3,dq)]),(.o 16 (.build [(.str []),(.slice .full 0 []),(.slice .full 0 []),(.slice .full 0 []),(.slice .full 0 [])] [(0,(1,(.k (.str [109,97,105,110])))),(2,(1,cV)),(3,(1,dO))])), .o 1 (.alloc [(.str []),(.slice .full 0 []),(.slice .full 0 []),(.slice .full 0 []),(.slice .full 0 [])]), .op none none (.store bB df 5)]
abbrev UA:AC:= .run [(.o 17 (.build [(.str []),(.bool false)] [(0,(1,(.k (.str [120]))))])),(.o 18 (.build [(.str []),(.bool false)] [(0,(1,(.k (.str [121])))),(1,(1,(.k (.bool true))))])), .o 19 (.dd [(.str []),(.bool false)] 2 2 [(0,dQ),(1,ei)]),(.o 20 (.dd [(.str [])] 1 1 [(0,(.k (.str [101])))])),(.c 21 gN [(.k (.str [121]))]),(.c 22 gN [(.k (.str [120]))]), .c 23 oG [(.k (.int .i64 8)),fC,fH],(.o 24 (.build [(.int .i64 0),(.int .i64 0),(.slice .full 0 []),(.str []),(.str []),(.int .i64 0),(.int .i64 0),(.str []),(.slice .full 0 []),(.bool false),(.slice .full 0 []),(.slice .full 0 []),(.slice .full 0 [])] [(0,(1,(.k (.int .i64 5)))),(1,(1,(.k (.int .i64 1)))),(3,(1,(.k (.str [121])))),(5,(4,fD))])),(.c 25 gN [(.k (.str [121]))]), .c 26 me [(.k (.int .i64 9))], .c 27 oG [(.k (.int .i64 12)),gm,ix],(.o 28 (.build [(.int .i64 0),(.int .i64 0),(.slice .full 0 []),(.str []),(.str []),(.int .i64 0),(.int .i64 0),(.str []),(.slice .full 0 []),(.bool false),(.slice .full 0 []),(.slice .full 0 []),(.slice .full 0 [])] [(0,(1,(.k (.int .i64 7)))),(1,(1,(.k (.int .i64 10)))),(3,(1,(.k (.str [101]))))])), .o 29 (.dd [(.int .i64 0),(.int .i64 0),(.slice .full 0 []),(.str []),(.str []),(.int .i64 0),(.int .i64 0),(.str []),(.slice .full 0 []),(.bool false),(.slice .full 0 []),(.slice .full 0 []),(.slice .full 0 [])] 13 1 [(0,jr)]),(.o 30 (.build [(.int .i64 0),(.int .i64 0),(.slice .full 0 []),(.str []),(.str []),(.int .i64 0),(.int .i64 0),(.str []),(.slice .full 0 []),(.bool false),(.slice .full 0 []),(.slice .full 0 []),(.slice .full 0 [])] [(0,(1,(.k (.int .i64 6)))),(1,(1,(.k (.int .i64 5)))),(5,(4,hY)),(11,(1,iW))])),(.c 31 gN [(.k (.str [121]))]),(.o 32 (.build [(.int .i64 0),(.int .i64 0),(.slice .full 0 []),(.str []),(.str []),(.int .i64 0),(.int .i64 0),(.str []),(.slice .full 0 []),(.bool false),(.slice .full 0 []),(.slice .full 0 []),(.slice .full 0 [])] [(0,(1,(.k (.int .i64 8)))),(1,(1,(.k (.int .i64 9)))),(9,(1,(.k (.bool true)))),(5,(4,jt))])), .o 33 (.dd [(.int .i64 0),(.int .i64 0),(.slice .full 0 []),(.str []),(.str []),(.int .i64 0),(.int .i64 0),(.str []),(.slice .full 0 []),(.bool false),(.slice .full 0 []),(.slice .full 0 []),(.slice .full 0 [])] 13 3 [(0,gv),(1,kd),(2,jK)]),(.o 34 (.build [(.str []),(.slice .full 0 []),(.slice .full 0 []),(.slice .full 0 []),(.slice .full 0 [])] [(0,(1,(.k (.str [112])))),(1,(1,fA)),(4,(1,fB)),(3,(1,jL))])), .o 2 (.alloc [(.str []),(.slice .full 0 []),(.slice .full 0 []),(.slice .full 0 []),(.slice .full 0 [])]), .op none none (.store dP kU 5)]
abbrev UB:AC:= .seq (.run [(.o 35 (.dd [(.str [])] 1 1 [(0,(.k (.str [103])))])), .o 36 (.load bB true 5), .o 37 (.load dP true 5), .o 38 (.dd [(.str []),(.slice .full 0 []),(.slice .full 0 []),(.slice .full 0 []),(.slice .full 0 [])] 5 2 [(0,kW),(1,lH)]), .o 39 (.build [(.slice .full 0 []),(.slice .full 0 [])] [(0,(1,kV)),(1,(1,mZ))]), .op none none (.store bT lI 2)]) .ret
abbrev UC:AC:= .seq (.run [.o 0 (.alloc [(.slice .full 0 []),(.slice .full 0 [])])]) (.seq Uz (.seq UA UB))
abbrev UD:AC:= .seq (.seq (.run [.m 6 bW, .m 7 bT, .o 8 (.len cz), .o 9 (.bin .lss de cG), .m 10 dF, .g 11 10 true (.mv bB), .g 12 10 true (.bin .leq dv (.k (.int .i64 20000))), .o 13 (.pick cP cL (.k (.bool false)))]) (.cond dw .skip (.exit 0))) (.seq (.block 1 (.run [.m 16 bT, .m 17 bW, .o 18 (.cv df dQ 1), .o 19 (.load ei false 1), .m 20 bB, .c 21 dW [fA,fB], .m 1 fC])) (.run [.m 14 bW, .o 15 (.bin .add dq (.k (.int .i64 1))), .m 5 dO]))
abbrev UE:AC:= .seq (.seq (.run [.o 5 (.mv (.k (.int .i64 0)))]) (.block 0 (.loop UD))) (.seq (.run [.m 22 bB, .m 4 fH]) .ret)
abbrev UF:AC:= .seq (.run [.o 4 (.mv (.k (.int .i64 0)))]) UE
abbrev UG:AC:= .cond dw (.seq (.run [.o 4 (.mv (.k (.int .i64 20001)))]) .ret) .skip
abbrev UH:AC:= .seq (.seq (.run [.m 5 bB, .o 6 (.bin .gtr bW (.k (.int .i64 20000))), .m 7 de, .g 8 7 false (.mv bT), .g 9 7 false (.oM cG), .g 10 7 false (.mv bB), .g 11 7 false (.bin .sub (.k (.int .i64 20000)) cP), .g 12 7 false (.bin .geq dF dv), .o 13 (.pick cz (.k (.bool true)) cL)]) UG) (.seq (.run [.m 14 bB, .o 15 (.bin .add dq (.k (.int .i64 1))), .m 16 bT, .o 17 (.oM df), .o 18 (.bin .add dO dQ), .m 4 ei]) .ret)
abbrev UI:AC:= .seq (.run [.o 4 (.mv (.k (.int .i64 0)))]) UH
abbrev UJ:AC:= .par [.o 22 (.aG de 4), .o 23 (.load fH false 1), .o 24 (.aG de 3), .o 25 (.load gv false 1), .o 26 (.aG de 2), .o 27 (.load ix false 1), .o 28 (.aG de 5), .o 29 (.load jr true 4), .m 30 bB, .c 31 ga [iW,kd], .c 32 fJ [hY,jt], .c 33 dW [gm,jK], .c 34 dW [fD,jL], .m 1 kU] [(6,0),(7,0),(8,0),(9,0),(4,0),(5,1),(10,0),(2,0),(3,2),(11,0),(0,0),(1,3),(12,0),(13,0)]
abbrev UK:AC:= .par [.o 46 (.aG de 10), .o 47 (.load oZ false 1), .m 48 cz, .o 49 (.cv o3 o4 6), .o 50 (.aG na 1), .o 51 (.load o5 false 1), .o 52 (.aG de 10), .o 53 (.load o6 false 1), .m 54 cz, .o 55 (.cv o7 o8 6), .o 56 (.aG qx 2), .o 57 (.load qy true 4), .m 58 bB, .c 59 ga [qz,qA], .c 60 dW [lJ,nc], .m 1 rz] [(6,0),(7,0),(8,0),(9,0),(10,0),(11,0),(12,0),(13,0),(0,0),(1,1),(2,0),(3,0),(4,0),(5,1),(14,0),(15,0)]
abbrev UL:AC:= .seq (.seq (.run [.m 35 cz, .o 36 (.aG de 10), .o 37 (.load kW false 1), .o 38 (.len lH), .o 39 (.bin .lss kV mZ), .m 40 lI, .g 41 40 true (.mv bB), .g 42 40 true (.bin .leq mj (.k (.int .i64 20000))), .o 43 (.pick oe og (.k (.bool false)))]) (.cond oh .skip (.exit 2))) (.seq (.block 3 UK) (.run [.m 44 cz, .o 45 (.bin .add oi (.k (.int .i64 1))), .m 7 oY]))
abbrev UM:AC:= .par [.o 61 (.aG de 12), .o 62 (.load uY false 1), .o 63 (.aG de 11), .o 64 (.load uZ false 1), .m 65 bB, .c 66 gD [rA,u5], .c 67 gD [s7,w5], .m 1 u6] [(2,0),(3,0),(4,0),(5,0),(0,0),(1,1),(6,0),(7,0)]
abbrev UN:AC:= .seq (.seq (.run [.o 7 (.mv (.k (.int .i64 0)))]) (.block 2 (.loop UL))) UM
abbrev UO:AC:= .seq (.block 1 (.seq (.run [.m 18 bT, .m 19 bW, .o 20 (.cv ei fA 13), .o 21 (.load fB true 13), .o 6 (.alloc [(.int .i64 0),(.int .i64 0),(.slice .full 0 []),(.str []),(.str []),(.int .i64 0),(.int .i64 0),(.str []),(.slice .full 0 []),(.bool false),(.slice .full 0 []),(.slice .full 0 []),(.slice .full 0 [])]), .op none none (.store de fC 13)]) (.seq UJ UN))) (.run [.m 16 bW, .o 17 (.bin .add df (.k (.int .i64 1))), .m 5 dQ])
abbrev UP:AC:= .seq (.seq (.run [.m 8 bW, .m 9 bT, .o 10 (.len dF), .o 11 (.bin .lss cG cP), .m 12 dv, .g 13 12 true (.mv bB), .g 14 12 true (.bin .leq dw (.k (.int .i64 20000))), .o 15 (.pick cL dq (.k (.bool false)))]) (.cond dO .skip (.exit 0))) UO
abbrev UQ:AC:= .seq (.seq (.run [.o 5 (.mv (.k (.int .i64 0)))]) (.block 0 (.loop UP))) (.seq (.run [.m 68 bB, .m 4 u7]) .ret)
abbrev UR:AC:= .seq (.run [.o 4 (.mv (.k (.int .i64 0)))]) UQ
abbrev US:AC:= .cond fD (.seq (.run [.o 2 (.mv (.k (.bool false)))]) .ret) .skip
abbrev UT:AC:= .run [.o 33 (.aG bW 1), .o 34 (.load jL false 1), .o 35 (.len kU), .o 36 (.bin .gtr kV (.k (.int .i64 8))), .m 37 kW, .g 38 37 false (.aG bW 2), .g 39 37 false (.load mZ false 1), .g 40 37 false (.len lI), .g 41 37 false (.bin .gtr oe (.k (.int .i64 16))), .o 42 (.pick lH (.k (.bool true)) mj), .m 43 og, .g 44 43 false (.aG bW 0), .g 45 43 false (.load oi false 1), .d 46 43 false jJ [oY], .g 47 43 false (.un .not oZ), .o 48 (.pick oh (.k (.bool true)) o3), .m 49 o4, .g 50 49 false (.aG bW 2), .g 51 49 false (.load o5 false 1), .d 52 49 false jq [lJ], .g 53 49 false (.un .not o6), .o 54 (.pick na (.k (.bool true)) o7), .m 55 o8, .g 56 55 false (.aG bW 4), .g 57 55 false (.load qy false 1), .d 58 55 false jq [qz], .g 59 55 false (.un .not qA), .o 60 (.pick qx (.k (.bool true)) nc)]
abbrev UU:AC:= .cond rz (.seq (.run [.o 2 (.mv (.k (.bool false)))]) .ret) .skip
abbrev UW:AC:= .cond D1 (.seq (.run [.o 2 (.mv (.k (.bool false)))]) .ret) .skip
abbrev UX:AC:= .seq (.block 3 (.seq (.run [.o 66 (.cv s7 rA 2), .o 67 (.load w5 true 2), .o 7 (.alloc [(.str []),(.bool false)]), .op none none (.store cz u6 2)]) (.seq (.run [.o 68 (.aG cz 0), .o 69 (.load u7 false 1), .c 70 jJ [w6], .o 71 (.un .not w7)]) UW))) (.run [.o 72 (.bin .add rA (.k (.int .i64 1))), .m 64 z1])
abbrev UY:AC:= .block 2 (.loop (.seq (.run [.o 65 (.bin .lss rA uZ)]) (.seq (.cond u5 .skip (.exit 2)) UX)))
abbrev UZ:AC:= .cond D5 (.seq (.run [.o 2 (.mv (.k (.bool false)))]) .ret) .skip
abbrev U0:AC:= .seq (.seq (.run [.o 61 (.aG bW 1), .o 62 (.load uY false 1), .o 63 (.len s7), .o 64 (.mv (.k (.int .i64 0)))]) UY) (.seq (.run [.m 73 cV, .o 74 (.aG bW 3), .o 75 (.load D3 false 1), .c 76 gl [D2,D4,(.k (.int .i64 1))], .o 77 (.un .not z6)]) UZ)
abbrev U1:AC:= .seq (.block 1 (.seq (.run [.o 31 (.cv hY iW 5), .o 32 (.load jt true 5), .o 5 (.alloc [(.str []),(.slice .full 0 []),(.slice .full 0 []),(.slice .full 0 []),(.slice .full 0 [])]), .op none none (.store bW jK 5)]) (.seq (.seq UT UU) U0))) (.run [.o 78 (.bin .add iW (.k (.int .i64 1))), .m 29 w8])
abbrev U2:AC:= .block 0 (.loop (.seq (.run [.o 30 (.bin .lss iW jr)]) (.seq (.cond kd .skip (.exit 0)) U1)))
abbrev U3:AC:= .seq (.seq (.run [.o 26 (.aG bB 1), .o 27 (.load ix false 1), .o 28 (.len hY), .o 29 (.mv (.k (.int .i64 0)))]) U2) (.seq (.run [.o 2 (.mv (.k (.bool true)))]) .ret)
abbrev U4:AC:= .seq (.seq (.run [.o 8 (.aG bB 0), .o 9 (.load cG false 1), .o 10 (.len dF), .o 11 (.bin .gtr cP (.k (.int .i64 16))), .m 12 dv, .g 13 12 false (.aG bB 1), .g 14 12 false (.load dw false 1), .g 15 12 false (.len dq), .g 16 12 false (.bin .gtr dO (.k (.int .i64 16))), .o 17 (.pick cL (.k (.bool true)) df), .m 18 dQ, .g 19 18 false (.aG bB 0), .g 20 18 false (.load fA false 1), .d 21 18 false jq [fB], .g 22 18 false (.un .not fC), .o 23 (.pick ei (.k (.bool true)) fH)]) US) (.seq (.run [.o 24 (.build [(.int .i64 0)] []), .o 25 (.box gv), .m 3 gm]) U3)
abbrev U5:AC:= .seq (.run [.o 1 (.box bT), .o 2 (.mv (.k (.bool false)))]) U4
abbrev U6:AC:= .block 1 (.seq (.run [.m 10 cG, .m 5 cP]) (.seq (.run [.m 11 bB, .m 12 bT, .m 13 bW, .o 14 (.cv cL dw 1), .o 15 (.load dq false 1), .o 16 (.bin .eql dv dO)]) (.cond df (.seq (.run [.m 17 bW, .m 4 dQ]) .ret) .skip)))
abbrev U7:AC:= .seq (.cond dF .skip (.exit 0)) (.seq U6 (.run [.o 18 (.bin .add cG (.k (.int .i64 1))), .m 8 ei]))
abbrev U8:AC:= .seq (.run [.m 6 bT, .o 7 (.len de), .o 8 (.mv (.k (.int .i64 0)))]) (.block 0 (.loop (.seq (.run [.o 9 (.bin .lss cG cz)]) U7)))
abbrev U9:AC:= .seq (.run [(.o 4 (.mv (.k (.int .i64 (-1)))))]) .ret
abbrev Va:AC:= .seq (.run [.o 4 (.mv (.k (.int .i64 0)))]) (.seq U8 U9)
abbrev Vb:AC:= .cond df (.seq (.run [.o 2 (.mv (.k (.bool true)))]) .ret) .skip
abbrev Vc:AC:= .block 1 (.seq (.run [.m 9 cz, .o 10 (.cv bW cz 1), .o 11 (.load cP false 1), .m 3 dF, .m 4 dv]) (.seq (.run [.m 12 bT, .m 13 cV, .o 14 (.yW 1 cL none (some dw)), .m 15 fc, .c 16 bJ [dq,dO]]) Vb))
abbrev Vd:AC:= .seq (.cond cG .skip (.exit 0)) (.seq Vc (.run [.o 17 (.bin .add cz (.k (.int .i64 1))), .m 7 dQ]))
abbrev Ve:AC:= .seq (.run [.m 5 bT, .o 6 (.len bW), .o 7 (.mv (.k (.int .i64 0)))]) (.block 0 (.loop (.seq (.run [.o 8 (.bin .lss cz de)]) Vd)))
abbrev Vf:AC:= .seq Ve (.seq (.run [.o 2 (.mv (.k (.bool false)))]) .ret)
abbrev Vg:AC:= .seq (.run [.o 2 (.mv (.k (.bool false)))]) Vf
end Go.Abs

/-! Have0 -/

namespace Go.Abs
open Go.Proofs
theorem lK:Has Try.prog qT 82 [(6,none)] Tz:=⟨Try.f3,by kernel_rfl,by kernel_rfl⟩
theorem uc:Has Try.prog mb 19 [(0,none)] TB:=⟨Try.f7,by kernel_rfl,by kernel_rfl⟩
theorem yv:Has Try.prog qq 61 [(2,none)] TI:=⟨Try.f8,by kernel_rfl,by kernel_rfl⟩
theorem pS:Has Try.prog lp 96 [(2,(some (true,2)))] T1:=⟨Try.f9,by kernel_rfl,by kernel_rfl⟩
theorem sb:Has Try.prog j7 13 [(4,none)] T3:=⟨Try.f10,by kernel_rfl,by kernel_rfl⟩
theorem pT:Has Try.prog oa 19 [(4,none)] T7:=⟨Try.f11,by kernel_rfl,by kernel_rfl⟩
theorem Bi:Has Try.prog nT 18 [(4,none)] Uc:=⟨Try.f12,by kernel_rfl,by kernel_rfl⟩
theorem s8:Has Try.prog oF 16 [(4,none)] Ug:=⟨Try.f13,by kernel_rfl,by kernel_rfl⟩
theorem pU:Has Try.prog lq 13 [(4,none)] Ui:=⟨Try.f14,by kernel_rfl,by kernel_rfl⟩
theorem vW:Has Try.prog iA 18 [(4,none)] Un:=⟨Try.f15,by kernel_rfl,by kernel_rfl⟩
theorem ow:Has Try.prog gp 60 [(4,none)] Uy:=⟨Try.f16,by kernel_rfl,by kernel_rfl⟩
theorem yw:Has Try.prog qs 40 [(0,(some (true,2)))] UC:=⟨Try.f25,by kernel_rfl,by kernel_rfl⟩
theorem sm:Has Try.prog fJ 23 [(4,none)] UF:=⟨Try.f26,by kernel_rfl,by kernel_rfl⟩
theorem kD:Has Try.prog dW 19 [(4,none)] UI:=⟨Try.f27,by kernel_rfl,by kernel_rfl⟩
theorem mP:Has Try.prog gD 69 [(4,none)] UR:=⟨Try.f28,by kernel_rfl,by kernel_rfl⟩
theorem z7:Has Try.prog rr 79 [(2,none)] U5:=⟨Try.f29,by kernel_rfl,by kernel_rfl⟩
theorem pz:Has Try.prog fy 19 [(4,none)] Va:=⟨Try.f30,by kernel_rfl,by kernel_rfl⟩
theorem vX:Has Try.prog jX 18 [(2,none)] Vg:=⟨Try.f31,by kernel_rfl,by kernel_rfl⟩
end Go.Abs

/-! Codes1 -/

namespace Go.Abs
abbrev Vh:AC:= .par [.m 17 cV, .m 18 cV, .o 19 (.fQ ei), .o 20 (.aG fA 3), .o 21 (.load fB false 1), .m 22 cV, .o 23 (.fQ fH), .o 24 (.aG fD 2), .o 25 (.load gv false 1), .o 26 (.len gm), .o 27 (.bin .add ix (.k (.int .i64 1))), .o 28 (.dd [(.int .i64 0)] 1 1 [(0,hY)]), .o 29 (.app 1 8 fC jr), .o 30 (.fQ dQ), .o 31 (.aG kd 3), .op none none (.store jt iW 1)] [(1,0),(2,0),(3,0),(4,0),(5,0),(6,0),(7,0),(8,0),(9,0),(10,0),(11,0),(12,0),(0,0),(13,0),(14,0),(15,0)]
abbrev Vi:AC:= .par [.m 38 cV, .m 39 cV, .o 40 (.fQ lI), .o 41 (.aG oe 4), .o 42 (.load mj false 1), .m 43 cV, .o 44 (.fQ oh), .o 45 (.aG oi 2), .o 46 (.load oY false 1), .o 47 (.len oZ), .o 48 (.bin .add o3 (.k (.int .i64 1))), .o 49 (.dd [(.int .i64 0)] 1 1 [(0,o4)]), .o 50 (.app 1 8 og na), .o 51 (.fQ mZ), .o 52 (.aG lJ 4), .op none none (.store o6 o5 1)] [(1,0),(2,0),(3,0),(4,0),(5,0),(6,0),(7,0),(8,0),(9,0),(10,0),(11,0),(12,0),(0,0),(13,0),(14,0),(15,0)]
abbrev Vj:AC:= .seq (.run [.m 32 cV, .o 33 (.aG bW 3), .o 34 (.load jL false 1), .m 35 fc,(.o 36 (.build [(.int .i64 0),(.int .i64 0),(.slice .full 0 []),(.str []),(.str []),(.int .i64 0),(.int .i64 0),(.str []),(.slice .full 0 []),(.bool false),(.slice .full 0 []),(.slice .full 0 []),(.slice .full 0 []),(.int .i64 0),(.int .i64 0),(.int .i64 0),(.int .i64 0)] [(13,(1,kV)),(15,(1,(.k (.int .i64 (-1)))))])), .c 37 gb [jK,kU,kW]]) Vi
abbrev Vk:AC:= .seq (.block 1 (.seq (.run [.m 14 cL, .o 15 (.cv cP cL 5), .o 16 (.load dO true 5), .o 5 (.alloc [(.str []),(.slice .full 0 []),(.slice .full 0 []),(.slice .full 0 []),(.slice .full 0 [])]), .m 4 dq, .op none none (.store bW df 5)]) (.seq Vh Vj))) (.run [.o 53 (.bin .add cL (.k (.int .i64 1))), .m 12 o7])
abbrev Vl:AC:= .block 0 (.loop (.seq (.run [.o 13 (.bin .lss cL dv)]) (.seq (.cond dw .skip (.exit 0)) Vk)))
abbrev Vm:AC:= .seq (.seq (.run [.o 9 (.aG bB 1), .o 10 (.load dF false 1), .o 11 (.len cP), .o 12 (.mv (.k (.int .i64 0)))]) Vl) (.seq (.run [.m 54 cV, .m 2 o8]) .ret)
abbrev Vn:AC:= .seq (.run [.o 1 (.box bT), .o 2 (.mv (.k .dG))]) (.seq (.run [.o 6 (.load bB true 2), .o 7 (.build [(.slice .full 0 []),(.slice .full 0 []),(.slice .full 0 []),(.slice .full 0 []),(.slice .full 0 [])] [(0,(2,de))]), .o 8 (.box cz), .m 3 cG]) Vm)
abbrev Vo:AC:= .seq (.block 1 (.seq (.run [.o 11 (.cv cz dF 2), .o 12 (.load dv true 2), .o 5 (.alloc [(.str []),(.bool false)]), .op none none (.store bW cL 2)]) (.run [.m 13 cV, .o 14 (.aG bW 0), .o 15 (.load dq false 1), .o 16 (.dd [(.str [])] 1 1 [(0,dO)]), .o 17 (.app 1 16 dw df), .m 3 dQ]))) (.run [.o 18 (.bin .add dF (.k (.int .i64 1))), .m 9 ei])
abbrev Vp:AC:= .block 0 (.loop (.seq (.run [.o 10 (.bin .lss dF cG)]) (.seq (.cond cP .skip (.exit 0)) Vo)))
abbrev Vq:AC:= .seq (.seq (.run [.o 6 (.aG bB 1), .o 7 (.load de false 1), .o 8 (.len cz), .o 9 (.mv (.k (.int .i64 0)))]) Vp) (.seq (.run [.m 19 cV, .o 20 (.aG bB 2), .o 21 (.load fB false 1), .o 22 (.app 1 16 fA fC), .m 2 fH]) .ret)
abbrev Vr:AC:= .seq (.run [.o 1 (.box bT), .o 2 (.mv (.k (.slice .full 0 [])))]) (.seq (.run [.o 3 (.mv (.k (.slice .full 0 [])))]) Vq)
abbrev Vs:AC:= .seq (.run [.o 4 (.mv (.k (.bool false)))]) (.seq (.run [.m 5 bT, .m 6 bB, .c 7 gH [bW,de], .o 8 (.bin .geq cz (.k (.int .i64 0))), .m 4 cG]) .ret)
abbrev Vt:AC:= .seq (.run [.o 3 (.mv (.k (.bool false)))]) (.seq (.run [.o 4 (.aG bB 0), .o 5 (.load fc false 1), .m 6 bT, .c 7 bJ [bW,de], .m 3 cz]) .ret)
abbrev Vu:AC:= .seq (.run [.o 4 (.mv (.k (.bool false)))]) (.seq (.run [.m 5 bT, .m 6 bB, .c 7 fy [bW,de], .o 8 (.bin .geq cz (.k (.int .i64 0))), .m 4 cG]) .ret)
abbrev Vv:AC:= .par [.m 5 bT, .o 6 (.fQ bW), .o 7 (.aG de 2), .o 8 (.load cz false 1), .m 9 bT, .o 10 (.fQ dF), .o 11 (.aG cP 3), .o 12 (.load dv false 1), .m 13 bB, .o 14 (.cv cL dw 1), .o 15 (.load dq false 1), .o 16 (.bin .sub dO (.k (.int .i64 1))), .m 17 bT, .o 18 (.fQ dQ), .o 19 (.aG ei 4), .o 20 (.load fA false 1), .m 21 bB, .o 22 (.cv fB fC 1), .o 23 (.load fH false 1), .o 24 (.bin .sub fD (.k (.int .i64 1))), .o 25 (.yW 17 cG (some df) (some gv)), .m 4 gm] [(0,0),(1,0),(2,0),(3,0),(4,0),(5,0),(6,0),(7,0),(8,0),(9,0),(10,0),(11,0),(12,0),(13,0),(14,0),(15,0),(16,0),(17,0),(18,0),(19,0),(20,0),(21,0)]
abbrev Vw:AC:= .seq (.run [.o 4 (.mv (.k (.slice .full 0 [])))]) (.seq Vv .ret)
abbrev Vx:AC:= .cond fH (.seq (.run [.o 8 (.mv (.k (.bool false)))]) .ret) .skip
abbrev Vy:AC:= .seq (.run [.o 16 (.cv cL dq 1), .o 17 (.load df false 1), .m 10 dQ]) (.seq (.run [.o 18 (.load fc true 2), .o 19 (.load bW true 5), .m 20 cP, .c 21 oX [ei,fA,fB], .o 22 (.bin .eql fC (.k (.int .i64 0)))]) Vx)
abbrev Vz:AC:= .seq (.cond dO .skip (.exit 0)) (.seq (.block 1 Vy) (.run [.o 23 (.bin .add dq (.k (.int .i64 1))), .m 14 fD]))
abbrev VA:AC:= .seq (.run [.o 11 (.load cz true 13), .c 12 mc [dv], .o 13 (.len cL), .o 14 (.mv (.k (.int .i64 0)))]) (.block 0 (.loop (.seq (.run [.o 15 (.bin .lss dq dw)]) Vz)))
abbrev VB:AC:= .seq VA (.seq (.run [.o 24 (.aG cz 1), .o 25 (.load gv false 1), .o 26 (.bin .neq gm (.k (.int .i64 4))), .m 27 ix, .g 28 27 false (.aG cz 4), .g 29 27 false (.load jr false 1), .g 30 27 false (.bin .neq iW (.k (.str [109,97,105,110]))), .g 31 27 false (.mv kd), .g 32 31 true (.mv dP), .g 33 31 true (.aG cz 4), .g 34 31 true (.load jL false 1), .d 35 31 true bJ [jK,kU], .g 36 27 false (.pick jt kV (.k (.bool false))), .o 37 (.pick hY (.k (.bool true)) kW), .m 8 lH]) .ret)
abbrev VC:AC:= .seq (.run [.o 4 (.box bT), .o 5 (.box bB), .o 7 (.box cV), .o 8 (.mv (.k (.bool false)))]) VB
abbrev VD:AC:= .seq (.run [.o 2 (.box bT), .o 3 (.box bB), .o 4 (.mv (.k (.bool false)))]) (.seq (.run [.o 5 (.load dP true 2), .c 6 lp [bW], .o 7 (.yY de 0 false 1), .o 8 (.bin .eql cz (.k (.int .i64 0))), .m 9 cG, .g 10 9 true (.aG dP 1), .g 11 9 true (.load cP false 1), .g 12 9 true (.oy 64 [cV]), .d 13 9 true ew [dv,cL], .o 14 (.pick dF dw (.k (.bool false))), .m 4 dq]) .ret)
abbrev VE:AC:= .seq (.run [.o 26 (.cv fH gv 1), .o 27 (.load ix false 1), .m 8 hY]) (.seq (.run [.m 28 bW, .m 29 cG, .c 30 bJ [jr,iW], .o 31 (.un .not kd)]) (.cond jt (.run [.m 32 bW, .m 33 cG, .o 34 (.dd [(.str [])] 1 1 [(0,jL)]), .o 35 (.app 1 16 jK kU), .m 5 kV]) .skip))
abbrev VF:AC:= .seq (.cond gm .skip (.exit 2)) (.seq (.block 3 VE) (.run [.o 36 (.bin .add gv (.k (.int .i64 1))), .m 24 kW]))
abbrev VG:AC:= .seq (.run [.m 17 bT, .m 18 bW, .m 19 de, .o 20 (.cv ei fA 1), .o 21 (.load fB false 1), .c 22 lu [dQ,fC], .o 23 (.len fH), .o 24 (.mv (.k (.int .i64 0)))]) (.block 2 (.loop (.seq (.run [.o 25 (.bin .lss gv fD)]) VF)))
abbrev VH:AC:= .seq (.seq (.run [.m 11 de, .m 12 bW, .o 13 (.len cL), .o 14 (.bin .lss dv dw)]) (.cond dq .skip (.exit 0))) (.seq (.block 1 VG) (.run [.m 15 de, .o 16 (.bin .add dO (.k (.int .i64 1))), .m 6 df]))
abbrev QN:AC:= .seq (.run [.m 39 bW, .m 4 lI]) .ret
abbrev VI:AC:= .seq (.seq (.run [.o 6 (.mv (.k (.int .i64 0)))]) (.block 0 (.loop VH))) (.seq (.run [.m 37 bW, .c 38 fG [lH]]) QN)
abbrev VJ:AC:= .seq (.run [.o 4 (.mv (.k (.slice .full 0 [])))]) (.seq (.run [.m 9 bB, .o 10 (.dd [(.str [])] 1 1 [(0,dF)]), .m 5 cP]) VI)
abbrev VK:AC:= .seq (.run [.o 16 (.cv cL dq 17), .o 17 (.load df true 17), .o 7 (.alloc [(.int .i64 0),(.int .i64 0),(.slice .full 0 []),(.str []),(.str []),(.int .i64 0),(.int .i64 0),(.str []),(.slice .full 0 []),(.bool false),(.slice .full 0 []),(.slice .full 0 []),(.slice .full 0 []),(.int .i64 0),(.int .i64 0),(.int .i64 0),(.int .i64 0)]), .op none none (.store cz dQ 17)]) (.seq (.run [.o 18 (.aG cz 0), .o 19 (.aG ei 1), .o 20 (.load fA false 1), .o 21 (.bin .eql fB (.k (.int .i64 4)))]) (.cond fC (.run [.m 22 bW, .o 23 (.aG cz 0), .o 24 (.aG fD 4), .o 25 (.load gv false 1), .o 26 (.dd [(.str [])] 1 1 [(0,gm)]), .o 27 (.app 1 16 fH ix), .m 5 hY]) .skip))
abbrev VL:AC:= .seq (.cond dO .skip (.exit 0)) (.seq (.block 1 VK) (.run [.o 28 (.bin .add dq (.k (.int .i64 1))), .m 14 jr]))
abbrev VM:AC:= .seq (.run [.m 8 bT, .m 9 bT, .m 10 bB, .c 11 jf [dF,cP], .c 12 iL [cG,dv], .o 13 (.len cL), .o 14 (.mv (.k (.int .i64 0)))]) (.block 0 (.loop (.seq (.run [.o 15 (.bin .lss dq dw)]) VL)))
abbrev VN:AC:= .seq (.run [.o 4 (.mv (.k (.slice .full 0 [])))]) (.seq (.run [.o 5 (.mv (.k (.slice .full 0 [])))]) (.seq VM (.seq (.run [.m 29 bW, .c 30 fG [iW]]) (.seq (.run [.m 31 bW, .c 32 fS [jt], .m 4 jK]) .ret))))
abbrev VO:AC:= .seq (.run [.o 3 (.box bB), .o 4 (.mv (.k (.int .i64 0)))]) (.seq (.run [.m 5 bT, .o 6 (.fQ bW), .o 7 (.aG de 0), .o 8 (.aG cz 1), .o 9 (.load cG false 1), .o 10 (.oy 66 [cV]), .c 11 dS [dF,cP], .m 4 dv]) .ret)
abbrev VP:AC:= .seq (.seq (.run [.o 31 (.aG bW 0), .o 32 (.load jt false 1)]) (.cond jK (.run [.m 33 cV, .o 34 (.aG bW 1), .o 35 (.load kU false 1), .o 36 (.dd [(.str [])] 1 1 [(0,kV)]), .o 37 (.app 1 16 jL kW), .m 3 lH]) .skip)) (.run [.m 38 cV, .o 39 (.aG bW 2), .o 40 (.load lI true 4), .c 41 mf [oe], .o 42 (.app 1 16 mZ mj), .m 3 og])
abbrev VQ:AC:= .seq (.block 1 (.seq (.run [.o 29 (.cv gm hY 6), .o 30 (.load iW true 6), .o 5 (.alloc [(.bool false),(.str []),(.int .i64 0),(.int .i64 0),(.str []),(.slice .full 0 [])]), .op none none (.store bW kd 6)]) VP)) (.run [.o 43 (.bin .add hY (.k (.int .i64 1))), .m 27 oh])
abbrev VR:AC:= .block 0 (.loop (.seq (.run [.o 28 (.bin .lss hY ix)]) (.seq (.cond jr .skip (.exit 0)) VQ)))
abbrev VS:AC:= .seq (.seq (.run [.o 24 (.aG bB 10), .o 25 (.load gv false 1), .o 26 (.len gm), .o 27 (.mv (.k (.int .i64 0)))]) VR) (.seq (.run [.m 44 cV, .m 2 oi]) .ret)
abbrev VT:AC:= .seq (.seq (.run [.o 6 (.aG bB 1), .o 7 (.load de false 1), .o 8 (.bin .neq cz (.k (.int .i64 10))), .m 9 cG, .g 10 9 true (.aG bB 3), .g 11 9 true (.load cP false 1), .g 12 9 true (.bin .neq dv (.k (.str []))), .o 13 (.pick dF cL (.k (.bool false)))]) (.cond dw (.run [.m 14 cV, .o 15 (.aG bB 3), .o 16 (.load dO false 1), .o 17 (.dd [(.str [])] 1 1 [(0,df)]), .o 18 (.app 1 16 dq dQ), .m 3 ei]) .skip)) (.seq (.run [.m 19 cV, .o 20 (.aG bB 5), .o 21 (.load fB true 4), .c 22 mf [fC], .o 23 (.app 1 16 fA fH), .m 3 fD]) VS)
abbrev VU:AC:= .seq (.run [.o 1 (.box bT), .o 2 (.mv (.k (.slice .full 0 [])))]) (.seq (.run [.o 3 (.mv (.k (.slice .full 0 [])))]) VT)
abbrev VV:AC:= .seq (.run [.m 3 bT,(.o 4 (.build [(.int .i64 0),(.int .i64 0),(.str []),(.slice .full 0 [])] [(0,(1,(.k (.int .i64 1)))),(1,(1,cV))])), .op none none (.store dP fc 4)]) .ret
abbrev VW:AC:= .seq (.run [.o 2 (.alloc [(.int .i64 0),(.int .i64 0),(.str []),(.slice .full 0 [])])]) VV
abbrev VX:AC:= .seq (.run [.m 3 bT,(.o 4 (.build [(.int .i64 0),(.int .i64 0),(.str []),(.slice .full 0 [])] [(0,(1,(.k (.int .i64 2)))),(2,(1,cV))])), .op none none (.store dP fc 4)]) .ret
abbrev VY:AC:= .seq (.run [.o 2 (.alloc [(.int .i64 0),(.int .i64 0),(.str []),(.slice .full 0 [])])]) VX
abbrev VZ:AC:= .seq (.run [.o 4 (.box bB), .o 5 (.box dP), .o 6 (.alloc [(.int .i64 0),(.int .i64 0),(.str []),(.slice .full 0 [])])]) (.seq (.run [.m 7 bT, .o 8 (.load fc true 4), .o 9 (.load bW true 4), .o 10 (.dd [(.int .i64 0),(.int .i64 0),(.str []),(.slice .full 0 [])] 4 2 [(0,cG),(1,dF)]), .o 11 (.build [(.int .i64 0),(.int .i64 0),(.str []),(.slice .full 0 [])] [(0,(1,cz)),(3,(1,cP))]), .op none none (.store de dv 4)]) .ret)
abbrev V0:AC:= .seq (.seq (.run [.m 10 bW, .o 11 (.aG dP 3), .o 12 (.load dv false 1), .o 13 (.len cL), .o 14 (.bin .lss cP dw), .m 15 dq, .g 16 15 true (.mv bB), .g 17 15 true (.bin .leq df (.k (.int .i64 20000))), .o 18 (.pick dO dQ (.k (.bool false)))]) (.cond ei .skip (.exit 0))) (.seq (.block 1 (.run [.o 21 (.aG dP 3), .o 22 (.load fC false 1), .m 23 bW, .o 24 (.cv fH fD 4), .o 25 (.load gv true 4), .m 26 bB, .c 27 ga [gm,ix], .m 1 hY])) (.run [.m 19 bW, .o 20 (.bin .add fA (.k (.int .i64 1))), .m 5 fB]))
abbrev V1:AC:= .seq (.seq (.run [.o 5 (.mv (.k (.int .i64 0)))]) (.block 0 (.loop V0))) (.seq (.run [.m 28 bB, .m 4 jr]) .ret)
abbrev V2:AC:= .seq (.run [.o 2 (.box bT), .o 4 (.mv (.k (.int .i64 0)))]) (.seq (.run [.o 6 (.aG dP 2), .o 7 (.load de false 1), .m 8 bB, .c 9 dW [cz,cG], .m 1 dF]) V1)
abbrev V3:AC:= .cond dw (.seq (.run [.o 2 (.mv (.k (.bool false)))]) .ret) .skip
abbrev V4:AC:= .seq (.block 1 (.seq (.run [.o 9 (.cv bW cz 1), .o 10 (.load dF false 1), .m 4 cP]) (.seq (.run [.m 11 fc, .c 12 jJ [dv], .o 13 (.un .not cL)]) V3))) (.run [.o 14 (.bin .add cz (.k (.int .i64 1))), .m 7 dq])
abbrev V5:AC:= .block 0 (.loop (.seq (.run [.o 8 (.bin .lss cz de)]) (.seq (.cond cG .skip (.exit 0)) V4)))
abbrev V6:AC:= .seq (.seq (.run [.m 5 bT, .o 6 (.len bW), .o 7 (.mv (.k (.int .i64 0)))]) V5) (.seq (.run [.o 2 (.mv (.k (.bool true)))]) .ret)
abbrev V7:AC:= .seq (.run [.o 2 (.mv (.k (.bool false)))]) V6
abbrev V8:AC:= .cond df (.seq (.run [.o 2 (.mv (.k (.bool false)))]) .ret) .skip
abbrev V9:AC:= .seq (.seq (.run [.m 3 bT, .o 4 (.oM cV), .o 5 (.bin .lss fc (.k (.int .i64 1))), .m 6 bW, .g 7 6 false (.mv bT), .g 8 6 false (.oM cz), .g 9 6 false (.bin .gtr cG (.k (.int .i64 8))), .o 10 (.pick de (.k (.bool true)) dF), .m 11 cP, .g 12 11 false (.mv bT), .g 13 11 false (.sx cL (.k (.int .i64 0))), .d 14 11 false mg [dw], .g 15 11 false (.un .not dq), .o 16 (.pick dv (.k (.bool true)) dO)]) V8) (.seq (.run [.m 17 bT, .c 18 s4 [dQ,(.k (.int .i64 0))], .m 19 bT, .o 20 (.oM fA), .o 21 (.bin .eql ei fB), .m 22 fC, .g 23 22 true (.mv bT), .d 24 22 true ry [fD], .g 25 22 true (.un .not gv), .o 26 (.pick fH gm (.k (.bool false))), .m 2 ix]) .ret)
abbrev Wa:AC:= .seq (.run [.o 2 (.mv (.k (.bool false)))]) V9
abbrev Wb:AC:= .cond dO (.seq (.run [.o 6 (.mv (.k (.bool false)))]) .ret) .skip
abbrev Wc:AC:= .par [.m 29 bT, .o 30 (.fQ iW), .o 31 (.aG kd 0), .o 32 (.load jt false 1), .o 33 (.bin .gtr jK (.k (.int .i64 200))), .m 34 jL, .g 35 34 false (.aG cG 0), .g 36 34 false (.load kV false 1), .g 37 34 false (.mv bT), .g 38 34 false (.fQ lH), .g 39 34 false (.aG mZ 0), .g 40 34 false (.load lI false 1), .g 41 34 false (.bin .neq kW oe), .o 42 (.pick kU (.k (.bool true)) mj), .m 43 og, .g 44 43 false (.aG cG 2), .g 45 43 false (.load oi false 1), .d 46 43 false jq [oY], .g 47 43 false (.un .not oZ), .o 48 (.pick oh (.k (.bool true)) o3), .m 49 o4, .g 50 49 false (.load cG true 13), .d 51 49 false oc [o5], .g 52 49 false (.un .not lJ), .o 53 (.pick na (.k (.bool true)) o6)] [(0,0),(1,0),(2,0),(3,0),(4,0),(5,0),(6,0),(7,0),(8,0),(9,0),(10,0),(11,0),(12,0),(13,0),(14,0),(15,0),(16,0),(17,0),(18,0),(19,0),(20,0),(21,0),(22,0),(23,0),(24,0)]
abbrev Wd:AC:= .cond o7 (.seq (.run [.o 6 (.mv (.k (.bool false)))]) .ret) .skip
abbrev Wf:AC:= .cond w6 (.seq (.run [.o 6 (.mv (.k (.bool false)))]) .ret) .skip
abbrev Wg:AC:= .seq (.seq Wc Wd) (.seq (.run [.m 54 bT, .o 55 (.aG cG 11), .o 56 (.load qx false 1), .m 57 dP, .o 58 (.bin .add qz (.k (.int .i64 1))), .c 59 gl [o8,qy,qA], .o 60 (.un .not nc), .m 61 rz, .g 62 61 false (.mv bT), .g 63 61 false (.aG cG 12), .g 64 61 false (.load uZ false 1), .g 65 61 false (.mv dP), .g 66 61 false (.bin .add u5 (.k (.int .i64 1))), .d 67 61 false gl [s7,rA,w5], .g 68 61 false (.un .not u6), .o 69 (.pick uY (.k (.bool true)) u7)]) Wf)
abbrev Wh:AC:= .seq (.run [.o 20 (.cv df ei 13), .o 21 (.load fB true 13), .o 8 (.alloc [(.int .i64 0),(.int .i64 0),(.slice .full 0 []),(.str []),(.str []),(.int .i64 0),(.int .i64 0),(.str []),(.slice .full 0 []),(.bool false),(.slice .full 0 []),(.slice .full 0 []),(.slice .full 0 [])]), .op none none (.store cG fC 13)]) (.seq (.run [.m 22 bT, .o 23 (.fQ fH), .o 24 (.aG fD 0), .o 25 (.load gv false 1), .o 26 (.bin .add gm (.k (.int .i64 1))), .o 27 (.fQ fH), .o 28 (.aG hY 0), .op none none (.store jr ix 1)]) Wg)
abbrev Wi:AC:= .seq (.cond fA .skip (.exit 0)) (.seq (.block 1 Wh) (.run [.o 70 (.bin .add ei (.k (.int .i64 1))), .m 18 w7]))
abbrev Wj:AC:= .seq (.run [.m 16 bB, .o 17 (.len df), .o 18 (.mv (.k (.int .i64 0)))]) (.block 0 (.loop (.seq (.run [.o 19 (.bin .lss ei dQ)]) Wi)))
abbrev Wl:AC:= .seq Wj (.seq (.run [.o 6 (.mv (.k (.bool true)))]) .ret)
abbrev Wm:AC:= .seq (.seq (.run [.m 9 dP, .o 10 (.bin .gtr dF (.k (.int .i64 12))), .m 11 cP, .g 12 11 true (.mv bB), .g 13 11 true (.len cL), .g 14 11 true (.bin .gtr dw (.k (.int .i64 0))), .o 15 (.pick dv dq (.k (.bool false)))]) Wb) Wl
abbrev Wn:AC:= .seq (.run [.o 6 (.mv (.k (.bool false)))]) Wm
abbrev Wo:AC:= .par [.m 37 bT, .m 38 bT, .o 39 (.fQ mZ), .o 40 (.aG lI 2), .o 41 (.load oe false 1), .o 42 (.load dF true 17), .o 43 (.dd [(.int .i64 0),(.int .i64 0),(.slice .full 0 []),(.str []),(.str []),(.int .i64 0),(.int .i64 0),(.str []),(.slice .full 0 []),(.bool false),(.slice .full 0 []),(.slice .full 0 []),(.slice .full 0 []),(.int .i64 0),(.int .i64 0),(.int .i64 0),(.int .i64 0)] 17 1 [(0,og)]), .o 44 (.app 17 240 mj oh), .o 45 (.fQ lH), .o 46 (.aG oY 2), .op none none (.store oZ oi 1)] [(1,0),(2,0),(3,0),(4,0),(5,0),(6,0),(7,0),(0,0),(8,0),(9,0),(10,0)]
abbrev Wp:AC:= .run [.o 47 (.aG bW 13), .o 48 (.load o3 false 1), .m 49 cG, .o 50 (.aG dF 15), .o 51 (.load o5 false 1), .o 52 (.aG bW 16), .o 53 (.load o6 false 1), .o 54 (.build [(.int .i64 0),(.int .i64 0),(.slice .full 0 []),(.str []),(.str []),(.int .i64 0),(.int .i64 0),(.str []),(.slice .full 0 []),(.bool false),(.slice .full 0 []),(.slice .full 0 []),(.slice .full 0 []),(.int .i64 0),(.int .i64 0),(.int .i64 0),(.int .i64 0)] [(13,(1,o4)),(14,(1,na)),(15,(1,lJ)),(16,(1,o7))]), .o 10 (.alloc [(.int .i64 0),(.int .i64 0),(.slice .full 0 []),(.str []),(.str []),(.int .i64 0),(.int .i64 0),(.str []),(.slice .full 0 []),(.bool false),(.slice .full 0 []),(.slice .full 0 []),(.slice .full 0 []),(.int .i64 0),(.int .i64 0),(.int .i64 0),(.int .i64 0)]), .op none none (.store cP o8 17)]
abbrev Wq:AC:= .seq (.seq (.run [.o 55 (.aG cz 1), .o 56 (.load qx false 1), .o 57 (.bin .eql qy (.k (.int .i64 6)))]) (.cond qz (.run [.m 58 cG, .m 59 cG, .o 60 (.aG cP 15), .op none none (.store rz qA 1), .o 61 (.aG cP 16), .op none none (.store uY nc 1)]) .skip)) (.seq (.run [.m 62 bT, .o 63 (.aG cz 11), .o 64 (.load uZ false 1), .o 65 (.load cP true 17), .c 66 gb [s7,rA,u5]]) (.run [.m 67 bT, .o 68 (.aG cz 12), .o 69 (.load u7 false 1), .o 70 (.load cP true 17), .c 71 gb [u6,w6,w7]]))
abbrev Wr:AC:= .seq (.seq (.run [.m 27 de, .o 28 (.bin .add hY (.k (.int .i64 1))), .m 29 bB, .o 30 (.len iW), .o 31 (.bin .lss jr kd)]) (.cond jt (.run [.m 32 cG, .o 33 (.load cz true 13), .c 34 iV [jL], .o 35 (.bin .add jK kU), .o 36 (.aG dF 15), .op none none (.store kW kV 1)]) .skip)) (.seq Wo (.seq Wp Wq))
abbrev Ws:AC:= .seq (.run [.m 15 dw, .o 16 (.cv dv dw 13), .o 17 (.load df true 13), .o 7 (.alloc [(.int .i64 0),(.int .i64 0),(.slice .full 0 []),(.str []),(.str []),(.int .i64 0),(.int .i64 0),(.str []),(.slice .full 0 []),(.bool false),(.slice .full 0 []),(.slice .full 0 []),(.slice .full 0 [])]), .m 6 dO, .op none none (.store cz dQ 13)]) (.seq (.run [.m 18 bT, .o 19 (.fQ ei), .o 20 (.aG fA 2), .o 21 (.load fB false 1), .o 22 (.len fC), .o 23 (.bin .add fH (.k (.int .i64 1))), .m 8 fD]) (.seq (.run [.o 24 (.load bW true 17), .o 9 (.alloc [(.int .i64 0),(.int .i64 0),(.slice .full 0 []),(.str []),(.str []),(.int .i64 0),(.int .i64 0),(.str []),(.slice .full 0 []),(.bool false),(.slice .full 0 []),(.slice .full 0 []),(.slice .full 0 []),(.int .i64 0),(.int .i64 0),(.int .i64 0),(.int .i64 0)]), .op none none (.store dF gv 17)]) (.seq (.run [.o 25 (.load cz true 13), .o 26 (.aG dF 0), .op none none (.store ix gm 13)]) Wr)))
abbrev Wt:AC:= .seq (.cond dq .skip (.exit 0)) (.seq (.block 1 Ws) (.run [.o 72 (.bin .add dw (.k (.int .i64 1))), .m 13 z1]))
abbrev Wu:AC:= .seq (.run [.m 11 bB, .o 12 (.len dv), .o 13 (.mv (.k (.int .i64 0)))]) (.block 0 (.loop (.seq (.run [.o 14 (.bin .lss dw cL)]) Wt)))
abbrev Wv:AC:= .seq (.run [.o 5 (.box dP)]) Wu
abbrev Ww:AC:= .block 1 (.seq (.run [.m 10 cG, .m 5 cP]) (.seq (.run [.m 11 bB, .m 12 bT, .m 13 bW, .o 14 (.cv cL dw 1), .o 15 (.load dq false 1),(.fE (some 16) none 11 [dO])]) (.cond df (.seq (.run [.m 17 bW, .m 4 dQ]) .ret) .skip)))
abbrev Wx:AC:= .seq (.cond dF .skip (.exit 0)) (.seq Ww (.run [.o 18 (.bin .add cG (.k (.int .i64 1))), .m 8 ei]))
abbrev Wy:AC:= .seq (.run [.m 6 bT, .o 7 (.len de), .o 8 (.mv (.k (.int .i64 0)))]) (.block 0 (.loop (.seq (.run [.o 9 (.bin .lss cG cz)]) Wx)))
abbrev Wz:AC:= .seq (.run [(.o 4 (.mv (.k (.int .i64 (-1)))))]) .ret
abbrev WA:AC:= .seq (.run [.o 4 (.mv (.k (.int .i64 0)))]) (.seq Wy Wz)
abbrev WB:AC:= .cond fD (.seq (.run [.o 6 (.mv (.k (.int .i64 3)))]) .ret) .skip
abbrev WC:AC:= .cond hY (.seq (.run [.o 6 (.mv (.k (.int .i64 2)))]) .ret) .skip
abbrev WD:AC:= .seq (.seq (.run [.o 16 (.aG cG 0), .o 17 (.load df false 1), .m 18 dP, .o 19 (.bin .eql dQ ei), .m 20 fA, .g 21 20 true (.aG cG 1), .g 22 20 true (.load fC false 1), .o 23 (.pick fB fH (.k (.bool false)))]) WB) (.seq (.run [.o 24 (.aG cG 0), .o 25 (.load gv false 1), .m 26 dP, .o 27 (.bin .eql gm ix)]) WC)
abbrev WE:AC:= .seq (.block 1 (.seq (.run [.o 14 (.cv cP cL 2), .o 15 (.load dq true 2), .o 8 (.alloc [(.str []),(.bool false)]), .op none none (.store cG dO 2)]) WD)) (.run [.o 28 (.bin .add cL (.k (.int .i64 1))), .m 12 jr])
abbrev WG:AC:= .block 0 (.loop (.seq (.run [.o 13 (.bin .lss cL dv)]) (.seq (.cond dw .skip (.exit 0)) WE)))
abbrev WH:AC:= .cond jK (.seq (.run [.o 6 (.mv (.k (.int .i64 4)))]) .ret) .skip
abbrev WI:AC:= .cond kW (.seq (.run [.o 6 (.mv (.k (.int .i64 1)))]) .ret) .skip
abbrev WJ:AC:= .seq (.seq (.run [.o 33 (.aG cV 0), .o 34 (.load jL false 1), .m 35 dP, .c 36 bJ [kU,kV]]) WI) (.seq (.run [.o 6 (.mv (.k (.int .i64 0)))]) .ret)
abbrev WK:AC:= .seq (.seq (.run [.o 9 (.aG fc 1), .o 10 (.load dF false 1), .o 11 (.len cP), .o 12 (.mv (.k (.int .i64 0)))]) WG) (.seq (.seq (.run [.o 29 (.aG fc 2), .o 30 (.load iW false 1), .m 31 dP, .c 32 bJ [kd,jt]]) WH) WJ)
abbrev WL:AC:= .seq (.run [.o 3 (.box bT), .o 4 (.box bB), .o 6 (.mv (.k (.int .i64 0)))]) WK
abbrev WM:AC:= .seq (.run [.o 4 (.mv (.k (.bool false)))]) (.seq (.run [.m 5 bT, .m 6 bB, .c 7 dS [bW,de], .o 8 (.bin .geq cz (.k (.int .i64 0))), .m 4 cG]) .ret)
abbrev WN:AC:= .seq (.run [.o 2 (.box bT), .o 3 (.mv (.k (.bool false)))]) (.seq (.run [.o 4 (.aG dP 0), .o 5 (.load fc false 1), .o 6 (.load bB false 1), .o 7 (.bin .eql bW de), .m 3 cz]) .ret)
abbrev WO:AC:= .block 1 (.seq (.run [.m 10 cG, .m 5 cP]) (.seq (.run [.m 11 bB, .m 12 bT, .m 13 bW, .o 14 (.cv cL dw 5), .o 15 (.load dq true 5),(.fE (some 16) none 11 [dO])]) (.cond df (.seq (.run [.m 17 bW, .m 4 dQ]) .ret) .skip)))
abbrev WQ:AC:= .seq (.cond dF .skip (.exit 0)) (.seq WO (.run [.o 18 (.bin .add cG (.k (.int .i64 1))), .m 8 ei]))
abbrev WR:AC:= .seq (.run [.m 6 bT, .o 7 (.len de), .o 8 (.mv (.k (.int .i64 0)))]) (.block 0 (.loop (.seq (.run [.o 9 (.bin .lss cG cz)]) WQ)))
abbrev WS:AC:= .seq (.run [(.o 4 (.mv (.k (.int .i64 (-1)))))]) .ret
abbrev WT:AC:= .seq (.run [.o 4 (.mv (.k (.int .i64 0)))]) (.seq WR WS)
abbrev WU:AC:= .seq (.run [.o 2 (.box bT), .o 3 (.mv (.k (.bool false)))]) (.seq (.run [.o 4 (.aG dP 0), .o 5 (.load fc false 1), .o 6 (.load bB false 1), .o 7 (.bin .eql bW de), .m 3 cz]) .ret)
abbrev WV:AC:= .cond bW (.seq (.run [.o 2 (.mv (.k (.slice .full 0 [])))]) .ret) .skip
abbrev WW:AC:= .seq (.seq (.run [.o 3 (.load bB true 4), .c 4 kK [cV], .o 5 (.un .not fc)]) WV) (.seq (.run [.o 6 (.load bB true 4),(.c 7 fi [de,(.k (.slice .full 0 []))]), .m 2 cz]) .ret)
abbrev WX:AC:= .seq (.run [.o 1 (.box bT), .o 2 (.mv (.k (.slice .full 0 [])))]) WW
abbrev WY:AC:= .seq (.run [.o 2 (.mv (.k (.bool false)))]) (.seq (.run [.m 3 bT, .o 4 (.bin .geq cV (.k (.int .u8 97))), .m 5 fc, .g 6 5 true (.mv bT), .g 7 5 true (.bin .leq de (.k (.int .u8 122))), .o 8 (.pick bW cz (.k (.bool false))), .m 2 cG]) .ret)
abbrev WZ:AC:= .seq (.seq (.run [.m 5 bB, .m 6 bT, .o 7 (.oM de), .o 8 (.bin .lss bW cz), .m 9 cG, .g 10 9 true (.mv bT), .g 11 9 true (.mv bB), .g 12 9 true (.sx cP dv), .d 13 9 true mg [cL], .g 14 9 true (.mv dw), .g 15 14 false (.mv bT), .g 16 14 false (.mv bB), .g 17 14 false (.sx dO df), .d 18 14 false qu [dQ], .g 19 9 true (.pick dq (.k (.bool true)) ei), .o 20 (.pick dF fA (.k (.bool false)))]) (.cond fB .skip (.exit 0))) (.block 1 (.run [.m 21 bB, .o 22 (.bin .add fC (.k (.int .i64 1))), .m 1 fH]))
abbrev W0:AC:= .seq (.run [.o 4 (.mv (.k (.int .i64 0)))]) (.seq (.block 0 (.loop WZ)) (.seq (.run [.m 23 bB, .m 4 fD]) .ret))
abbrev W1:AC:= .seq (.run [.o 16 (.bin .eql cV (.k (.str [114,101,97,100]))), .m 4 df]) (.cond fc .skip (.run [.o 17 (.bin .eql cV (.k (.str [112,114,105,110,116]))), .m 4 dQ]))
abbrev W2:AC:= .cond fc .skip (.seq (.run [.o 15 (.bin .eql cV (.k (.str [103,111,116,111]))), .m 4 dO]) (.cond fc .skip W1))
abbrev W3:AC:= .cond fc .skip (.seq (.run [.o 14 (.bin .eql cV (.k (.str [114,101,116,117,114,110]))), .m 4 dq]) W2)
abbrev W4:AC:= .cond fc .skip (.seq (.run [.o 13 (.bin .eql cV (.k (.str [99,111,110,116,105,110,117,101]))), .m 4 dw]) W3)
abbrev W5:AC:= .cond fc .skip (.seq (.run [.o 12 (.bin .eql cV (.k (.str [98,114,101,97,107]))), .m 4 cL]) W4)
abbrev W6:AC:= .cond fc .skip (.seq (.run [.o 11 (.bin .eql cV (.k (.str [119,104,105,108,101]))), .m 4 dv]) W5)
abbrev W7:AC:= .cond fc .skip (.seq (.run [.o 10 (.bin .eql cV (.k (.str [101,108,115,101]))), .m 4 cP]) W6)
abbrev W8:AC:= .cond fc .skip (.seq (.run [.o 9 (.bin .eql cV (.k (.str [105,102]))), .m 4 dF]) W7)
abbrev W9:AC:= .cond fc .skip (.seq (.run [.o 8 (.bin .eql cV (.k (.str [114,101,102]))), .m 4 cG]) W8)
abbrev Xa:AC:= .cond fc .skip (.seq (.run [.o 7 (.bin .eql cV (.k (.str [118,97,114]))), .m 4 cz]) W9)
abbrev Xb:AC:= .cond fc .skip (.seq (.run [.o 6 (.bin .eql cV (.k (.str [112,114,111,99]))), .m 4 de]) Xa)
abbrev Xc:AC:= .cond fc (.seq (.run [.o 2 (.mv (.k (.bool true)))]) .ret) .skip
abbrev Xd:AC:= .seq (.seq (.run [.o 5 (.bin .eql cV (.k (.str [103,108,111,98,97,108]))), .m 4 bW]) Xb) Xc
abbrev Xe:AC:= .seq (.seq (.run [.m 3 bT]) (.block 0 Xd)) (.seq (.run [.o 2 (.mv (.k (.bool false)))]) .ret)
abbrev Xf:AC:= .seq (.run [.o 2 (.mv (.k (.bool false)))]) Xe
abbrev Xg:AC:= .par [.o 10 (.aG bB 9), .o 11 (.load cP false 1), .o 3 (.mv (.k (.bool false))), .o 4 (.mv (.k (.bool false))), .o 5 (.mv (.k (.bool false))), .m 6 dv, .o 7 (.mv (.k (.bool false))), .o 8 (.mv (.k (.bool false)))] [(0,0),(1,0),(2,0),(3,0),(4,0),(5,0),(6,0),(7,0)]
abbrev Xh:AC:= .seq (.run [.o 20 (.bin .eql df (.k (.int .i64 2))), .m 19 fB]) (.cond fA .skip (.run [.o 21 (.bin .eql df (.k (.int .i64 10))), .m 19 fC]))
abbrev Xi:AC:= .seq (.run [.o 38 (.bin .eql df (.k (.int .i64 7))), .m 37 mZ]) (.cond lH .skip (.run [.o 39 (.bin .eql df (.k (.int .i64 8))), .m 37 lI]))
abbrev Xj:AC:= .cond lH .skip (.seq (.run [.o 2 (.mv (.k (.bool false)))]) .ret)
abbrev Xk:AC:= .seq (.run [.o 34 (.bin .eql df (.k (.int .i64 9))), .m 33 kU]) (.cond jL (.run [.o 35 (.aG bB 9), .o 36 (.load kV false 1), .m 5 kW, .o 6 (.mv (.k (.bool false)))]) (.seq Xi Xj))
abbrev Xl:AC:= .seq (.run [.o 32 (.bin .eql df (.k (.int .i64 6))), .m 31 jK]) (.cond jt (.run [.o 5 (.mv (.k (.bool true))), .o 7 (.mv (.k (.bool true)))]) Xk)
abbrev Xm:AC:= .seq (.run [.o 30 (.bin .eql df (.k (.int .i64 5))), .m 29 kd]) (.cond iW (.run [.o 5 (.mv (.k (.bool true))), .o 7 (.mv (.k (.bool true))), .o 8 (.mv (.k (.bool true)))]) Xl)
abbrev Xn:AC:= .seq (.run [.o 25 (.bin .eql df (.k (.int .i64 4))), .m 24 gm]) (.cond gv (.run [.o 26 (.aG bB 3), .o 27 (.load ix false 1), .o 28 (.bin .neq hY (.k (.str []))), .m 3 jr, .o 4 (.mv (.k (.bool true)))]) Xm)
abbrev Xo:AC:= .seq (.run [.o 23 (.bin .eql df (.k (.int .i64 3))), .m 22 fD]) (.cond fH (.run [.o 5 (.mv (.k (.bool true)))]) Xn)
abbrev Xp:AC:= .seq Xh (.cond fA (.run [.o 3 (.mv (.k (.bool true)))]) Xo)
abbrev Xq:AC:= .seq (.run [.o 18 (.bin .eql df (.k (.int .i64 1))), .m 17 ei]) (.cond dQ (.run [.o 3 (.mv (.k (.bool true))), .o 5 (.mv (.k (.bool true)))]) Xp)
abbrev Xr:AC:= .run [.m 40 de, .m 41 oe, .g 42 41 false (.mv cz), .g 43 41 false (.un .not og), .g 44 41 false (.mv oh), .g 45 44 true (.aG bB 11), .g 46 44 true (.load oY false 1), .g 47 44 true (.len oZ), .g 48 44 true (.bin .gtr o3 (.k (.int .i64 0))), .g 49 41 false (.pick oi o4 (.k (.bool false))), .o 50 (.pick mj (.k (.bool true)) na), .m 51 o5, .g 52 51 false (.mv cG), .g 53 51 false (.un .not o6), .g 54 51 false (.mv o7), .g 55 54 true (.aG bB 12), .g 56 54 true (.load qx false 1), .g 57 54 true (.len qy), .g 58 54 true (.bin .gtr qz (.k (.int .i64 0))), .g 59 51 false (.pick o8 qA (.k (.bool false))), .o 60 (.pick lJ (.k (.bool true)) nc), .m 61 rz, .g 62 61 false (.mv dF), .g 63 61 false (.un .not s7), .g 64 61 false (.mv uZ), .g 65 64 true (.aG bB 10), .g 66 64 true (.load u5 false 1), .g 67 64 true (.len w5), .g 68 64 true (.bin .gtr u6 (.k (.int .i64 0))), .g 69 61 false (.pick rA u7 (.k (.bool false))), .o 70 (.pick uY (.k (.bool true)) w6)]
abbrev Xs:AC:= .cond w7 (.seq (.run [.o 2 (.mv (.k (.bool false)))]) .ret) .skip
abbrev Xt:AC:= .cond Ns (.seq (.run [.o 2 (.mv (.k (.bool false)))]) .ret) .skip
abbrev QO:AC:= .seq (.seq (.run [.o 71 (.aG bB 3), .o 72 (.load D1 false 1), .m 73 cV, .c 74 kC [z1,D2], .o 75 (.un .not D3), .m 76 D4, .g 77 76 false (.aG bB 4), .g 78 76 false (.load D5 false 1), .g 79 76 false (.mv fc), .d 80 76 false kC [w8,IF], .g 81 76 false (.un .not IG), .o 82 (.pick z6 (.k (.bool true)) II), .m 83 Nk, .g 84 83 false (.aG bB 5), .g 85 83 false (.load Nn true 4), .g 86 83 false (.mv bW), .d 87 83 false mh [No,Np], .g 88 83 false (.un .not Nq), .o 89 (.pick Nl (.k (.bool true)) Nr)]) Xt) (.seq (.run [.o 90 (.aG bB 10), .o 91 (.load Nt false 1), .c 92 od [Nu], .m 2 Nv]) .ret)
abbrev QP:AC:= .seq (.seq Xr Xs) QO
abbrev Nw:AC:= .seq (.seq (.run [.o 15 (.aG bB 1), .o 16 (.load dO false 1)]) (.block 0 Xq)) QP
abbrev QQ:AC:= .seq (.run [.o 12 (.aG bB 1), .o 13 (.load cL false 1), .o 14 (.bin .eql dw (.k (.int .i64 4))), .m 9 dq]) Nw
abbrev QR:AC:= .seq Xg QQ
abbrev Xu:AC:= .seq (.run [.o 1 (.box bT), .o 2 (.mv (.k (.bool false)))]) QR
end Go.Abs

/-! Have1 -/

namespace Go.Abs
open Go.Proofs
theorem z8:Has Try.prog jI 55 [(2,none)] Vn:=⟨Try.f32,by kernel_rfl,by kernel_rfl⟩
theorem yx:Has Try.prog qt 23 [(2,none)] Vr:=⟨Try.f33,by kernel_rfl,by kernel_rfl⟩
theorem ml:Has Try.prog dN 9 [(4,none)] Vs:=⟨Try.f34,by kernel_rfl,by kernel_rfl⟩
theorem ud:Has Try.prog kl 8 [(3,none)] Vt:=⟨Try.f35,by kernel_rfl,by kernel_rfl⟩
theorem oj:Has Try.prog bJ 9 [(4,none)] Vu:=⟨Try.f36,by kernel_rfl,by kernel_rfl⟩
theorem uf:Has Try.prog iL 26 [(4,none)] Vw:=⟨Try.f37,by kernel_rfl,by kernel_rfl⟩
theorem vY:Has Try.prog lr 38 [(8,none)] VC:=⟨Try.f38,by kernel_rfl,by kernel_rfl⟩
theorem pV:Has Try.prog jY 15 [(4,none)] VD:=⟨Try.f39,by kernel_rfl,by kernel_rfl⟩
theorem yy:Has Try.prog nB 40 [(4,none)] VJ:=⟨Try.f40,by kernel_rfl,by kernel_rfl⟩
theorem vZ:Has Try.prog lu 33 [(4,none)] VN:=⟨Try.f41,by kernel_rfl,by kernel_rfl⟩
theorem sn:Has Try.prog jf 12 [(4,none)] VO:=⟨Try.f42,by kernel_rfl,by kernel_rfl⟩
theorem w9:Has Try.prog mc 45 [(2,none)] VU:=⟨Try.f43,by kernel_rfl,by kernel_rfl⟩
theorem Aa:Has Try.prog me 5 [(2,(some (true,4)))] VW:=⟨Try.f53,by kernel_rfl,by kernel_rfl⟩
theorem yz:Has Try.prog gN 5 [(2,(some (true,4)))] VY:=⟨Try.f54,by kernel_rfl,by kernel_rfl⟩
theorem Ab:Has Try.prog oG 12 [(6,(some (true,4)))] VZ:=⟨Try.f55,by kernel_rfl,by kernel_rfl⟩
theorem s9:Has Try.prog ga 29 [(4,none)] V2:=⟨Try.f56,by kernel_rfl,by kernel_rfl⟩
theorem xa:Has Try.prog jq 15 [(2,none)] V7:=⟨Try.f57,by kernel_rfl,by kernel_rfl⟩
theorem ju:Has Try.prog jJ 27 [(2,none)] Wa:=⟨Try.f58,by kernel_rfl,by kernel_rfl⟩
theorem mn:Has Try.prog gl 71 [(6,none)] Wn:=⟨Try.f59,by kernel_rfl,by kernel_rfl⟩
theorem ta:Has Try.prog gb 73 [] Wv:=⟨Try.f60,by kernel_rfl,by kernel_rfl⟩
theorem nU:Has Try.prog gH 19 [(4,none)] WA:=⟨Try.f61,by kernel_rfl,by kernel_rfl⟩
theorem xb:Has Try.prog oX 37 [(6,none)] WL:=⟨Try.f62,by kernel_rfl,by kernel_rfl⟩
theorem lL:Has Try.prog ew 9 [(4,none)] WM:=⟨Try.f63,by kernel_rfl,by kernel_rfl⟩
theorem ug:Has Try.prog km 8 [(3,none)] WN:=⟨Try.f64,by kernel_rfl,by kernel_rfl⟩
theorem mH:Has Try.prog dS 19 [(4,none)] WT:=⟨Try.f65,by kernel_rfl,by kernel_rfl⟩
theorem qU:Has Try.prog ic 8 [(3,none)] WU:=⟨Try.f66,by kernel_rfl,by kernel_rfl⟩
theorem qV:Has Try.prog mf 8 [(2,none)] WX:=⟨Try.f67,by kernel_rfl,by kernel_rfl⟩
theorem xc:Has Try.prog mg 9 [(2,none)] WY:=⟨Try.f74,by kernel_rfl,by kernel_rfl⟩
theorem Bj:Has Try.prog s4 24 [(4,none)] W0:=⟨Try.f75,by kernel_rfl,by kernel_rfl⟩
theorem Ac:Has Try.prog ry 18 [(2,none)] Xf:=⟨Try.f76,by kernel_rfl,by kernel_rfl⟩
theorem v7:Has Try.prog oc 93 [(2,none)] Xu:=⟨Try.f77,by kernel_rfl,by kernel_rfl⟩
end Go.Abs

/-! Codes2 -/

namespace Go.Abs
abbrev Xv:AC:= .seq (.block 1 (.seq (.run [.o 13 (.cv dF dv 13), .o 14 (.load dw true 13), .o 5 (.alloc [(.int .i64 0),(.int .i64 0),(.slice .full 0 []),(.str []),(.str []),(.int .i64 0),(.int .i64 0),(.str []),(.slice .full 0 []),(.bool false),(.slice .full 0 []),(.slice .full 0 []),(.slice .full 0 [])]), .op none none (.store bW dq 13)]) (.run [.m 15 cV, .o 16 (.load bW true 13), .c 17 iV [df], .o 18 (.bin .add dO dQ), .m 3 ei]))) (.run [.o 19 (.bin .add dv (.k (.int .i64 1))), .m 11 fA])
abbrev Xw:AC:= .block 0 (.loop (.seq (.run [.o 12 (.bin .lss dv cP)]) (.seq (.cond cL .skip (.exit 0)) Xv)))
abbrev Xx:AC:= .seq (.block 3 (.seq (.run [.o 25 (.cv fC fD 13), .o 26 (.load gm true 13), .o 7 (.alloc [(.int .i64 0),(.int .i64 0),(.slice .full 0 []),(.str []),(.str []),(.int .i64 0),(.int .i64 0),(.str []),(.slice .full 0 []),(.bool false),(.slice .full 0 []),(.slice .full 0 []),(.slice .full 0 [])]), .op none none (.store cz ix 13)]) (.run [.m 27 cV, .o 28 (.load cz true 13), .c 29 iV [jr], .o 30 (.bin .add hY iW), .m 3 kd]))) (.run [.o 31 (.bin .add fD (.k (.int .i64 1))), .m 23 jt])
abbrev Xy:AC:= .block 2 (.loop (.seq (.run [.o 24 (.bin .lss fD fH)]) (.seq (.cond gv .skip (.exit 2)) Xx)))
abbrev Xz:AC:= .seq (.seq (.run [.o 20 (.aG bB 12), .o 21 (.load fB false 1), .o 22 (.len fC), .o 23 (.mv (.k (.int .i64 0)))]) Xy) (.seq (.run [.m 32 cV, .m 2 jK]) .ret)
abbrev XA:AC:= .seq (.seq (.run [.o 8 (.aG bB 11), .o 9 (.load cG false 1), .o 10 (.len dF), .o 11 (.mv (.k (.int .i64 0)))]) Xw) Xz
abbrev XB:AC:= .seq (.run [.o 1 (.box bT), .o 2 (.mv (.k (.int .i64 0)))]) (.seq (.run [.o 3 (.mv (.k (.int .i64 1)))]) XA)
abbrev XC:AC:= .seq (.run [.o 1 (.box bT), .o 2 (.mv (.k (.bool false)))]) (.seq (.run [.o 3 (.load bB true 4), .c 4 lf [cV,(.k (.int .i64 20))], .m 2 fc]) .ret)
abbrev XD:AC:= .seq (.block 1 (.seq (.run [.o 27 (.cv fD gm 4), .o 28 (.load hY true 4), .o 6 (.alloc [(.int .i64 0),(.int .i64 0),(.str []),(.slice .full 0 [])]), .op none none (.store de jr 4)]) (.run [.o 29 (.load de true 4), .m 30 bB, .c 31 fi [iW,kd], .m 1 jt]))) (.run [.o 32 (.bin .add gm (.k (.int .i64 1))), .m 25 jK])
abbrev XE:AC:= .block 0 (.loop (.seq (.run [.o 26 (.bin .lss gm gv)]) (.seq (.cond ix .skip (.exit 0)) XD)))
abbrev XF:AC:= .seq (.seq (.run [.o 22 (.aG dP 3), .o 23 (.load fH false 1), .o 24 (.len fD), .o 25 (.mv (.k (.int .i64 0)))]) XE) (.seq (.run [.m 33 bB, .m 4 jL]) .ret)
abbrev XG:AC:= .seq (.seq (.run [.o 7 (.aG dP 0), .o 8 (.load cz false 1), .o 9 (.bin .eql cG (.k (.int .i64 2))), .m 10 dF, .g 11 10 true (.mv bB), .g 12 10 true (.aG dP 2), .g 13 10 true (.load cL false 1), .d 14 10 true bJ [dv,dw], .g 15 10 true (.un .not dq), .o 16 (.pick cP dO (.k (.bool false)))]) (.cond df (.run [.m 17 bB, .o 18 (.aG dP 2), .o 19 (.load ei false 1), .o 20 (.dd [(.str [])] 1 1 [(0,fA)]), .o 21 (.app 1 16 dQ fB), .m 1 fC]) .skip)) XF
abbrev XH:AC:= .seq (.run [.o 2 (.box bT), .o 4 (.mv (.k (.slice .full 0 [])))]) XG
abbrev XI:AC:= .seq (.run [.o 2 (.mv (.k (.bool false)))]) (.seq (.run [.m 3 bT, .o 4 (.bin .geq cV (.k (.int .u8 48))), .m 5 fc, .g 6 5 true (.mv bT), .g 7 5 true (.bin .leq de (.k (.int .u8 57))), .o 8 (.pick bW cz (.k (.bool false))), .m 2 cG]) .ret)
abbrev XJ:AC:= .seq (.run [.o 4 (.mv (.k (.bool false)))]) (.seq (.run [.m 5 bB, .m 6 bW, .g 7 6 true (.mv bT), .d 8 6 true jJ [cz], .o 9 (.pick de cG (.k (.bool false))), .m 10 dF, .g 11 10 false (.mv bB), .g 12 10 false (.un .not dv), .g 13 10 false (.mv cL), .g 14 13 true (.mv bT), .g 15 13 true (.bin .eql dq (.k (.str []))), .g 16 10 false (.pick dw dO (.k (.bool false))), .o 17 (.pick cP (.k (.bool true)) df), .m 4 dQ]) .ret)
abbrev XK:AC:= .seq (.run [.o 2 (.box bT), .o 4 (.mv (.k (.bool false)))]) (.seq (.run [.m 5 bB, .m 6 bW, .g 7 6 true (.load dP true 4), .d 8 6 true kK [cz], .o 9 (.pick de cG (.k (.bool false))), .m 10 dF, .g 11 10 false (.mv bB), .g 12 10 false (.un .not dv), .g 13 10 false (.mv cL), .g 14 13 true (.load dP true 4), .d 15 13 true qv [dq], .g 16 10 false (.pick dw dO (.k (.bool false))), .o 17 (.pick cP (.k (.bool true)) df), .m 4 dQ]) .ret)
abbrev XL:AC:= .cond gm (.seq (.run [.o 2 (.mv (.k (.bool false)))]) .ret) .skip
abbrev XM:AC:= .seq (.run [.o 9 (.cv bW cz 6), .o 10 (.load dF true 6), .o 4 (.alloc [(.bool false),(.str []),(.int .i64 0),(.int .i64 0),(.str []),(.slice .full 0 [])]), .op none none (.store fc cP 6)]) (.seq (.run [.o 11 (.aG fc 1), .o 12 (.load dv false 1), .o 13 (.aG fc 0), .o 14 (.load dw false 1), .c 15 kC [cL,dq], .o 16 (.un .not dO), .m 17 df, .g 18 17 false (.aG fc 2), .g 19 17 false (.load ei true 4), .g 20 17 false (.aG fc 0), .g 21 17 false (.load fB false 1), .g 22 17 false (.un .not fC), .d 23 17 false mh [fA,fH], .g 24 17 false (.un .not fD), .o 25 (.pick dQ (.k (.bool true)) gv)]) XL)
abbrev XN:AC:= .seq (.cond cG .skip (.exit 0)) (.seq (.block 1 XM) (.run [.o 26 (.bin .add cz (.k (.int .i64 1))), .m 7 ix]))
abbrev XO:AC:= .seq (.run [.m 5 bT, .o 6 (.len bW), .o 7 (.mv (.k (.int .i64 0)))]) (.block 0 (.loop (.seq (.run [.o 8 (.bin .lss cz de)]) XN)))
abbrev XP:AC:= .seq XO (.seq (.run [.o 2 (.mv (.k (.bool true)))]) .ret)
abbrev XQ:AC:= .seq (.run [.o 2 (.mv (.k (.bool false)))]) XP
abbrev XR:AC:= .par [.m 7 bB, .o 8 (.bin .lss cz (.k (.int .i64 1))), .m 9 cG, .g 10 9 false (.aG dP 3), .g 11 9 false (.load cP false 1), .g 12 9 false (.len dv), .g 13 9 false (.aG dP 0), .g 14 9 false (.load dw false 1), .d 15 9 false qw [dq], .g 16 9 false (.bin .neq cL dO), .o 17 (.pick dF (.k (.bool true)) df)] [(0,0),(1,0),(2,0),(6,0),(7,0),(8,0),(3,0),(4,1),(5,0),(9,0),(10,0)]
abbrev XS:AC:= .cond dQ (.seq (.run [.o 4 (.mv (.k (.bool false)))]) .ret) .skip
abbrev XT:AC:= .cond kd (.seq (.run [.o 32 (.aG dP 1), .o 33 (.load jK false 1), .o 34 (.bin .eql jL (.k (.int .i64 0))), .m 35 kU, .g 36 35 true (.aG dP 2), .g 37 35 true (.load kW false 1), .d 38 35 true jJ [lH], .o 39 (.pick kV mZ (.k (.bool false))), .m 4 lI]) .ret) .skip
abbrev XU:AC:= .cond fB (.seq (.run [.o 22 (.aG dP 1), .o 23 (.load fH false 1), .o 24 (.bin .geq fD (.k (.int .i64 0))), .m 25 gv, .g 26 25 true (.aG dP 2), .g 27 25 true (.load ix false 1), .g 28 25 true (.bin .eql hY (.k (.str []))), .o 29 (.pick gm jr (.k (.bool false))), .m 4 iW]) .ret) (.seq (.run [.o 31 (.bin .eql fA (.k (.int .i64 2))), .m 30 jt]) XT)
abbrev XV:AC:= .block 0 (.seq (.run [.o 21 (.bin .eql fA (.k (.int .i64 1))), .m 20 fC]) XU)
abbrev XW:AC:= .cond o3 (.seq (.run [.o 4 (.mv (.k (.bool false)))]) .ret) .skip
abbrev XX:AC:= .cond nc (.seq (.run [.o 4 (.mv (.k (.bool false)))]) .ret) .skip
abbrev XY:AC:= .seq (.run [.o 53 (.cv na lJ 4), .o 54 (.load o7 true 4), .o 6 (.alloc [(.int .i64 0),(.int .i64 0),(.str []),(.slice .full 0 [])]), .op none none (.store de o8 4)]) (.seq (.run [.o 55 (.load de true 4), .m 56 bB, .o 57 (.bin .sub qy (.k (.int .i64 1))), .c 58 lf [qx,qz], .o 59 (.un .not qA)]) XX)
abbrev XZ:AC:= .seq (.cond o6 .skip (.exit 1)) (.seq (.block 2 XY) (.run [.o 60 (.bin .add lJ (.k (.int .i64 1))), .m 51 rz]))
abbrev X0:AC:= .seq (.run [.o 48 (.aG dP 3), .o 49 (.load o4 false 1), .o 50 (.len na), .o 51 (.mv (.k (.int .i64 0)))]) (.block 1 (.loop (.seq (.run [.o 52 (.bin .lss lJ o5)]) XZ)))
abbrev X1:AC:= .seq X0 (.seq (.run [.o 4 (.mv (.k (.bool true)))]) .ret)
abbrev X2:AC:= .seq (.seq (.run [.o 40 (.aG dP 1), .o 41 (.load oe false 1), .o 42 (.bin .neq mj (.k (.int .i64 0))), .m 43 og, .g 44 43 false (.aG dP 2), .g 45 43 false (.load oi false 1), .g 46 43 false (.bin .neq oY (.k (.str []))), .o 47 (.pick oh (.k (.bool true)) oZ)]) XW) X1
abbrev X3:AC:= .seq (.run [.o 2 (.box bT), .o 4 (.mv (.k (.bool false)))]) (.seq (.seq XR XS) (.seq (.seq (.run [.o 18 (.aG dP 0), .o 19 (.load ei false 1)]) XV) X2))
abbrev X4:AC:= .seq (.run [.o 1 (.box bT), .o 2 (.mv (.k (.bool false)))]) (.seq (.run [.o 3 (.aG bB 0), .o 4 (.load cV false 1), .o 5 (.bin .eql fc (.k (.int .i64 0))), .m 6 bW, .g 7 6 true (.aG bB 1), .g 8 6 true (.load cz false 1), .g 9 6 true (.bin .eql cG (.k (.int .i64 0))), .o 10 (.pick de dF (.k (.bool false))), .m 11 cP, .g 12 11 true (.aG bB 2), .g 13 11 true (.load cL false 1), .g 14 11 true (.bin .eql dw (.k (.str []))), .o 15 (.pick dv dq (.k (.bool false))), .m 16 dO, .g 17 16 true (.aG bB 3), .g 18 16 true (.load dQ false 1), .g 19 16 true (.len ei), .g 20 16 true (.bin .eql fA (.k (.int .i64 0))), .o 21 (.pick df fB (.k (.bool false))), .m 2 fC]) .ret)
abbrev X5:AC:= .cond dQ (.seq (.run [.o 2 (.mv (.k (.int .i64 2)))]) .ret) .skip
abbrev X6:AC:= .cond cP (.seq (.run [.o 2 (.mv (.k (.int .i64 1)))]) .ret) (.seq (.run [.m 18 bT, .o 19 (.bin .geq ei (.k (.int .i64 5))), .m 20 fA, .g 21 20 true (.mv bT), .g 22 20 true (.bin .leq fC (.k (.int .i64 17))), .o 23 (.pick fB fH (.k (.bool false))), .m 17 fD]) X5)
abbrev X7:AC:= .cond cV (.seq (.run [.o 2 (.mv (.k (.int .i64 0)))]) .ret) (.seq (.run [.m 11 bT, .o 12 (.bin .eql dv (.k (.int .i64 3))), .m 13 cL, .g 14 13 false (.mv bT), .g 15 13 false (.bin .eql dq (.k (.int .i64 4))), .o 16 (.pick dw (.k (.bool true)) dO), .m 10 df]) X6)
abbrev X8:AC:= .block 0 (.seq (.run [.m 4 bT, .o 5 (.bin .eql fc (.k (.int .i64 1))), .m 6 bW, .g 7 6 false (.mv bT), .g 8 6 false (.bin .eql cz (.k (.int .i64 2))), .o 9 (.pick de (.k (.bool true)) cG), .m 3 dF]) X7)
abbrev X9:AC:= .seq (.run [(.o 2 (.mv (.k (.int .i64 (-1)))))]) .ret
abbrev Ya:AC:= .seq (.run [.o 2 (.mv (.k (.int .i64 0)))]) (.seq X8 X9)
end Go.Abs

/-! Have2 -/

namespace Go.Abs
open Go.Proofs
theorem yA:Has Try.prog iV 33 [(2,none)] XB:=⟨Try.f78,by kernel_rfl,by kernel_rfl⟩
theorem u9:Has Try.prog kK 5 [(2,none)] XC:=⟨Try.f79,by kernel_rfl,by kernel_rfl⟩
theorem mq:Has Try.prog fi 34 [(4,none)] XH:=⟨Try.f80,by kernel_rfl,by kernel_rfl⟩
theorem yB:Has Try.prog qu 9 [(2,none)] XI:=⟨Try.f93,by kernel_rfl,by kernel_rfl⟩
theorem xd:Has Try.prog kC 18 [(4,none)] XJ:=⟨Try.f94,by kernel_rfl,by kernel_rfl⟩
theorem xe:Has Try.prog mh 18 [(4,none)] XK:=⟨Try.f95,by kernel_rfl,by kernel_rfl⟩
theorem v8:Has Try.prog od 27 [(2,none)] XQ:=⟨Try.f96,by kernel_rfl,by kernel_rfl⟩
theorem sc:Has Try.prog lf 61 [(4,none)] X3:=⟨Try.f97,by kernel_rfl,by kernel_rfl⟩
theorem yC:Has Try.prog qv 22 [(2,none)] X4:=⟨Try.f104,by kernel_rfl,by kernel_rfl⟩
theorem yD:Has Try.prog qw 24 [(2,none)] Ya:=⟨Try.f105,by kernel_rfl,by kernel_rfl⟩
end Go.Abs

/-! Have3 -/



/-! Frz -/

namespace Go.Abs
theorem aH.sw {P:Program} {f:Nat} {args:List D} {s0 s:St} {o off n m:Nat} {row:List D} (h:aH P f args s0 (.ptr o off) s) (ho:s.al[o]? = some row) (hn:s0.al.length≤n) (hno:n≤o) (hm:s0.aq.length≤m) :
 aH P f args s0 (.cD (D.e8 n m row) off) (s.cut n m):=by
 intro M0 w0 eg r0 ib RV ha
 refine(h M0 w0 eg r0 ib RV ha).mono ?_
 rintro en w ⟨M,d,v0,s',rfl,⟨rfl,rfl⟩,e,r,hv⟩
 have qK:=hv.sH
 have l5:v0 = .pointer (some ⟨M.mu o,off,none⟩):=hv.mT.1
 have D6:o<s'.al.length:=(List.getElem?_eq_some_iff.1 ho).1
 obtain⟨vs,T,hh,dr,⟨jG,_⟩,k8⟩:=r.obj o row ho
 replace hh:=hh.cells qK
 let M':Map:= {M with G:=fun b q=>if b=M.mu o then vs[q]? else M.G b q}
 have Yb : ∀ q,M.G (M.mu o) q=none:=r.gV o D6
 have le:Le M s' M' s':=⟨fun b q v hq=>by
  show(if b=M.mu o then vs[q]? else M.G b q)=some v
  by_cases hb:b=M.mu o
  ·subst hb;rw [Yb]at hq;cases hq
  ·rw [if_neg hb];exact hq,Nat.le_refl _,fun _ _=>rfl,Nat.le_refl _,fun t n' _ e=>⟨n',e,Nat.le_refl _,fun _=>rfl⟩⟩
 have hD : ∀ q,q<(s'.cut n m).al.length→q<s'.al.length∧q≠o:=fun q h=>by rw [lD]at h;omega
 have pW:w0.heap.size≤M.mu o:=e.lU o (by omega) D6
 have ec:=e.cut hn hm
 have Nx:Le M (s'.cut n m) M' (s'.cut n m):=⟨le.G,Nat.le_refl _,fun _ _=>rfl,Nat.le_refl _,fun t n' _ e=>⟨n',e,Nat.le_refl _,fun _=>rfl⟩⟩
 have rc:=r.cut n m
 have nI : ∀ b,b≠M.mu o→∀ q,M'.G b q=M.G b q:=fun b hb q=>if_neg hb
 refine⟨M',_,v0,_,rfl,⟨rfl,rfl⟩,⟨ec.le.trans Nx,ec.kept,ec.lU,ec.lV,fun b q dC=> ?_,ec.size,ec.os,ec.tape,ec.output⟩,⟨fun b q v hq=> ?_,fun q ds hq=> ?_,fun q hq qf=> ?_,rc.inj,fun t n' E2=> ?_,rc.dz,rc.dZ⟩, ?_⟩
 ·by_cases hb:b=M.mu o
  ·subst hb;exact .inl pW
  ·rw [nI b hb]at dC;exact ec.nZ b q dC
 ·have mM:(if b=M.mu o then vs[q]? else M.G b q)=some v:=hq
  by_cases hb:b=M.mu o
  ·rw [if_pos hb]at mM
   rw [hb,gM hh]
   exact⟨mM,jG v (Array.mem_of_getElem? mM)⟩
  ·rw [if_neg hb]at mM
   exact r.comm b q v mM
 ·obtain⟨dJ,T',h3,h4,h5,h6⟩:=rc.obj q ds hq
  exact⟨dJ,T',h3,h4,h5,fun i d v e1 e2=>(h6 i d v e1 e2).mono Nx⟩
 ·obtain⟨h3,h4⟩:=hD q hq
  show M'.G (M.mu q) qf=none
  rw [nI _ (fun e=>h4 (r.inj q o h3 D6 e))]
  exact r.gV q h3 qf
 ·rcases rc.tok t n' E2 with h3 | ⟨b,cap,z,dJ,T',h3,h4,h5,h6,h7⟩
  ·exact .inl h3
  ·refine .inr ⟨b,cap,z,dJ,T',h3,h4,h5,h6,fun qf uS=> ?_,h7.2⟩
   rw [nI _ (fun e=>r.dz t b cap z o (oS ⟨n',E2⟩) h3 D6 e.symm)]
   exact h7.1 qf uS
 ·rw [l5]
  have:=RD.cD (M:=M') (s:=s'.cut n m) (D.e8 n m row) off (M.mu o) 0 (fun i d e1=> ?_) (fun i d u e1 eu=> ?_)
  ·simpa using this
  ·rw [jU,List.getElem?_map,Option.map_eq_some_iff]at e1
   obtain⟨d0,e1,rfl⟩:=e1
   have hi:=(List.getElem?_eq_some_iff.1 e1).1
   refine⟨vs[i]'(by omega), ?_⟩
   show(if M.mu o=M.mu o then vs[0+i]? else _)=_
   rw [if_pos rfl,Nat.zero_add]
   exact Array.getElem?_eq_getElem _
  ·rw [jU,List.getElem?_map,Option.map_eq_some_iff]at e1
   obtain⟨d0,e1,rfl⟩:=e1
   have BI:(if M.mu o=M.mu o then vs[0+i]? else M.G (M.mu o) (0+i))=some u:=eu
   rw [if_pos rfl,Nat.zero_add]at BI
   exact((k8 i d0 u e1 BI).fg n m).mono Nx
theorem aH.Yc {P:Program} {f:FuncId} {res:List (Nat×Option (Bool×Nat))} {body:AC} {args:List D} {s:St} {d:D} {s':St} {nt:Nat} (n m:Nat) (hn:s.al.length≤n) (hm:s.aq.length≤m) (h0:Has P f nt res body) (hl:Nat.ble args.length nt=true)
 (h : ∀ (B:eR) (Q:Exit→Tm→St→Prop),B.s=s→mX n m res d s'=Q→hO P B nt body Q (kh 0 args) s):aH P f args s d s':=by
 obtain⟨fn,hf,hc⟩:=h0
 refine cQ.JM (cQ.intro (Q:=fun d1 s1=>Wk d1 d∧fv s1.al s'.al∧s1.aq=s'.aq) hf hc (Nat.le_of_ble_eq_true hl) fun B hB=>(gk (h B _ hB rfl)).mono fun e tm s1 hr=> ?_) fun d1 s1 ⟨h1,h2,h3⟩=>⟨d,s',h1,h2,h3,rfl,rfl⟩
 subst hB
 cases e with
 | normal=>obtain⟨l,h1,h2,h3,h4⟩:=hr;exact⟨l,h1,_,_,hn,hm,h2,h3,h4⟩
 | ret=>obtain⟨l,h1,h2,h3,h4⟩:=hr;exact⟨l,h1,_,_,hn,hm,h2,h3,h4⟩
 | exit id=>exact hr.elim
 | goto l=>exact hr.elim
 | panic ch=>exact hr.elim
 | outgrown=>exact hr.elim
end Go.Abs

/-! MirLex -/

namespace Go.Abs
def tc (c:UInt8):Bool:=decide ((c.toNat:Int)≥97) && decide ((c.toNat:Int)≤122)
def wa (c:UInt8):Bool:=decide ((c.toNat:Int)≥48) && decide ((c.toNat:Int)≤57)
def Yd (c:UInt8):Bool:=(c.toNat:Int)==32 || (c.toNat:Int)==9 || (c.toNat:Int)==10 || (c.toNat:Int)==13
def kE:ax→Nat
 | []=>0
 | c::r=>if tc c || wa c then kE r+1 else 0
def Ny:ax→Nat
 | []=>0
 | c::r=>if wa c then Ny r+1 else 0
def D8:ax→Nat
 | []=>0
 | c::r=>if(c.toNat:Int) != 10 then D8 r+1 else 0
def isWord (s:ax):Bool:=
 s == [103,108,111,98,97,108] || s == [112,114,111,99] || s == [118,97,114] || s == [114,101,102] || s == [105,102] || s == [101,108,115,101] || s == [119,104,105,108,101] || s == [98,114,101,97,107] || s == [99,111,110,116,105,110,117,101] || s == [114,101,116,117,114,110] || s == [103,111,116,111] || s == [114,101,97,100] || s == [112,114,105,110,116]
def PI (s:ax):Bool:=s == [61,61] || s == [33,61] || s == [60,61] || s == [62,61] || s == [38,38] || s == [124,124]
def Kc (c:UInt8):Bool:=
 (c.toNat:Int)==40 || (c.toNat:Int)==41 || (c.toNat:Int)==123 || (c.toNat:Int)==125 || (c.toNat:Int)==44 || (c.toNat:Int)==59 || (c.toNat:Int)==58 || (c.toNat:Int)==61 ||
 (c.toNat:Int)==33 || (c.toNat:Int)==60 || (c.toNat:Int)==62 || (c.toNat:Int)==43 || (c.toNat:Int)==45 || (c.toNat:Int)==42 || (c.toNat:Int)==47 || (c.toNat:Int)==37
def Kd:ax→Nat
 | []=>0
 | [c]=>if Kc c then 1 else 0
 | c::d::_=>if PI [c,d]then 2 else if Kc c then 1 else 0
def D9:Int→ax→Option Int
 | n,[]=>some n
 | n,c::r=>if n > (9223372036854775807 - ((c.toNat:Int) - 48)) / 10 then none else D9 (n*10+((c.toNat:Int) - 48)) r
def RW (pos:Nat):ax→lb ⊕ Int
 | []=> .inr 2
 | c::r=>
  if tc c then
   let s:=(c::r).take (kE (c::r))
   if s.length > 8 then .inr 4 else .inl ⟨if isWord s then 3 else 1,s,0,pos⟩
  else if wa c then
   let s:=(c::r).take (Ny (c::r))
   if s.length > 1∧(c.toNat:Int)=48 then .inr 2 else
   match D9 0 s with
   | some n=> .inl ⟨2,s,n,pos⟩
   | none=> .inr 4
  else
   if Kd (c::r)=0 then .inr 2 else .inl ⟨4,(c::r).take (Kd (c::r)),0,pos⟩
def Ea:Nat→Nat→ax→List lb→List lb×Int×Int
 | 0,_,_,_=>([],0,0)
 | _+1,pos,[],out=>(out++ [⟨0,[],0,pos⟩],0,0)
 | n+1,pos,c::r,out=>
  if Yd c then Ea n (pos+1) r out
  else if(c.toNat:Int)==35 then Ea n (pos+D8 (c::r)) ((c::r).drop (D8 (c::r))) out
  else match RW pos (c::r)with
   | .inr e=>([],e,pos)
   | .inl t=>if out.length=2000 then([],4,pos)else Ea n (pos+t.text.length) ((c::r).drop t.text.length) (out++ [t])
def qW (text:ax):List lb×Int×Int:=if text.length > 100000 then([],4,0)else Ea (text.length+1) 0 text []
end Go.Abs

/-! MirMay -/

namespace Go.Abs
def tR:ax→Bool
 | []=>true
 | c::r=>if !(tc c) && !(wa c)then false else tR r
def isName:ax→Bool
 | []=>false
 | c::r=>if decide (((r.length+1:Nat):Int) > 8) || !(tc c)then false else if tR r then !(isWord (c::r))else false
def lg (op:Int):Int:=if op==1 || op==2 then 0 else if op==3 || op==4 then 1 else if decide (op≥5) && decide (op≤17)then 2 else -1
mutual
def Ex.form:Ex→Bool
 | ⟨op,n,name,kids⟩=>
  if lg op != (kids.length:Int) || (op != 1 && n != 0) || decide (n<0) || !((op==2) == !(name == [])) || (!(name == []) && !(isName name))then false else Ex.nC kids
def Ex.nC:List Ex→Bool
 | []=>true
 | x::l=>if !(Ex.form x)then false else Ex.nC l
end
mutual
def Ex.texts:Ex→Prop
 | ⟨_,_,name,kids⟩=>name.length<4611686018427387904∧Ex.o9 kids
def Ex.o9:List Ex→Prop
 | []=>True
 | x::l=>x.texts∧Ex.o9 l
end
theorem Ex.wb {x:Ex} : ∀ {l:List Ex},Ex.o9 l→x∈l→x.texts
 | y::l,h,m=>by
  rcases List.mem_cons.1 m with rfl | m
  ·exact h.1
  ·exact Ex.wb h.2 m
theorem Ex.F1 {op n:Int} {name:ax} {kids:List Ex} (h:Ex.texts ⟨op,n,name,kids⟩) {y:Ex} (m:y∈kids):y.texts:=Ex.wb h.2 m
def Ex.may (x:Ex):Bool:=decide (((min x.depth 21:Nat):Int)≤20) && x.form
def Ex.none (x:Ex):Bool:=x.op==0 && x.n==0 && x.name == [] && (x.kids.length:Int)==0
def cT:List ax→Bool
 | []=>true
 | s::l=>if !(isName s)then false else cT l
def Ar.may (a:Ar):Bool:=if a.ref then isName a.name && a.x.none else a.name == [] && a.x.may
def Ar.ea:List Ar→Bool
 | []=>true
 | a::l=>if !(a.may)then false else Ar.ea l
def Sm.Eb (s:Sm):Bool:=s.kind==1 || s.kind==3 || s.kind==5 || s.kind==6 || (s.kind==9 && s.has)
def Sm.hasName (s:Sm):Bool:=s.kind==1 || s.kind==2 || s.kind==10
def Sm.qX (s:Sm):Bool:=s.kind==4
def Sm.one (s:Sm):Bool:=
 if decide (s.kind<1) || decide (s.kind > 10) || !(cT s.labels) || (s.Eb && !(s.x.may)) || (!(s.Eb) && !(s.x.none)) || (s.has && s.kind != 9)then false
 else if(s.hasName && !(isName s.name)) || (!(s.hasName) && !(s.name == []) && !(s.qX && isName s.name))then false
 else if !(s.qX == !(s.proc == [])) || (s.qX && !(isName s.proc)) || (!(s.qX) && decide ((s.args.length:Int) > 0))then false
 else if !(Ar.ea s.args)then false
 else((s.bf.length:Int)==0 || s.kind==5 || s.kind==6) && ((s.bb.length:Int)==0 || s.kind==5)
structure It where
 s:Sm
 deep:Int
 dh:Int
 bb:Bool
mutual
def mr (deep dh:Int) (bb:Bool) (out:List It):Sm→List It
 | ⟨id,kind,labels,name,proc,x,has,args,bf,e⟩=>
  if decide (deep≤12)then fT (deep+1) id true (fT (deep+1) id false (out++ [⟨⟨id,kind,labels,name,proc,x,has,args,bf,e⟩,deep,dh,bb⟩]) bf) e
  else out++ [⟨⟨id,kind,labels,name,proc,x,has,args,bf,e⟩,deep,dh,bb⟩]
def fT (deep dh:Int) (bb:Bool) (out:List It):List Sm→List It
 | []=>out
 | s::l=>if decide ((out.length:Int)≤200)then fT deep dh bb (mr deep dh bb out s) l else out
end
def Pc.flat (f:Pc):List It:=fT 1 0 false [] f.body
def allM (out:List It):List Pc→List It
 | []=>out
 | f::l=>if decide (((out++f.flat).length:Int) > 200)then out++f.flat else allM (out++f.flat) l
def Pg.all (p:Pg):List It:=allM [] p.procs
def Pm.ea:List Pm→Bool
 | []=>true
 | a::l=>if !(isName a.name)then false else Pm.ea l
def Pc.lx:List Pc→Bool
 | []=>true
 | f::l=>
  if !(isName f.name) || decide ((f.params.length:Int) > 8) || decide ((f.vars.length:Int) > 16) || !(cT f.vars) || !(cT f.fin)then false
  else if !(Pm.ea f.params)then false else Pc.lx l
def It.ea (n:Nat):List It→Bool
 | []=>true
 | i::l=>if i.s.id != ((n+1:Nat):Int) || decide (i.deep > 12) || !(i.s.one)then false else It.ea (n+1) l
def Pg.may (p:Pg):Bool:=
 if decide ((p.globals.length:Int) > 16) || decide ((p.procs.length:Int) > 16) || !(cT p.globals)then false
 else if !(Pc.lx p.procs)then false
 else if decide ((p.all.length:Int) > 200)then false else It.ea 0 p.all
end Go.Abs

/-! Prs -/

namespace Go.Abs
open Go.Proofs
@[go_sem] def Zt (r:Rd):List D:= [.slice .shared 4 (r.l.map fW), .int .i64 r.i, .int .i64 r.code, .int .i64 r.zZ, .int .i64 r.n]
end Go.Abs

/-! Lex1 -/

namespace Go.Abs
set_option maxRecDepth 8000
open Go.Proofs
theorem nf (c:UInt8) (s:St):aH Try.prog mg [.int .u8 (c.toNat:Int)] s (.bool (tc c)) s:=by
 refine aH.pure ?_ rfl rfl s
 generalize h:tc c=b
 unfold tc at h
 unfold S0
 refine aH.go xc rfl fun B Q hB hQ=> ?_
 have⟨hD,hF,hJ,hP⟩:=cf
 repeat' (first
 | simp only [go_sem,hD,hF,hJ,hP]
 | (with_reducible first | refine cq fun hc=> ?_ | refine cr fun hc=> ?_ | refine ct (fun hc=> ?_) fun hc=> ?_) <;> (try simp only [hc,bs, ↓reduceIte]at h) <;> try simp only [hc]
 | (with_reducible refine aL hQ ?_;exact im)
 | (cases h;done))
theorem xf (c:UInt8) (s:St):aH Try.prog qu [.int .u8 (c.toNat:Int)] s (.bool (wa c)) s:=by
 refine aH.pure ?_ rfl rfl s
 generalize h:wa c=b
 unfold wa at h
 unfold S0
 refine aH.go yB rfl fun B Q hB hQ=> ?_
 have⟨hD,hF,hJ,hP⟩:=cf
 repeat' (first
 | simp only [go_sem,hD,hF,hJ,hP]
 | (with_reducible first | refine cq fun hc=> ?_ | refine cr fun hc=> ?_ | refine ct (fun hc=> ?_) fun hc=> ?_) <;> (try simp only [hc,bs, ↓reduceIte]at h) <;> try simp only [hc]
 | (with_reducible refine aL hQ ?_;exact im)
 | (cases h;done))
theorem Nz (t:ax) (s:St):aH Try.prog ry [.str t] s (.bool (isWord t)) s:=by
 refine aH.pure ?_ rfl rfl s
 generalize h:isWord t=b
 unfold isWord at h
 unfold S0
 refine aH.go Ac rfl fun B Q hB hQ=> ?_
 have⟨hD,hF,hJ,hP⟩:=cf
 repeat' (first
 | simp only [go_sem,hD,hF,hJ,hP]
 | (with_reducible first | refine cq fun hc=> ?_ | refine cr fun hc=> ?_ | refine ct (fun hc=> ?_) fun hc=> ?_) <;> (try simp only [hc,bs, ↓reduceIte]at h) <;> try simp only [hc]
 | (with_reducible refine aL hQ ?_;exact im)
 | (cases h;done))
theorem PJ {text:ax} {pos:Nat} (hl:text.length<4611686018427387904) (s:St):aH Try.prog s4 [.str text, .int .i64 (pos:Int)] s (.int .i64 ((pos+kE (text.drop pos):Nat):Int)) s:=by
 refine aH.pure ?_ rfl rfl s
 unfold S0
 refine aH.go Bj rfl fun B Q hB hQ=> ?_
 have⟨hD,hF,hJ,hP⟩:=cf
 repeat' (first
 | simp only [go_sem,hD,hF,hJ,hP]
 | (with_reducible first | refine cq fun hc=> ?_ | refine cr fun hc=> ?_ | refine ct (fun hc=> ?_) fun hc=> ?_) <;> (try simp only [hc,bs, ↓reduceIte]at h) <;> try simp only [hc]
 | (with_reducible refine aL hQ ?_;exact im)
 | (cases h;done))
 refine dM 0 0 (bx.ind (ι:=ax×Nat) (fun i=>text.drop i.2=i.1∧i.2+kE i.1=pos+kE (text.drop pos)) (fun i=>i.1.length)
  (fun i=> [(0, .str text),(1, .int .i64 (i.2:Int))]) (fun i=>⟨[],[]⟩) ?_ (text.drop pos,pos) ⟨rfl,rfl⟩)
 rintro⟨rest,k⟩ ⟨h1,h2⟩ IH
 dsimp only at h1 h2
 cases rest with
 | nil=>
  have hD:=drop_nil h1
  simp only [kE,Nat.add_zero]at h2
  rw [← h2]at hQ
  repeat' (first
 | simp only [go_sem,hD,hF,hJ,hP]
 | (with_reducible first | refine cq fun hc=> ?_ | refine cr fun hc=> ?_ | refine ct (fun hc=> ?_) fun hc=> ?_) <;> (try simp only [hc,bs, ↓reduceIte]at h) <;> try simp only [hc]
 | (with_reducible refine aL hQ ?_;exact im)
 | (cases h;done))
 | cons c rest=>
  obtain⟨hF,g2,hD,g4⟩:=drop_cons h1
  have hJ:k<4611686018427387904:=by omega
  cases hb:(tc c || wa c)
  ·simp only [kE,hb,Bool.false_eq_true, ↓reduceIte,Nat.add_zero]at h2
   rw [← h2]at hQ
   simp only [Bool.or_eq_false_iff]at hb
   repeat' (first
 | simp only [go_sem,hD,hF,hJ,hP,hb.1,hb.2]
 | (with_reducible refine CU (nf _ _) ?_)
 | (with_reducible refine CU (xf _ _) ?_)
 | (with_reducible first | refine cq fun hc=> ?_ | refine cr fun hc=> ?_ | refine ct (fun hc=> ?_) fun hc=> ?_) <;> (try simp only [hc,bs, ↓reduceIte]at h) <;> try simp only [hc]
 | (with_reducible refine aL hQ ?_;(try cases h);simp only [aE,aF,dj,dk,go_sem,hD,hF,hJ,hP,hb.1,hb.2];try exact la)
 | (cases h;done))
  ·simp only [kE,hb, ↓reduceIte]at h2
   cases vK:tc c
   ·rw [vK,Bool.false_or]at hb
    repeat' (first
 | simp only [go_sem,hD,hF,hJ,hP,hb,vK]
 | (with_reducible refine CU (nf _ _) ?_)
 | (with_reducible refine CU (xf _ _) ?_)
 | (with_reducible first | refine cq fun hc=> ?_ | refine cr fun hc=> ?_ | refine ct (fun hc=> ?_) fun hc=> ?_) <;> (try simp only [hc,bs, ↓reduceIte]at h) <;> try simp only [hc]
 | (with_reducible refine aL hQ ?_;(try cases h);simp only [aE,aF,dj,dk,go_sem,hD,hF,hJ,hP,hb,vK];try exact la)
 | (cases h;done))
    refine dM 0 0 (IH (rest,k+1) ⟨g2,by dsimp only;omega⟩ (Nat.lt_succ_self _))
   ·repeat' (first
 | simp only [go_sem,hD,hF,hJ,hP,vK]
 | (with_reducible refine CU (nf _ _) ?_)
 | (with_reducible refine CU (xf _ _) ?_)
 | (with_reducible first | refine cq fun hc=> ?_ | refine cr fun hc=> ?_ | refine ct (fun hc=> ?_) fun hc=> ?_) <;> (try simp only [hc,bs, ↓reduceIte]at h) <;> try simp only [hc]
 | (with_reducible refine aL hQ ?_;(try cases h);simp only [aE,aF,dj,dk,go_sem,hD,hF,hJ,hP,vK];try exact la)
 | (cases h;done))
    refine dM 0 0 (IH (rest,k+1) ⟨g2,by dsimp only;omega⟩ (Nat.lt_succ_self _))
def Ye (s:ax):Int×Bool:=match D9 0 s with | some n=>(n,true) | none=>(0,false)
end Go.Abs

/-! Lex2 -/

namespace Go.Abs
open Go.Proofs
def RX (f:Int×Int):List D:= [.int .i64 f.1, .int .i64 f.2]
def PK (text:ax) (out:List lb) (pos:Nat):Tm:= [(0, .str text),(3, .ptr 0 0),(4, .slice (.tok 0) 4 (out.map fW)),(5, .ptr 1 0),(6, .int .i64 (pos:Int))]
def PN (out:List lb):St:=⟨[[.int .i64 0, .int .i64 0],[.junk, .junk, .junk, .junk]],[some out.length]⟩
attribute [go_sem] PK PN RX
end Go.Abs

/-! RefLex1 -/

namespace Go.Abs
open Go.Proofs
def SB (s:ax):Bool:=
 [103,108,111,98,97,108] == s || [112,114,111,99] == s || [118,97,114] == s || [114,101,102] == s || [105,102] == s || [101,108,115,101] == s || [119,104,105,108,101] == s || [98,114,101,97,107] == s || [99,111,110,116,105,110,117,101] == s || [114,101,116,117,114,110] == s || [103,111,116,111] == s || [114,101,97,100] == s || [112,114,105,110,116] == s
end Go.Abs

/-! Prs2 -/

namespace Go.Abs
open Go.Proofs
def OpR (p:Int×Int):Prop:=0≤p.2∧p.2≤6
end Go.Abs

/-! Ref1 -/

namespace Go.Abs
open Go.Proofs
@[go_sem] def Zu (z:D) (r:Rd):List D:= [.slice .shared 4 (r.l.map fW), .int .i64 r.i, .int .i64 r.code, .int .i64 r.zZ,z]
class Cell (z:D):Prop where
 ok:D.ok 0 0 z=true
 fg : ∀ n m,D.fg n m z=z
instance (n:Int):Cell (.int .i64 n):=⟨rfl,fun _ _=>rfl⟩
instance:Cell .junk:=⟨rfl,fun _ _=>rfl⟩
theorem Ln (z:D) [h:Cell z] (n m:Nat):D.fg n m z=z:=h.fg n m
attribute [go_sem] Ln
def Rd.isO (text:ax) (r:Rd):Option Bool:=if r.good then r.is text else some false
end Go.Abs

/-! Ref2 -/

namespace Go.Abs
open Go.Proofs
def NA (s:ax):Int×Int:=
 if [42] == s then(6,5)else if [47] == s then(6,6)else if [37] == s then(6,7)else if [43] == s then(5,8)else if [45] == s then(5,9)
 else if [60] == s then(4,10)else if [60,61] == s then(4,11)else if [62] == s then(4,12)else if [62,61] == s then(4,13)
 else if [61,61] == s then(3,14)else if [33,61] == s then(3,15)else if [38,38] == s then(2,16)else if [124,124] == s then(1,17)else(0,0)
def BZ (p:Int×Int):Prop:=(p.2==0)=(p.1==0)
end Go.Abs

/-! Ref3 -/

namespace Go.Abs
open Go.Proofs
end Go.Abs

/-! RefMay1 -/

namespace Go.Abs
open Go.Proofs
end Go.Abs

/-! RefMay2 -/

namespace Go.Abs
open Go.Proofs
structure Sm.om (s:Sm):Prop where
 Yf : ∀ t∈s.labels,t.length<4611686018427387904
 RY:s.labels.length<4611686018427387904
 name:s.name.length<4611686018427387904
 proc:s.proc.length<4611686018427387904
 x:s.x.size<4611686018427387904
 xt:s.x.texts
 RZ:s.args.length<4611686018427387904
 arg : ∀ a∈s.args,a.x.size<4611686018427387904∧a.x.texts∧a.name.length<4611686018427387904
section
variable {v:Sm} {B:eR} {Q:Exit→Tm→St→Prop} {p:Bool}
end
theorem aH.Yh {P:Program} {f:FuncId} {nt:Nat} {res:List (Nat×Option (Bool×Nat))} {body:AC} {args:List D} {s:St} {d:D} {s':St} (h0:Has P f nt res body) (hl:Nat.ble args.length nt=true)
 (h : ∀ (B:eR) (Q:Exit→Tm→St→Prop),B.s=s→mX s.al.length s.aq.length res d s'=Q→Sem P B nt body Q (kh 0 args) s):aH P f args s d s':=by
 obtain⟨fn,hf,hc⟩:=h0
 exact aH.intro ⟨fn,hf,hc⟩ (Nat.le_of_ble_eq_true hl) fun B hB=>h B _ hB rfl
end Go.Abs

/-! Flat1 -/

namespace Go.Abs
set_option maxRecDepth 8000
open Go.Proofs
def dX (i:Im):List D:= [.int .i64 i.s.id, .int .i64 i.s.kind, .slice .shared 1 (i.s.labels.map encStr), .str i.s.name, .str i.s.proc,
 .int .i64 i.s.x.op, .int .i64 i.s.x.n, .str i.s.x.name, .slice .shared 4 (i.s.x.kids.map bu), .bool i.s.has, .slice .shared 6 (i.s.args.map dm), .slice .shared 13 (i.s.bf.map bl), .slice .shared 13 (i.s.bb.map bl), .int .i64 i.proc, .int .i64 i.up, .int .i64 i.next, .int .i64 i.loop]
def iM (n:Int):List D:= [.int .i64 n]
theorem IJ (i:Im):D.bG 0 0 (dX i)=true:=by simp [dX,D.bG,D.ok,Tag.ok,er,J5,DX,rq]
theorem yO (l:List Im):D.ik 0 0 (l.map dX)=true:=fx IJ l
theorem Ke (n m:Nat) (l:List Im):D.gB n m (l.map dX)=l.map dX:=jo IJ n m l
theorem PO (n m:Nat) (i:Im):D.e8 n m (dX i)=dX i:=fw n m _ (IJ i)
theorem PQ (x:Im):(dX x).length=17:=nd rfl
theorem Lo (x:Im):List.take 17 (dX x)=dX x:=nd rfl
theorem NB (x:Im):List.drop 17 (dX x) = []:=nd rfl
theorem NC (x:Im):List.take 13 (dX x)=bl x.s:=by simp only [dX,cR];rfl
theorem IK (x:Im):(dX x)[0]? = some (.int .i64 x.s.id):=nd rfl
theorem IL (x:Im):(dX x)[1]? = some (.int .i64 x.s.kind):=nd rfl
theorem IM (x:Im):(dX x)[4]? = some (.str x.s.proc):=nd rfl
theorem F2 (x:Im):(dX x)[13]? = some (.int .i64 x.proc):=nd rfl
theorem F3 (x:Im):(dX x)[14]? = some (.int .i64 x.up):=nd rfl
theorem F4 (x:Im):(dX x)[15]? = some (.int .i64 x.next):=nd rfl
theorem F5 (x:Im):(dX x)[16]? = some (.int .i64 x.loop):=nd rfl
theorem Ec (s:Sm) (a b c d:Int):dX ⟨s,a,b,c,d⟩ = [.int .i64 s.id, .int .i64 s.kind, .slice .shared 1 (s.labels.map encStr), .str s.name, .str s.proc,
 .int .i64 s.x.op, .int .i64 s.x.n, .str s.x.name, .slice .shared 4 (s.x.kids.map bu), .bool s.has, .slice .shared 6 (s.args.map dm), .slice .shared 13 (s.bf.map bl), .slice .shared 13 (s.bb.map bl), .int .i64 a, .int .i64 b, .int .i64 c, .int .i64 d]:=nd rfl
theorem Kf (n:Int):D.bG 0 0 (iM n)=true:=rfl
theorem td (l:List Int):D.ik 0 0 (l.map iM)=true:=fx Kf l
theorem F6 (n m:Nat) (l:List Int):D.gB n m (l.map iM)=l.map iM:=jo Kf n m l
attribute [go_sem] Ke PO PQ Lo NB NC IK IL IM F2 F3 F4 F5 F6 iM
theorem ND : ∀ n,n<1000000000→∀ v:Sm,v.size≤n→aH Try.prog iV [.agg (bl v)] S0 (.int .i64 (v.gf:Int)) S0:=by
 intro n
 induction n with
 | zero=>intro _ v h;obtain⟨_,_,_,_,_,_,_,_,_,_⟩:=v;simp only [Sm.size]at h;omega
 | succ n ih=>
 intro hn v hv
 have dr:Sm.aT v.bf≤n∧Sm.aT v.bb≤n∧v.gf=1+Sm.fP v.bf+Sm.fP v.bb:=by
  obtain⟨_,_,_,_,_,_,_,_,_,_⟩:=v
  simp only [Sm.size]at hv;exact⟨by dsimp only;omega,by dsimp only;omega,rfl⟩
 obtain⟨h1,h2,h3⟩:=dr
 have c1:=kB v.bf
 have c2:=kB v.bb
 have l1:=Sm.dt v.bf
 have l2:=Sm.dt v.bb
 have hk : ∀ y,y∈v.bf∨y∈v.bb→∀ s,aH Try.prog iV [.agg (bl y)] s (.int .i64 (y.gf:Int)) s:=fun y hy s=>
  (ih (by omega) y (by rcases hy with hy | hy <;> (have:=Sm.b8 hy;omega))).pure (by simp only [D.bG,D.ok,qp];rfl) rfl s
 rw [h3]
 unfold S0
 refine aH.go yA rfl fun B Q hB hQ=> ?_
 have⟨hD,hF,hJ,hP⟩:=cf
 repeat' (first
 | simp only [go_sem,hD,hF,hJ,hP]
 | (with_reducible refine aL hQ ?_;simp only [aE,aF,Option.some.injEq,exists_eq_left',go_sem,hD,hF,hJ,hP];repeat' (first | exact Ok.out | with_reducible refine aV ?_ ?_ | (simp;done))))
 refine dM 1 0 (bx.ind (ι:=List Sm×Nat×Nat) (fun i=>v.bf.drop i.2.1=i.1∧i.2.2+Sm.fP i.1=1+Sm.fP v.bf) (fun i=>i.1.length)
  (fun i=> [(1, .ptr 0 0),(3, .int .i64 (i.2.2:Int)),(9, .slice .shared 13 (v.bf.map bl)),(10, .int .i64 (v.bf.length:Int)),(11, .int .i64 (i.2.1:Int))]) (fun i=>⟨[bl v],[]⟩) ?_ (v.bf,0,1) ⟨rfl,rfl⟩)
 rintro⟨rest,k,c⟩ ⟨g1,g2⟩ IH
 dsimp only at g1 g2
 cases rest with
 | cons y rest=>
  obtain⟨hF,g3,hD,g4⟩:=drop_cons g1
  have hy:=hk y (.inl (List.mem_of_getElem? hF))
  simp only [Sm.fP]at g2
  have Yi:=uW y
  have Jv:=Sm.b8 (List.mem_of_getElem? hF)
  have w1:IntKind.wrap .i64 ((k:Int)+1)=((k+1:Nat):Int):=by rw [dg] <;> omega
  have w2:IntKind.wrap .i64 ((c:Int)+(y.gf:Int))=((c+y.gf:Nat):Int):=by rw [dg] <;> omega
  repeat' (first
 | simp only [go_sem,hD,hF,hJ,hP,w1,w2]
 | (with_reducible refine CU (hy _) ?_)
 | (with_reducible refine aL hQ ?_;simp only [aE,aF,Option.some.injEq,exists_eq_left',go_sem,hD,hF,hJ,hP];repeat' (first | exact Ok.out | with_reducible refine aV ?_ ?_ | (simp;done))))
  refine dM 1 0 (IH (rest,k+1,c+y.gf) ⟨g3,by dsimp only;omega⟩ (Nat.lt_succ_self _))
 | nil=>
  have hD:=drop_nil g1
  simp only [Sm.fP,Nat.add_zero]at g2
  subst g2
  repeat' (first
 | simp only [go_sem,hD,hF,hJ,hP]
 | (with_reducible refine aL hQ ?_;simp only [aE,aF,Option.some.injEq,exists_eq_left',go_sem,hD,hF,hJ,hP];repeat' (first | exact Ok.out | with_reducible refine aV ?_ ?_ | (simp;done))))
  refine dM 1 0 (bx.ind (ι:=List Sm×Nat×Nat) (fun i=>v.bb.drop i.2.1=i.1∧i.2.2+Sm.fP i.1=1+Sm.fP v.bf+Sm.fP v.bb) (fun i=>i.1.length)
   (fun i=> [(1, .ptr 0 0),(3, .int .i64 (i.2.2:Int)),(21, .slice .shared 13 (v.bb.map bl)),(22, .int .i64 (v.bb.length:Int)),(23, .int .i64 (i.2.1:Int))]) (fun i=>⟨[bl v],[]⟩) ?_ (v.bb,0,1+Sm.fP v.bf) ⟨rfl,rfl⟩)
  rintro⟨rest,k,c⟩ ⟨g1,g2⟩ IH
  dsimp only at g1 g2
  cases rest with
  | cons y rest=>
   obtain⟨hF,g3,hD,g4⟩:=drop_cons g1
   have hy:=hk y (.inr (List.mem_of_getElem? hF))
   simp only [Sm.fP]at g2
   have Yi:=uW y
   have Jv:=Sm.b8 (List.mem_of_getElem? hF)
   have w1:IntKind.wrap .i64 ((k:Int)+1)=((k+1:Nat):Int):=by rw [dg] <;> omega
   have w2:IntKind.wrap .i64 ((c:Int)+(y.gf:Int))=((c+y.gf:Nat):Int):=by rw [dg] <;> omega
   repeat' (first
 | simp only [go_sem,hD,hF,hJ,hP,w1,w2]
 | (with_reducible refine CU (hy _) ?_)
 | (with_reducible refine aL hQ ?_;simp only [aE,aF,Option.some.injEq,exists_eq_left',go_sem,hD,hF,hJ,hP];repeat' (first | exact Ok.out | with_reducible refine aV ?_ ?_ | (simp;done))))
   refine dM 1 0 (IH (rest,k+1,c+y.gf) ⟨g3,by dsimp only;omega⟩ (Nat.lt_succ_self _))
  | nil=>
   have hD:=drop_nil g1
   simp only [Sm.fP,Nat.add_zero]at g2
   subst g2
   repeat' (first
 | simp only [go_sem,hD,hF,hJ,hP]
 | (with_reducible refine aL hQ ?_;simp only [aE,aF,Option.some.injEq,exists_eq_left',go_sem,hD,hF,hJ,hP];repeat' (first | exact Ok.out | with_reducible refine aV ?_ ?_ | (simp;done))))
theorem NF {v:Sm} (h:v.size<1000000000) (s:St):aH Try.prog iV [.agg (bl v)] s (.int .i64 (v.gf:Int)) s:=
 (ND v.size h v (Nat.le_refl _)).pure (by simp only [D.bG,D.ok,qp];rfl) rfl s
end Go.Abs

/-! Flat2 -/

namespace Go.Abs
set_option maxRecDepth 8000
open Go.Proofs
abbrev fj (g ps:D) (L:List Im) (lo hi:List Int):List D:= [g,ps, .slice (.tok 0) 17 (L.map dX), .slice (.tok 1) 1 (lo.map iM), .slice (.tok 2) 1 (hi.map iM)]
abbrev IN (proc up next loop:Int):List D:= [.int .i64 0, .int .i64 0, .slice .full 0 [], .str [], .str [], .int .i64 0, .int .i64 0, .str [], .slice .full 0 [], .bool false, .slice .full 0 [], .slice .full 0 [], .slice .full 0 [], .int .i64 proc, .int .i64 up, .int .i64 next, .int .i64 loop]
theorem aH.PR {P:Program} {f:Nat} {args:List D} {g ps:D} {L L':List Im} {lo hi xD fN:List Int} {a b c a' b' c':Option Nat}
 (h:aH P f (.ptr 0 0::args) ⟨[fj g ps L lo hi],[a,b,c]⟩ (.tuple []) ⟨[fj g ps L' xD fN],[a',b',c']⟩)
 (ha:D.bG 0 0 args=true) (hg:D.ok 0 0 g=true) (hp:D.ok 0 0 ps=true)
 {s:St} {o:Nat} (ho:s.al[o]? = some (fj g ps L lo hi)) (ht:s.aq = [a,b,c]):aH P f (.ptr o 0::args) s (.tuple []) ⟨s.al.set o (fj g ps L' xD fN),[a',b',c']⟩:=by
 have hr : ∀ (L:List Im) (lo hi:List Int),D.eC [o] [0,1,2] (fj g ps L lo hi)=fj g ps L lo hi:=fun L lo hi=>by
  simp [D.eC,D.cB,Tag.cB,mY _ _ _ hg,mY _ _ _ hp,jC _ _ _ (yO L),jC _ _ _ (td lo),jC _ _ _ (td hi)]
 have hk : ∀ (L:List Im) (lo hi:List Int),D.bG 1 3 (fj g ps L lo hi)=true:=fun L lo hi=>by
  simp [D.bG,D.ok,Tag.ok,wW (Nat.zero_le 1) (Nat.zero_le 3) _ hg,wW (Nat.zero_le 1) (Nat.zero_le 3) _ hp,lE (Nat.zero_le 1) (Nat.zero_le 3) _ (yO L),lE (Nat.zero_le 1) (Nat.zero_le 3) _ (td lo),lE (Nat.zero_le 1) (Nat.zero_le 3) _ (td hi)]
 refine cQ.frame [o] [0,1,2] h (by simp) (by decide) (by simpa using (List.getElem?_eq_some_iff.1 ho).1) (by rw [ht];simp) rfl (fun i o' ds e1 e2=> ?_) rfl (fun i t' e1=> ?_)
  (by simp [D.eC,D.cB,eD _ _ _ ha])
  (by simp [D.bG,D.ok,gu (Nat.zero_le 1) (Nat.zero_le 3) _ ha]) ?_
 ·cases i with
  | zero=>simp only [List.getElem?_cons_zero,Option.some.injEq]at e1 e2;subst e1;subst e2;exact⟨by rw [hr];exact ho,hk L lo hi⟩
  | succ i=>simp at e1
 ·rw [ht]
  match i,e1 with
  | 0,e1=>simp at e1;subst e1;rfl
  | 1,e1=>simp at e1;subst e1;rfl
  | 2,e1=>simp at e1;subst e1;rfl
  | i+3,e1=>simp at e1
 ·rintro _ _ ⟨rfl,rfl⟩
  refine⟨by simp [D.back,D.cB,D.eC], ?_⟩
  have:=hr L' xD fN
  simp [St.back,gZ,iz,this,ht]
abbrev Kg (N:Nat):Prop:=∀ (l:List Sm) (proc up next loop:Int) (out:List Im) (g ps:D) (lo hi:List Int) (b c:Option Nat),Sm.aT l<N→out.length+Sm.fP l<1000000000→D.ok 0 0 g=true→D.ok 0 0 ps=true→
 ∀ {s:St} {o:Nat},s.al[o]? = some (fj g ps out lo hi)→s.aq = [some out.length,b,c]→
 aH Try.prog gb [.ptr o 0, .slice .shared 13 (l.map bl), .agg (IN proc up next loop)] s (.tuple []) ⟨s.al.set o (fj g ps (Im.rows proc up next loop out l) lo hi),[some (Im.rows proc up next loop out l).length,b,c]⟩
theorem PS {N:Nat} (ih:Kg N) {l:List Sm} {proc up next loop:Int} {out:List Im} {g ps:D} {lo hi:List Int} {b c:Option Nat} (hs:Sm.aT l<N+1) (hc:out.length+Sm.fP l<1000000000) (hg:D.ok 0 0 g=true) (hp:D.ok 0 0 ps=true) (hN:N<1000000000) :
 aH Try.prog gb [.ptr 0 0, .slice .shared 13 (l.map bl), .agg (IN proc up next loop)] ⟨[fj g ps out lo hi],[some out.length,b,c]⟩ (.tuple []) ⟨[fj g ps (Im.rows proc up next loop out l) lo hi],[some (Im.rows proc up next loop out l).length,b,c]⟩:=by
 obtain⟨R,hR⟩ : ∃ R,R=Im.rows proc up next loop out l:=⟨_,rfl⟩
 have hlR:R.length=out.length+Sm.fP l:=by rw [hR,eh]
 rw [← hR]
 have k1 : ∀ n m,D.fg n m g=g:=fun n m=>DU n m _ hg
 have k2 : ∀ n m,D.fg n m ps=ps:=fun n m=>DU n m _ hp
 refine aH.go ta rfl fun B Q hB hQ=> ?_
 have⟨hD,hF,hJ,hP⟩:=cf
 repeat' (first
 | simp only [go_sem,hD,hF,hJ,hP,k1,k2]
 | (with_reducible first | refine cq fun hc=> ?_ | refine cr fun hc=> ?_ | refine ct (fun hc=> ?_) fun hc=> ?_) <;> (try simp only [hc,bs, ↓reduceIte]at h) <;> try simp only [hc]
 | (with_reducible refine aL hQ ?_;simp only [aE,aF,dj,dk,go_sem,hD,hF,hJ,hP,k1,k2];repeat' (first | exact Ok.out | with_reducible refine aV ?_ ?_ | (simp;done))))
 refine ep 2 3 ?_ ?_ (bx.ind (ι:=List Sm×Nat×List Im) (fun i=>l.drop i.2.1=i.1∧Im.rows proc up next loop i.2.2 i.1=R∧i.2.2.length+Sm.fP i.1=out.length+Sm.fP l) (fun i=>i.1.length)
  (fun i=> [(0, .ptr 0 0),(1, .slice .shared 13 (l.map bl)),(5, .ptr 1 0),(11, .slice .shared 13 (l.map bl)),(12, .int .i64 (l.length:Int)),(13, .int .i64 (i.2.1:Int))]) (fun i=>⟨[fj g ps i.2.2 lo hi,IN proc up next loop],[some i.2.2.length,b,c]⟩) ?_ (l,0,out) ⟨rfl,hR.symm,rfl⟩)
 ·(simp only [go_sem,hD,hF,hJ,hP,k1,k2];try exact bQ)
 ·(simp only [go_sem,hD,hF,hJ,hP,k1,k2];try exact bQ)
 rintro⟨rest,k,bq⟩ ⟨h1,h2,h3⟩ IH
 dsimp only at h1 h2 h3
 have hlen:l.length<1000000000:=by have:=Sm.dt l;omega
 cases rest with
 | nil=>
  have hD:=drop_nil h1
  simp only [Im.rows]at h2
  subst h2
  repeat' (first
 | simp only [go_sem,hD,hF,hJ,hP,k1,k2]
 | (with_reducible first | refine cq fun hc=> ?_ | refine cr fun hc=> ?_ | refine ct (fun hc=> ?_) fun hc=> ?_) <;> (try simp only [hc,bs, ↓reduceIte]at h) <;> try simp only [hc]
 | (with_reducible refine aL hQ ?_;simp only [aE,aF,dj,dk,go_sem,hD,hF,hJ,hP,k1,k2];repeat' (first | exact Ok.out | with_reducible refine aV ?_ ?_ | (simp;done))))
 | cons v rest=>
  obtain⟨hF,g2,hD,g4⟩:=drop_cons h1
  have bY:k<4611686018427387904:=by omega
  have hv:=Sm.b8 (List.mem_of_getElem? hF)
  have nL:Sm.aT v.bf<N∧Sm.aT v.bb<N∧v.gf=1+Sm.fP v.bf+Sm.fP v.bb:=by
   obtain⟨_,_,_,_,_,_,_,_,_,_⟩:=v
   simp only [Sm.size]at hv
   exact⟨by dsimp only;omega,by dsimp only;omega,rfl⟩
  obtain⟨vI,zq,hv3⟩:=nL
  simp only [Sm.fP]at h3
  simp only [Im.rows,Im.Nd]at h2
  have hJ:(bq.length+1)*241≤bO:=by unfold bO;omega
  have BJ:IntKind.wrap .i64 ((bq.length:Int)+1)=(bq.length:Int)+1:=dg (by omega) (by omega)
  have pX:IntKind.wrap .i64 ((k:Int)+1)=((k+1:Nat):Int):=by rw [dg] <;> omega
  have Kh:IntKind.wrap .i64 ((bq.length:Int)+1+(v.gf:Int))=(bq.length:Int)+1+(v.gf:Int):=dg (by omega) (by omega)
  have dr:=fun s=>NF (v:=v) (by omega) s
  simp only [cR]at dr
  have EI:rest.length=l.length - (k+1):=by rw [← g2,List.length_drop]
  by_cases Zv:k+1<l.length
  ·have d1:decide (((k+1:Nat):Int)<(l.length:Int))=true:=by simp;omega
   have e1:(rest.length=0)=False:=by simp;intro h;rw [h]at EI;simp at EI;omega
   by_cases F7:v.kind=6
   ·have d2:(v.kind==6)=true:=by simp [F7]
    simp only [e1,d2, ↓reduceIte,Bool.false_eq_true]at h2
    have f1:=fun {s:St} {o:Nat}=>@ih v.bf proc ((bq.length:Int)+1) ((bq.length:Int)+1) ((bq.length:Int)+1) (bq++ [⟨v,proc,up,((bq.length:Int)+1+(v.gf:Int)),loop⟩]) g ps lo hi b c vI (by simp;omega) hg hp s o
    have f2:=fun {s:St} {o:Nat}=>@ih v.bb proc ((bq.length:Int)+1) ((bq.length:Int)+1) ((bq.length:Int)+1) _ g ps lo hi b c zq (by rw [eh proc ((bq.length:Int)+1) ((bq.length:Int)+1) ((bq.length:Int)+1) (bq++ [⟨v,proc,up,((bq.length:Int)+1+(v.gf:Int)),loop⟩]) v.bf];simp;omega) hg hp s o
    have hl:(Im.rows proc ((bq.length:Int)+1) ((bq.length:Int)+1) ((bq.length:Int)+1) (Im.rows proc ((bq.length:Int)+1) ((bq.length:Int)+1) ((bq.length:Int)+1) (bq++ [⟨v,proc,up,((bq.length:Int)+1+(v.gf:Int)),loop⟩]) v.bf) v.bb).length=bq.length+v.gf:=by rw [eh,eh];simp;omega
    simp only [fj,List.map_append,List.map_cons,List.map_nil,Ec,List.length_append,List.length_cons,List.length_nil]at f1
    repeat' (first
 | simp only [go_sem,hD,hF,hJ,hP,k1,k2,BJ,pX,Kh,d1,d2,cR]
 | (with_reducible refine CU (dr _) ?_)
 | (with_reducible refine CU (f1 (by with_unfolding_all rfl) (by with_unfolding_all rfl)) ?_)
 | (with_reducible refine CU (f2 (by with_unfolding_all rfl) (by with_unfolding_all rfl)) ?_)
 | (with_reducible refine aL hQ ?_;simp only [aE,aF,dj,dk,go_sem,hD,hF,hJ,hP];repeat' (first | exact Ok.out | with_reducible refine aV ?_ ?_ | (simp;done))))
    refine ep 2 3 ?_ ?_ (IH (rest,k+1,_) ⟨g2,h2,by dsimp only;rw [hl];omega⟩ (Nat.lt_succ_self _))
    ·(simp only [go_sem,hD,hF,hJ,hP,pX,k1,k2];try exact bQ)
    ·(simp only [go_sem,hD,hF,hJ,hP,pX,k1,k2];try exact bQ)
   ·have d2:(v.kind==6)=false:=by simp [F7]
    simp only [e1,d2, ↓reduceIte,Bool.false_eq_true]at h2
    have f1:=fun {s:St} {o:Nat}=>@ih v.bf proc ((bq.length:Int)+1) ((bq.length:Int)+1+(v.gf:Int)) loop (bq++ [⟨v,proc,up,((bq.length:Int)+1+(v.gf:Int)),loop⟩]) g ps lo hi b c vI (by simp;omega) hg hp s o
    have f2:=fun {s:St} {o:Nat}=>@ih v.bb proc ((bq.length:Int)+1) ((bq.length:Int)+1+(v.gf:Int)) loop _ g ps lo hi b c zq (by rw [eh proc ((bq.length:Int)+1) ((bq.length:Int)+1+(v.gf:Int)) loop (bq++ [⟨v,proc,up,((bq.length:Int)+1+(v.gf:Int)),loop⟩]) v.bf];simp;omega) hg hp s o
    have hl:(Im.rows proc ((bq.length:Int)+1) ((bq.length:Int)+1+(v.gf:Int)) loop (Im.rows proc ((bq.length:Int)+1) ((bq.length:Int)+1+(v.gf:Int)) loop (bq++ [⟨v,proc,up,((bq.length:Int)+1+(v.gf:Int)),loop⟩]) v.bf) v.bb).length=bq.length+v.gf:=by rw [eh,eh];simp;omega
    simp only [fj,List.map_append,List.map_cons,List.map_nil,Ec,List.length_append,List.length_cons,List.length_nil]at f1
    repeat' (first
 | simp only [go_sem,hD,hF,hJ,hP,k1,k2,BJ,pX,Kh,d1,d2,cR]
 | (with_reducible refine CU (dr _) ?_)
 | (with_reducible refine CU (f1 (by with_unfolding_all rfl) (by with_unfolding_all rfl)) ?_)
 | (with_reducible refine CU (f2 (by with_unfolding_all rfl) (by with_unfolding_all rfl)) ?_)
 | (with_reducible refine aL hQ ?_;simp only [aE,aF,dj,dk,go_sem,hD,hF,hJ,hP];repeat' (first | exact Ok.out | with_reducible refine aV ?_ ?_ | (simp;done))))
    refine ep 2 3 ?_ ?_ (IH (rest,k+1,_) ⟨g2,h2,by dsimp only;rw [hl];omega⟩ (Nat.lt_succ_self _))
    ·(simp only [go_sem,hD,hF,hJ,hP,pX,k1,k2];try exact bQ)
    ·(simp only [go_sem,hD,hF,hJ,hP,pX,k1,k2];try exact bQ)
  ·have d1:decide (((k+1:Nat):Int)<(l.length:Int))=false:=by simp;omega
   have e1:(rest.length=0)=True:=by simp only [eq_iff_iff,iff_true];omega
   by_cases F7:v.kind=6
   ·have d2:(v.kind==6)=true:=by simp [F7]
    simp only [e1,d2, ↓reduceIte,Bool.false_eq_true]at h2
    have f1:=fun {s:St} {o:Nat}=>@ih v.bf proc ((bq.length:Int)+1) ((bq.length:Int)+1) ((bq.length:Int)+1) (bq++ [⟨v,proc,up,next,loop⟩]) g ps lo hi b c vI (by simp;omega) hg hp s o
    have f2:=fun {s:St} {o:Nat}=>@ih v.bb proc ((bq.length:Int)+1) ((bq.length:Int)+1) ((bq.length:Int)+1) _ g ps lo hi b c zq (by rw [eh proc ((bq.length:Int)+1) ((bq.length:Int)+1) ((bq.length:Int)+1) (bq++ [⟨v,proc,up,next,loop⟩]) v.bf];simp;omega) hg hp s o
    have hl:(Im.rows proc ((bq.length:Int)+1) ((bq.length:Int)+1) ((bq.length:Int)+1) (Im.rows proc ((bq.length:Int)+1) ((bq.length:Int)+1) ((bq.length:Int)+1) (bq++ [⟨v,proc,up,next,loop⟩]) v.bf) v.bb).length=bq.length+v.gf:=by rw [eh,eh];simp;omega
    simp only [fj,List.map_append,List.map_cons,List.map_nil,Ec,List.length_append,List.length_cons,List.length_nil]at f1
    repeat' (first
 | simp only [go_sem,hD,hF,hJ,hP,k1,k2,BJ,pX,Kh,d1,d2,cR]
 | (with_reducible refine CU (dr _) ?_)
 | (with_reducible refine CU (f1 (by with_unfolding_all rfl) (by with_unfolding_all rfl)) ?_)
 | (with_reducible refine CU (f2 (by with_unfolding_all rfl) (by with_unfolding_all rfl)) ?_)
 | (with_reducible refine aL hQ ?_;simp only [aE,aF,dj,dk,go_sem,hD,hF,hJ,hP];repeat' (first | exact Ok.out | with_reducible refine aV ?_ ?_ | (simp;done))))
    refine ep 2 3 ?_ ?_ (IH (rest,k+1,_) ⟨g2,h2,by dsimp only;rw [hl];omega⟩ (Nat.lt_succ_self _))
    ·(simp only [go_sem,hD,hF,hJ,hP,pX,k1,k2];try exact bQ)
    ·(simp only [go_sem,hD,hF,hJ,hP,pX,k1,k2];try exact bQ)
   ·have d2:(v.kind==6)=false:=by simp [F7]
    simp only [e1,d2, ↓reduceIte,Bool.false_eq_true]at h2
    have f1:=fun {s:St} {o:Nat}=>@ih v.bf proc ((bq.length:Int)+1) next loop (bq++ [⟨v,proc,up,next,loop⟩]) g ps lo hi b c vI (by simp;omega) hg hp s o
    have f2:=fun {s:St} {o:Nat}=>@ih v.bb proc ((bq.length:Int)+1) next loop _ g ps lo hi b c zq (by rw [eh proc ((bq.length:Int)+1) next loop (bq++ [⟨v,proc,up,next,loop⟩]) v.bf];simp;omega) hg hp s o
    have hl:(Im.rows proc ((bq.length:Int)+1) next loop (Im.rows proc ((bq.length:Int)+1) next loop (bq++ [⟨v,proc,up,next,loop⟩]) v.bf) v.bb).length=bq.length+v.gf:=by rw [eh,eh];simp;omega
    simp only [fj,List.map_append,List.map_cons,List.map_nil,Ec,List.length_append,List.length_cons,List.length_nil]at f1
    repeat' (first
 | simp only [go_sem,hD,hF,hJ,hP,k1,k2,BJ,pX,Kh,d1,d2,cR]
 | (with_reducible refine CU (dr _) ?_)
 | (with_reducible refine CU (f1 (by with_unfolding_all rfl) (by with_unfolding_all rfl)) ?_)
 | (with_reducible refine CU (f2 (by with_unfolding_all rfl) (by with_unfolding_all rfl)) ?_)
 | (with_reducible refine aL hQ ?_;simp only [aE,aF,dj,dk,go_sem,hD,hF,hJ,hP];repeat' (first | exact Ok.out | with_reducible refine aV ?_ ?_ | (simp;done))))
    refine ep 2 3 ?_ ?_ (IH (rest,k+1,_) ⟨g2,h2,by dsimp only;rw [hl];omega⟩ (Nat.lt_succ_self _))
    ·(simp only [go_sem,hD,hF,hJ,hP,pX,k1,k2];try exact bQ)
    ·(simp only [go_sem,hD,hF,hJ,hP,pX,k1,k2];try exact bQ)
theorem Lq : ∀ N,N<1000000000→Kg N:=by
 intro N
 induction N with
 | zero=>exact fun _ l proc up next loop out g ps lo hi b c h=>absurd h (Nat.not_lt_zero _)
 | succ N ih=>
  intro h l proc up next loop out g ps lo hi b c hs hc hg hp s o ho ht
  exact(PS (ih (by omega)) hs hc hg hp (by omega)).PR (by simp [D.bG,D.ok,Tag.ok,rq,D.ik]) hg hp ho ht
end Go.Abs

/-! Flat3 -/

namespace Go.Abs
set_option maxRecDepth 8000
open Go.Proofs
def ie (p:Pg):List D:= [.slice .shared 1 (p.globals.map encStr), .slice .shared 5 (p.procs.map bP), .slice .shared 17 (p.eW.L.map dX), .slice .shared 1 (p.eW.lo.map iM), .slice .shared 1 (p.eW.hi.map iM)]
theorem Ad (p:Pg):ie p = [.slice .shared 1 (p.globals.map encStr), .slice .shared 5 (p.procs.map bP), .slice .shared 17 (p.eW.L.map dX), .slice .shared 1 (p.eW.lo.map iM), .slice .shared 1 (p.eW.hi.map iM)]:=nd rfl
theorem xg (p:Pg):D.bG 0 0 (ie p)=true:=by simp [ie,D.bG,D.ok,Tag.ok,er,yN,yO,td]
theorem F8 (p:Pg):b7 p = [.slice .shared 1 (p.globals.map encStr), .slice .shared 5 (p.procs.map bP)]:=nd rfl
theorem PT {p:Pg} (hs:Pc.aT p.procs<1000000000):aH Try.prog jI [.agg (b7 p)] S0 (.ptr 1 0) ⟨[b7 p,fj (.slice .shared 1 (p.globals.map encStr)) (.slice .shared 5 (p.procs.map bP)) p.eW.L p.eW.lo p.eW.hi],[some p.eW.L.length,some p.eW.lo.length,some p.eW.hi.length]⟩:=by
 have hlen:p.procs.length<1000000000:=by have:=Pc.dt p.procs;omega
 obtain⟨R,hR⟩ : ∃ R,R=p.eW:=⟨_,rfl⟩
 have QS:=hR
 unfold Pg.eW at QS
 unfold S0
 rw [F8, ← hR]
 refine aH.Yc 2 3 (Nat.zero_le _) (Nat.zero_le _) z8 rfl fun B Q hB hQ=> ?_
 have⟨hD,hF,hJ,hP⟩:=cf
 repeat' (first
 | simp only [go_sem,hD,hF,hJ,hP,F8]
 | (with_reducible refine aL hQ ?_;simp only [aE,aF,Option.some.injEq,exists_eq_left',go_sem,hD,hF,hJ,hP];repeat' (first | exact Ok.out | with_reducible refine aV ?_ ?_ | (simp;done))))
 refine bx.HJ 1 2 17 rfl rfl ?_
 simp only [go_sem,hD,hF,hJ,hP]
 refine bx.HJ 1 3 1 rfl rfl ?_
 simp only [go_sem,hD,hF,hJ,hP]
 refine bx.HJ 1 4 1 rfl rfl ?_
 simp only [go_sem,hD,hF,hJ,hP]
 refine ep 2 3 ?_ ?_ (bx.ind (ι:=List Pc×Nat×Sh×Nat×Nat) (fun i=>p.procs.drop i.2.1=i.1∧Sh.go i.2.1 i.2.2.1 i.1=R∧i.2.2.1.L.length+Pc.aT i.1≤Pc.aT p.procs∧i.2.2.1.lo.length=i.2.1∧i.2.2.1.hi.length=i.2.1∧i.2.2.2.1=i.2.2.1.lo.length∧i.2.2.2.2=i.2.2.1.hi.length) (fun i=>i.1.length)
  (fun i=> [(1, .ptr 0 0),(3, .ptr 1 0),(10, .slice .shared 5 (p.procs.map bP)),(11, .int .i64 (p.procs.length:Int)),(12, .int .i64 (i.2.1:Int))]) (fun i=>⟨[[.slice .shared 1 (p.globals.map encStr), .slice .shared 5 (p.procs.map bP)],fj (.slice .shared 1 (p.globals.map encStr)) (.slice .shared 5 (p.procs.map bP)) i.2.2.1.L i.2.2.1.lo i.2.2.1.hi],[some i.2.2.1.L.length,some i.2.2.2.1,some i.2.2.2.2]⟩) ?_ (p.procs,0,⟨[],[],[]⟩,0,0) ⟨rfl,QS.symm,by simp,rfl,rfl,rfl,rfl⟩)
 ·(simp only [go_sem,hD,hF,hJ,hP,fj];try exact bQ)
 ·(simp only [go_sem,hD,hF,hJ,hP,fj];try exact bQ)
 rintro⟨rest,k,h,n1,n2⟩ ⟨h1,h2,h3,h4,h5,h6,h7⟩ IH
 dsimp only at h1 h2 h3 h4 h5 h6 h7
 subst h6 h7
 cases rest with
 | nil=>
  have hD:=drop_nil h1
  simp only [Sh.go]at h2
  rw [← h2]at hQ
  repeat' (first
 | simp only [go_sem,hD,hF,hJ,hP,fj]
 | (with_reducible refine aL hQ ?_;simp only [aE,aF,Option.some.injEq,exists_eq_left',go_sem,hD,hF,hJ,hP];repeat' (first | exact Ok.out | with_reducible refine aV ?_ ?_ | (simp;done))))
 | cons f rest=>
  obtain⟨hF,g2,hD,g4⟩:=drop_cons h1
  have bY:k<4611686018427387904:=by omega
  simp only [Pc.aT,Pc.size]at h3
  simp only [Sh.go]at h2
  have c1:=kB f.body
  have hJ:(h.lo.length+1)*9≤bO:=by unfold bO;omega
  have R1:(h.hi.length+1)*9≤bO:=by unfold bO;omega
  have BJ:IntKind.wrap .i64 ((h.L.length:Int)+1)=(h.L.length:Int)+1:=dg (by omega) (by omega)
  have hl:(Im.rows (k:Int) 0 (-1) 0 h.L f.body).length=h.L.length+Sm.fP f.body:=eh ..
  have pX:IntKind.wrap .i64 (((Im.rows (k:Int) 0 (-1) 0 h.L f.body).length:Int)+1)=((Im.rows (k:Int) 0 (-1) 0 h.L f.body).length:Int)+1:=dg (by omega) (by omega)
  have hr:=fun {s:St} {o:Nat}=>@Lq (Sm.aT f.body+1) (by omega) f.body (k:Int) 0 (-1) 0 h.L (.slice .shared 1 (p.globals.map encStr)) (.slice .shared 5 (p.procs.map bP)) (h.lo++ [(h.L.length:Int)+1]) h.hi (some (h.lo.length+1)) (some h.hi.length) (Nat.lt_succ_self _) (by omega) (by simp [D.ok,Tag.ok,er]) (by simp [D.ok,Tag.ok,yN]) s o
  simp only [fj,List.map_append,List.map_cons,List.map_nil,iM]at hr
  repeat' (first
 | simp only [go_sem,hD,hF,hJ,hP,BJ,pX,R1,fj]
 | (with_reducible refine CU (hr (by with_unfolding_all rfl) (by with_unfolding_all rfl)) ?_)
 | (with_reducible refine aL hQ ?_;simp only [aE,aF,Option.some.injEq,exists_eq_left',go_sem,hD,hF,hJ,hP];repeat' (first | exact Ok.out | with_reducible refine aV ?_ ?_ | (simp;done))))
  refine ep 2 3 ?_ ?_ (IH (rest,k+1,⟨Im.rows (k:Int) 0 (-1) 0 h.L f.body,h.lo++ [(h.L.length:Int)+1],h.hi++ [((Im.rows (k:Int) 0 (-1) 0 h.L f.body).length:Int)+1]⟩,_,_) ⟨g2,h2,by dsimp only;rw [hl];omega,by simp [h4],by simp [h5],by simp,by simp⟩ (Nat.lt_succ_self _))
  ·(simp only [go_sem,hD,hF,hJ,hP,fj,aQ bY,List.map_append,List.map_cons,List.map_nil,iM];try exact bQ)
  ·(simp only [go_sem,hD,hF,hJ,hP,fj,aQ bY,List.map_append,List.map_cons,List.map_nil,iM];try exact bQ)
theorem yP {p:Pg} (hs:Pc.aT p.procs<1000000000) (s:St):aH Try.prog jI [.agg (b7 p)] s (.cD (ie p) 0) s:=by
 refine aH.pure ?_ (by simp only [D.bG,D.ok,lG];rfl) (by simp only [D.ok,xg]) s
 have h:=(PT hs).sw (n:=0) (m:=0) rfl (Nat.le_refl _) (Nat.zero_le _) (Nat.le_refl _)
 simpa [D.e8,D.fg,Tag.fg,FW,J6,Ke,F6,St.cut,ie,S0]using h
end Go.Abs
