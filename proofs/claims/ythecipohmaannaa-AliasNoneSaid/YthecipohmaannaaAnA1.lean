/-
  What is proved here: part 1 of the road to the claim (Par, Par1, Par2, Par3, Step, Wp, Types, Mir, MirTree, MirFlat, Nums, Codes0, Have0, Codes1, Have1, Codes2, Have2, Have3, Frz, MirLex, MirMay, Prs, Lex1, Lex2, RefLex1, Prs2, Ref1, Ref2, Ref3, RefMay1, RefMay2, Flat1, Flat2).
  No conditions.
-/
import Derived.Test.YthecipohmaannaaAnA0
import Derived.Attr
import Derived.Test.YthecipohmaannaaProg
import Derived.KernelRfl

set_option linter.unusedSimpArgs false
set_option linter.unusedVariables false

/-! Par -/

namespace Go.Abs
theorem X.bm {x:X} {tm bg:Tm} (h : ∀ t∈x.reads,tm.get t=bg.get t):x.ev tm=x.ev bg:=by
 cases x with
 | s t=>exact h t (by simp [X.reads])
 | k d=>rfl
theorem mh {t:Nat} {x:X} : ∀ {l:List X},x∈l→t∈x.reads→t∈jU l
 | [],h,_=>by cases h
 | y::r,h,ht=>by
  simp only [jU,List.mem_append]
  rcases List.mem_cons.1 h with rfl | h
  ·exact .inl ht
  ·exact .inr (mh h ht)
theorem pX {x:Option X} {tm bg:Tm} (h : ∀ t∈sO x,tm.get t=bg.get t):x.map (·.ev tm)=x.map (·.ev bg):=by
 cases x with
 | none=>rfl
 | some y=>simp only [Option.map_some];rw [X.bm h]
theorem uF {o:AO} {tm bg:Tm} {s:St} (h : ∀ t∈o.reads,tm.get t=bg.get t):aG o tm s=aG o bg s:=by
 cases o with
 | mv x=>
  have hx:x.ev tm=x.ev bg:=X.bm fun t ht=>h t (by simp [AO.reads,ht])
  simp only [aG,hx]
 | pick c a b=>
  have hc:c.ev tm=c.ev bg:=X.bm fun t ht=>h t (by simp [AO.reads,ht])
  have ha:a.ev tm=a.ev bg:=X.bm fun t ht=>h t (by simp [AO.reads,ht])
  have hb:b.ev tm=b.ev bg:=X.bm fun t ht=>h t (by simp [AO.reads,ht])
  simp only [aG,hc,ha,hb]
 | alloc z=>
  rfl
 | nL z T=>rfl
 | sM x T=>
  have hx:x.ev tm=x.ev bg:=X.bm fun t ht=>h t (by simp [AO.reads,ht])
  simp only [aG,hx]
 | sN x y=>
  have hx:x.ev tm=x.ev bg:=X.bm fun t ht=>h t (by simp [AO.reads,ht])
  have hy:y.ev tm=y.ev bg:=X.bm fun t ht=>h t (by simp [AO.reads,ht])
  simp only [aG,hx,hy]
 | apps x y=>
  have hx:x.ev tm=x.ev bg:=X.bm fun t ht=>h t (by simp [AO.reads,ht])
  have hy:y.ev tm=y.ev bg:=X.bm fun t ht=>h t (by simp [AO.reads,ht])
  simp only [aG,hx,hy]
 | box x=>
  have hx:x.ev tm=x.ev bg:=X.bm fun t ht=>h t (by simp [AO.reads,ht])
  simp only [aG,hx]
 | sK x=>
  have hx:x.ev tm=x.ev bg:=X.bm fun t ht=>h t (by simp [AO.reads,ht])
  simp only [aG,hx]
 | load x g n=>
  have hx:x.ev tm=x.ev bg:=X.bm fun t ht=>h t (by simp [AO.reads,ht])
  simp only [aG,hx]
 | store p x n=>
  have hp:p.ev tm=p.ev bg:=X.bm fun t ht=>h t (by simp [AO.reads,ht])
  have hx:x.ev tm=x.ev bg:=X.bm fun t ht=>h t (by simp [AO.reads,ht])
  simp only [aG,hp,hx]
 | fJ x=>
  have hx:x.ev tm=x.ev bg:=X.bm fun t ht=>h t (by simp [AO.reads,ht])
  simp only [aG,hx]
 | bin op x y=>
  have hx:x.ev tm=x.ev bg:=X.bm fun t ht=>h t (by simp [AO.reads,ht])
  have hy:y.ev tm=y.ev bg:=X.bm fun t ht=>h t (by simp [AO.reads,ht])
  simp only [aG,hx,hy]
 | xE n x y=>
  have hx:x.ev tm=x.ev bg:=X.bm fun t ht=>h t (by simp [AO.reads,ht])
  have hy:y.ev tm=y.ev bg:=X.bm fun t ht=>h t (by simp [AO.reads,ht])
  simp only [aG,hx,hy]
 | eqs n ks x y=>
  have hx:x.ev tm=x.ev bg:=X.bm fun t ht=>h t (by simp [AO.reads,ht])
  have hy:y.ev tm=y.ev bg:=X.bm fun t ht=>h t (by simp [AO.reads,ht])
  simp only [aG,hx,hy]
 | zi n x y=>
  have hx:x.ev tm=x.ev bg:=X.bm fun t ht=>h t (by simp [AO.reads,ht])
  have hy:y.ev tm=y.ev bg:=X.bm fun t ht=>h t (by simp [AO.reads,ht])
  simp only [aG,hx,hy]
 | un op x=>
  have hx:x.ev tm=x.ev bg:=X.bm fun t ht=>h t (by simp [AO.reads,ht])
  simp only [aG,hx]
 | conv k x=>
  have hx:x.ev tm=x.ev bg:=X.bm fun t ht=>h t (by simp [AO.reads,ht])
  simp only [aG,hx]
 | vy x=>
  have hx:x.ev tm=x.ev bg:=X.bm fun t ht=>h t (by simp [AO.reads,ht])
  simp only [aG,hx]
 | qP x=>
  have hx:x.ev tm=x.ev bg:=X.bm fun t ht=>h t (by simp [AO.reads,ht])
  simp only [aG,hx]
 | aC x n=>
  have hx:x.ev tm=x.ev bg:=X.bm fun t ht=>h t (by simp [AO.reads,ht])
  simp only [aG,hx]
 | se x n g m=>
  have hx:x.ev tm=x.ev bg:=X.bm fun t ht=>h t (by simp [AO.reads,ht])
  simp only [aG,hx]
 | bV x i n=>
  have hx:x.ev tm=x.ev bg:=X.bm fun t ht=>h t (by simp [AO.reads,ht])
  have hi:i.ev tm=i.ev bg:=X.bm fun t ht=>h t (by simp [AO.reads,ht])
  simp only [aG,hx,hi]
 | sL x i=>
  have hx:x.ev tm=x.ev bg:=X.bm fun t ht=>h t (by simp [AO.reads,ht])
  have hi:i.ev tm=i.ev bg:=X.bm fun t ht=>h t (by simp [AO.reads,ht])
  simp only [aG,hx,hi]
 | ext x i=>
  have hx:x.ev tm=x.ev bg:=X.bm fun t ht=>h t (by simp [AO.reads,ht])
  simp only [aG,hx]
 | len x=>
  have hx:x.ev tm=x.ev bg:=X.bm fun t ht=>h t (by simp [AO.reads,ht])
  simp only [aG,hx]
 | o5 x=>
  have hx:x.ev tm=x.ev bg:=X.bm fun t ht=>h t (by simp [AO.reads,ht])
  simp only [aG,hx]
 | app a b x y=>
  have hx:x.ev tm=x.ev bg:=X.bm fun t ht=>h t (by simp [AO.reads,ht])
  have hy:y.ev tm=y.ev bg:=X.bm fun t ht=>h t (by simp [AO.reads,ht])
  simp only [aG,hx,hy]
 | mm b x y=>
  have hx:x.ev tm=x.ev bg:=X.bm fun t ht=>h t (by simp [AO.reads,ht])
  have hy:y.ev tm=y.ev bg:=X.bm fun t ht=>h t (by simp [AO.reads,ht])
  simp only [aG,hx,hy]
 | build z ps=>
  have hp:(ps.map fun p=>(p.1,p.2.1,p.2.2.ev tm))=ps.map fun p=>(p.1,p.2.1,p.2.2.ev bg):=List.map_congr_left fun p hp=>by
   have:p.2.2.ev tm=p.2.2.ev bg:=X.bm fun t ht=>h t (by simp only [AO.reads];exact mh (List.mem_map_of_mem hp) ht)
   rw [this]
  simp only [aG,hp]
 | dc z m n ps=>
  have hp:(ps.map fun p=>(p.1,p.2.ev tm))=ps.map fun p=>(p.1,p.2.ev bg):=List.map_congr_left fun p hp=>by
   have:p.2.ev tm=p.2.ev bg:=X.bm fun t ht=>h t (by simp only [AO.reads];exact mh (List.mem_map_of_mem hp) ht)
   rw [this]
  simp only [aG,hp]
 | o4 z m n ps=>
  have hp:(ps.map fun p=>(p.1,p.2.ev tm))=ps.map fun p=>(p.1,p.2.ev bg):=List.map_congr_left fun p hp=>by
   have:p.2.ev tm=p.2.ev bg:=X.bm fun t ht=>h t (by simp only [AO.reads];exact mh (List.mem_map_of_mem hp) ht)
   rw [this]
  simp only [aG,hp]
 | zj n x lo hi=>
  have hx:x.ev tm=x.ev bg:=X.bm fun t ht=>h t (by simp [AO.reads,ht])
  have hl:lo.map (·.ev tm)=lo.map (·.ev bg):=pX fun t ht=>h t (by simp [AO.reads,ht])
  have hh:hi.map (·.ev tm)=hi.map (·.ev bg):=pX fun t ht=>h t (by simp [AO.reads,ht])
  simp only [aG,hx,hl,hh]
 | zk x lo hi=>
  have hx:x.ev tm=x.ev bg:=X.bm fun t ht=>h t (by simp [AO.reads,ht])
  have hl:lo.map (·.ev tm)=lo.map (·.ev bg):=pX fun t ht=>h t (by simp [AO.reads,ht])
  have hh:hi.map (·.ev tm)=hi.map (·.ev bg):=pX fun t ht=>h t (by simp [AO.reads,ht])
  simp only [aG,hx,hl,hh]
 | oL f xs=>
  have hp:(xs.map fun x=>x.ev tm)=xs.map fun x=>x.ev bg:=List.map_congr_left fun x hx=>X.bm fun t ht=>h t (by simp only [AO.reads];exact mh hx ht)
  simp only [aG,hp]
 | oM=>rfl
 | rq m k v=>
  have hm:m.ev tm=m.ev bg:=X.bm fun t ht=>h t (by simp [AO.reads,ht])
  have hk:k.ev tm=k.ev bg:=X.bm fun t ht=>h t (by simp [AO.reads,ht])
  have hv:v.ev tm=v.ev bg:=X.bm fun t ht=>h t (by simp [AO.reads,ht])
  simp only [aG,hm,hk,hv]
 | pL m k z=>
  have hm:m.ev tm=m.ev bg:=X.bm fun t ht=>h t (by simp [AO.reads,ht])
  have hk:k.ev tm=k.ev bg:=X.bm fun t ht=>h t (by simp [AO.reads,ht])
  simp only [aG,hm,hk]
theorem Bd {o:AO} (ho:eK o.kind=false) {tm:Tm} {s s':St} {d:D} (h:aG o tm s=some (d,s')):s'=s:=by
 cases o <;> simp only [AO.kind,eK]at ho <;> first | cases ho | skip
 all_goals
  simp only [aG]at h
  first
   | (cases h;rfl)
   | (repeat' (split at h)) <;> first | (cases h;rfl) | cases h
theorem CR {o:AO} (ho:o.kind = .pure) {tm:Tm} {s s':St} : (aG o tm s).map (·.1)=(aG o tm s').map (·.1):=by
 cases o <;> simp only [AO.kind]at ho <;> first | cases ho | skip
 all_goals
  simp only [aG]
  first
   | rfl
   | (repeat' split) <;> rfl
def fZ (ai:AI) (tm:Tm) (s:St):Option D:=
 match ai with
 | .op _ none o=>(aG o tm s).map (·.1)
 | .op _ (some (t,want)) o=>
  match tm.get t with
  | .bool b=>if b=want then(aG o tm s).map (·.1)else some (.tuple [])
  | .tuple _=>some (.tuple [])
  | _=>none
 | _=>none
def nC (P:Program) (ai:AI) (tm:Tm) (s:St) (d:D) (s':St):Prop:=
 match ai with
 | .op _ g o=>guarded g tm (aG o tm s=some (d,s')) (d = .tuple []∧s'=s)
 | .call _ g f xs=>guarded g tm (dr P f (xs.map (·.ev tm)) s fun x y=>x=d∧y=s') (d = .tuple []∧s'=s)
 | .nil .. =>False
 | .fM .. =>False
def gK (P:Program) (is:List AI) (K:Tm→St→Prop):List (Nat×Nat)→List St→Tm→St→Prop
 | [],_,tm,s=>K tm s
 | (q,b)::r,aY,tm,s=>
  match is[q]? with
  | none=>False
  | some ai=>
   match eK ai.kind with
   | true=>∃ d s',nC P ai tm s d s'∧gK P is K r (s::aY) (tm.put ai.dst d) s'
   | false=>∃ d,fZ ai tm s=some d∧(ai.kind = .load→∀ s'∈aY.take b,fZ ai tm s'=some d)∧gK P is K r aY (tm.put ai.dst d) s
def Tm.eqv (a b:Tm):Prop:=∀ t,a.get t=b.get t
theorem Tm.hO (tm:Tm) (dst:Option Nat) (d:D) (t:Nat):(tm.put dst d).get t=if dst=some t then d else tm.get t:=by
 cases dst with
 | none=>simp [Tm.put]
 | some u=>
  simp only [Tm.put,Tm.wX,Option.some.injEq]
  by_cases h:t=u
  ·subst h;simp
  ·rw [if_neg h,if_neg (fun e=>h e.symm)]
theorem Tm.eqv.put {a b:Tm} (h:a.eqv b) (dst:Option Nat) (d:D):(a.put dst d).eqv (b.put dst d):=fun t=>by
 rw [Tm.hO,Tm.hO,h t]
theorem Tm.zQ (tm:Tm) {x y:Option Nat} (h : ∀ t,x=some t→y≠some t) (d e:D):((tm.put x d).put y e).eqv ((tm.put y e).put x d):=fun t=>by
 simp only [Tm.hO]
 by_cases h1:x=some t
 ·simp only [h1,h t h1,if_true,if_false]
 ·simp only [h1,if_false]
theorem sn {g:Option (Nat×Bool)} {tm bg:Tm} {A A' C:Prop} (h : ∀ t∈o6 g,tm.get t=bg.get t) (ha:A→A') (hh:guarded g tm A C):guarded g bg A' C:=by
 cases g with
 | none=>exact ha hh
 | some p=>
  obtain⟨t,want⟩:=p
  unfold guarded at *
  simp only at *
  rw [← h t (by simp [o6])]
  split
  ·rename_i b hb
   rw [hb]at hh
   exact⟨fun e=>ha (hh.1 e),hh.2⟩
  ·rename_i hb
   rw [hb]at hh
   exact hh
  ·rename_i x h1 h2
   split at hh
   ·exact h1 _ ‹_›
   ·exact h2 _ ‹_›
   ·exact hh
theorem xS {tm bg:Tm} : ∀ {l:List X},(∀ t∈jU l,tm.get t=bg.get t)→l.map (·.ev tm)=l.map (·.ev bg)
 | [],_=>rfl
 | x::r,h=>by
  simp only [List.map_cons]
  rw [X.bm fun t ht=>h t (by simp [jU,ht]),xS (l:=r) fun t ht=>h t (by simp [jU,ht])]
theorem qx {P:Program} {ai:AI} {tm bg:Tm} {s s':St} {d:D} (h : ∀ t∈ai.reads,tm.get t=bg.get t) (hh:nC P ai tm s d s'):nC P ai bg s d s':=by
 cases ai with
 | op dst g o=>
  simp only [AI.reads,List.mem_append]at h
  exact sn (fun t ht=>h t (.inl ht)) (fun e=>by rw [← uF fun t ht=>h t (.inr ht)];exact e) hh
 | call dst g f xs=>
  simp only [AI.reads,List.mem_append]at h
  exact sn (fun t ht=>h t (.inl ht)) (fun e=>by rw [← xS fun t ht=>h t (.inr ht)];exact e) hh
 | nil dst g n x=>exact hh
 | fM dst g t xs=>exact hh
theorem lX {ai:AI} {tm bg:Tm} {s:St} (h : ∀ t∈ai.reads,tm.get t=bg.get t):fZ ai tm s=fZ ai bg s:=by
 cases ai with
 | op dst g o=>
  simp only [AI.reads,List.mem_append]at h
  have he:=uF (s:=s) fun t ht=>h t (.inr ht)
  cases g with
  | none=>simp only [fZ,he]
  | some p=>
   obtain⟨t,want⟩:=p
   simp only [fZ,he,h t (.inl (by simp [o6]))]
 | call dst g f xs=>rfl
 | nil dst g n x=>rfl
 | fM dst g t xs=>rfl
theorem BU {dst:Option Nat} {g:Option (Nat×Bool)} {o:AO} (h:eK (AI.op dst g o).kind=false):(AI.op dst g o).kind=o.kind:=by
 unfold AI.kind at *
 split at h
 ·cases h
 ·rename_i heq;cases heq;rfl
 ·cases h
theorem HC {ai:AI} (hk:ai.kind = .pure) {tm:Tm} {s s':St} : fZ ai tm s=fZ ai tm s':=by
 cases ai with
 | op dst g o=>
  have ho:o.kind = .pure:=by rw [← hk];exact(BU (by rw [hk];rfl)).symm
  have he:=CR ho (tm:=tm) (s:=s) (s':=s')
  cases g with
  | none=>simp only [fZ,he]
  | some p=>simp only [fZ,he]
 | call dst g f xs=>rfl
 | nil dst g n x=>rfl
 | fM dst g t xs=>rfl
theorem apart_spec {a q:AI} (h:a.apart q=true):(∀ t,a.dst=some t→t∉q.reads)∧(∀ t,q.dst=some t→t∉a.reads)∧(∀ t,a.dst=some t→q.dst≠some t):=by
 unfold AI.apart at h
 simp only [Bool.and_eq_true]at h
 obtain⟨⟨h1,h2⟩,h3⟩:=h
 refine⟨fun t e=> ?_,fun t e=> ?_,fun t e e'=> ?_⟩
 ·rw [e]at h1;simpa [vA]using h1
 ·rw [e]at h2;simpa [vA]using h2
 ·rw [e,e']at h3;simp at h3
theorem nD {tm:Tm} {dst:Option Nat} {d:D} {l:List Nat} (h : ∀ t,dst=some t→t∉l) : ∀ t∈l,tm.get t=(tm.put dst d).get t:=fun t ht=>by
 rw [Tm.hO,if_neg fun e=>h t e ht]
section
variable {P:Program} {is:List AI} {K:Tm→St→Prop}
theorem nE (hK : ∀ tm bg s,Tm.eqv tm bg→K tm s→K bg s) : ∀ (R:List (Nat×Nat)) (aY:List St) (tm bg:Tm) (s:St),tm.eqv bg→gK P is K R aY tm s→gK P is K R aY bg s
 | [],_,tm,bg,s,e,h=>hK tm bg s e h
 | (q,b)::R,aY,tm,bg,s,e,h=>by
  unfold gK at *
  split at h
  ·exact h.elim
  ·rename_i ai pU
   split at h
   ·rename_i hc
    obtain⟨d,s',h1,h2⟩:=h
    exact⟨d,s',qx (fun t _=>e t) h1,nE hK R _ _ _ _ (e.put _ d) h2⟩
   ·rename_i hc
    obtain⟨d,h1,h2,h3⟩:=h
    refine⟨d, ?_,fun hl s' kK=> ?_,nE hK R _ _ _ _ (e.put _ d) h3⟩
    ·rw [← lX fun t _=>e t];exact h1
    ·rw [← lX fun t _=>e t];exact h2 hl s' kK
theorem zR (i:Nat) (l:List Nat):fQ is (i::l)=(if eK (fN is i)then 1 else 0)+fQ is l:=by
 unfold fQ
 rw [List.filter_cons]
 split <;> simp <;> omega
theorem qy (hK : ∀ tm bg s,Tm.eqv tm bg→K tm s→K bg s) {q b:Nat} {ai:AI} (hq:is[q]? = some ai) (hm:eK ai.kind=false) (Y:List (Nat×Nat)) :
 ∀ (X:List (Nat×Nat)) (aY:List St) (tm:Tm) (s:St),(∀ a∈X,gW is a.1 q=true)→(ai.kind = .load→fQ is (X.map (·.1))≤b)→
  gK P is K (X++(q,b)::Y) aY tm s→
  ∃ d,fZ ai tm s=some d∧(ai.kind = .load→∀ s'∈aY.take (b - fQ is (X.map (·.1))),fZ ai tm s'=some d)∧gK P is K (X++Y) aY (tm.put ai.dst d) s
 | [],aY,tm,s,_,_,h=>by
  simp only [List.nil_append,gK,hq,hm]at h
  obtain⟨d,h1,h2,h3⟩:=h
  exact⟨d,h1,fun hl s' kK=>h2 hl s' (by simpa [fQ]using kK),h3⟩
 | (a,c)::X,aY,tm,s,ez,hb,h=>by
  have CS:=ez (a,c) (by simp)
  unfold gW at CS
  split at CS
  ·rename_i ia iq QW oG
   rw [hq]at oG
   cases oG
   obtain⟨p1,p2,p3⟩:=apart_spec CS
   have E4:fN is a=ia.kind:=by simp [fN,QW]
   have J1 : ∀ x∈X,gW is x.1 q=true:=fun x hx=>ez x (List.mem_cons_of_mem _ hx)
   rw [List.map_cons,zR,E4]at hb ⊢
   simp only [List.cons_append,gK,QW]at h ⊢
   cases hc:eK ia.kind
   ·simp only [hc,Bool.false_eq_true,if_false,Nat.zero_add]at h hb ⊢
    obtain⟨d,h1,h2,h3⟩:=h
    obtain⟨e,g1,g2,g3⟩:=qy hK hq hm Y X aY _ s J1 hb h3
    have cg : ∀ s,fZ ai tm s=fZ ai (tm.put ia.dst d) s:=fun s=>lX (nD p1)
    have QX : ∀ s,fZ ia tm s=fZ ia (tm.put ai.dst e) s:=fun s=>lX (nD p2)
    refine⟨e,by rw [cg];exact g1,fun hl s' kK=>by rw [cg];exact g2 hl s' kK,d,by rw [← QX];exact h1,fun hl s' kK=>by rw [← QX];exact h2 hl s' kK, ?_⟩
    exact nE hK _ _ _ _ _ (Tm.zQ tm p3 d e) g3
   ·simp only [hc,if_true]at h hb ⊢
    obtain⟨d,s1,h1,h3⟩:=h
    obtain⟨e,g1,g2,g3⟩:=qy hK hq hm Y X (s::aY) _ s1 J1 (fun hl=>by have:=hb hl;omega) h3
    have cg : ∀ s,fZ ai tm s=fZ ai (tm.put ia.dst d) s:=fun s=>lX (nD p1)
    have lH:fZ ai tm s=some e:=by
     cases hk:ai.kind with
     | pure=>rw [cg,HC hk (s':=s1)];exact g1
     | load=>
      have:=hb hk
      rw [cg]
      refine g2 hk s ?_
      rw [show b - fQ is (X.map (·.1))=(b - (1+fQ is (X.map (·.1))))+1 by omega,List.take_succ_cons]
      exact List.mem_cons_self
     | alloc=>rw [hk]at hm;cases hm
     | core=>rw [hk]at hm;cases hm
    refine⟨e,lH,fun hl s' kK=> ?_,d,s1,qx (nD p2) h1,nE hK _ _ _ _ _ (Tm.zQ tm p3 d e) g3⟩
    have:=hb hl
    rw [cg]
    refine g2 hl s' ?_
    rw [show b - fQ is (X.map (·.1))=(b - (1+fQ is (X.map (·.1))))+1 by omega,List.take_succ_cons]
    exact List.mem_cons_of_mem _ kK
  ·cases CS
end
end Go.Abs

/-! Par1 -/

namespace Go.Abs
section
variable {P:Program}
theorem Fi {o:Oper} {z:List D} (h:vB P o=some (.alloc z)) : ∃ t,o.op = .alloc t∧zeroOf P t=some z:=by
 obtain⟨dst,op,type,pos,after,guard⟩:=o
 unfold vB at h
 simp only at h
 split at h
 case h_4 t=>
  split at h
  ·obtain⟨z',h1,h2⟩:=map_some h;cases h2
  ·obtain⟨z',h1,h2⟩:=map_some h;cases h2;exact⟨t,rfl,h1⟩
 all_goals
  first
   | (rw [Option.map_eq_some_iff]at h;obtain⟨_,_,h⟩:=h;cases h)
   | skip
 all_goals
  (repeat' (split at h)) <;> first | (cases h;done) | (rw [Option.map_eq_some_iff]at h;obtain⟨_,_,h⟩:=h;cases h)
theorem td {nt:Nat} {ops:Array Oper} {o:Oper} {ai:AI} (h:cI P nt ops o=some ai) :
 ∃ g,o7 ops o.guard=some g∧(∀ t,o.dst=some t→t<nt)∧nz P ops o g=some ai:=by
 have h2:=qX h
 unfold cI at h
 split at h
 ·cases h
 ·rename_i g hg
  split at h
  ·exact⟨g,hg,h2,h⟩
  ·cases h
theorem nT {ops:Array Oper} {o:Oper} {g:Option (Nat×Bool)} {ai:AI} (h:nz P ops o g=some ai):ai.dst=o.dst:=by
 unfold nz at h
 split at h
 ·split at h
  ·obtain⟨xs,_,rfl⟩:=map_some h;rfl
  ·cases h
 ·obtain⟨xs,_,rfl⟩:=map_some h;rfl
 ·split at h
  ·cases h;rfl
  ·split at h
   ·cases h;rfl
   ·cases h;rfl
   ·cases h
theorem nU {nt:Nat} {ops:Array Oper} {o:Oper} {ai:AI} (h:cI P nt ops o=some ai):ai.dst=o.dst:=by
 obtain⟨g,_,_,h⟩:=td h
 exact nT h
theorem qz {nt:Nat} {ops:Array Oper} {i:Nat} {o:Oper} {ai:AI} (hi:ops[i]? = some o) (hc:cI P nt ops o=some ai)
 {M:Map} {s:St} {w:World} {tm:Tm} {act:Act} (r:Rel M s w) (iu:Laid M s w) (ht:iL M s tm act.tmps) {K':Tm→St→Prop} (h:fB P [ai] K' tm s)
 {K:Act→World→Prop} {Q:Exit→Act→World→Prop}
 (hK : ∀ d v s1 w1 M1,K' (tm.put ai.dst d) s1→Ext M s w M1 s1 w1→Rel M1 s1 w1→RD M1 s1 d v→K (act.put o.dst v) w1):wpOp P ops Q i K act w:=by
 obtain⟨g,hg,_,hb⟩:=td hc
 rw [nT hb]at hK
 simp only [wpOp,hi]
 have skip:K' (tm.put o.dst (.tuple [])) s→K (act.put o.dst Go.undef) w:=fun hk=>hK _ _ _ _ _ hk (Ext.refl M s w) r .undef
 unfold nz at hb
 split at hb
 ·rename_i f args jX jd
  split at hb
  ·rename_i rF
   obtain⟨xs,kx,rfl⟩:=map_some hb
   simp only [fB]at h
   rcases gl hg ht h with ⟨hw,hA⟩ | ⟨hw,hB⟩
   ·simp only [hw,if_true]
    left
    have hex:(execOp act.eval o).run P w = .ok (.enter f (args.map act.eval)) w:=by
     obtain⟨dst,op,type,pos,after,guard⟩:=o
     simp only at jd
     subst jd
     exact qu act.eval dst f args jX type pos after guard rfl rF w
    obtain⟨c1,c2⟩:=pT ht kx
    unfold Oper.wp
    rw [hex,Oper.upon_enter]
    refine(hA M w (args.map act.eval) r iu (by simp [c1]) (fun i d v e1 e2=>c2 i d v e1 (by simpa using e2))).mono ?_
    rintro en w' ⟨M',d,v,s',rfl,hk,e',r',hv⟩
    exact hK _ _ _ _ _ hk e' r' hv
   ·simp only [hw]
    exact skip hB
  ·cases hb
 ·rename_i t args jX jd
  obtain⟨xs,kx,rfl⟩:=map_some hb
  simp only [fB]at h
  rcases gl hg ht h with ⟨hw,hA⟩ | ⟨hw,hB⟩
  ·simp only [hw,if_true]
   left
   split at hA
   ·rename_i f jK zG
    obtain⟨rF,hA⟩:=hA
    have E7:=ht t
    rw [zG]at E7
    obtain⟨vs,kM,hlen,vS⟩:=E7.BM
    have hex:(execOp act.eval o).run P w = .ok (.enter f (args.map act.eval++vs)) w:=by
     obtain⟨dst,op,type,pos,after,guard⟩:=o
     simp only at jd
     subst jd
     exact s6 act.eval dst (.tmp t) f vs args jX type pos after guard kM rF w
    have cc:=xN kx ht hlen vS
    unfold Oper.wp
    rw [hex,Oper.upon_enter]
    refine(hA M w (args.map act.eval++vs) r iu cc.1 cc.2).mono ?_
    rintro en w' ⟨M',d,v,s',rfl,hk,e',r',hv⟩
    exact hK _ _ _ _ _ hk e' r' hv
   ·exact hA.elim
  ·simp only [hw]
   exact skip hB
 ·split at hb
  ·rename_i neg x zH
   cases hb
   simp only [fB]at h
   rcases gl hg ht h with ⟨hw,hA⟩ | ⟨hw,hB⟩
   ·simp only [hw,if_true]
    left
    split at hA
    ·rename_i g' z rows hx
     obtain⟨b,hb,hex⟩:=sj (w:=w) zH ht hx
     unfold Oper.wp
     rw [hex,Oper.upon_value]
     exact hK _ _ _ _ _ (hA b hb) (Ext.refl M s w) r (.bool _)
    ·exact hA.elim
   ·simp only [hw]
    exact skip hB
  ·have fin : ∀ ao,ai = .op o.dst g ao→(∀ d s',aG ao tm s=some (d,s')→bZ P M s w (execOp act.eval o) d s')→
    (if Region.wanted o (yielded ops act.tmps)=true then o.wp P act w K Q∨(o.asks P act w∧LetsOut Q)else K (act.put o.dst Go.undef) w):=by
    intro ao pU Mv
    subst pU
    simp only [fB]at h
    rcases gl hg ht h with ⟨hw,hA⟩ | ⟨hw,hB⟩
    ·simp only [hw,if_true]
     left
     split at hA
     ·rename_i d s' lW
      obtain⟨v,w',M',cM,r',hv,e'⟩:=Mv d s' lW
      unfold Oper.wp
      rcases cM with cM | ⟨cM,rfl⟩
      ·rw [cM,Oper.upon_value]
       exact hK _ _ _ _ _ hA e' r' hv
      ·rw [cM,Oper.upon_skip]
       exact hK _ _ _ _ _ hA e' r' hv
     ·exact hA.elim
    ·simp only [hw]
     exact skip hB
   split at hb
   ·rename_i z k n ps jY
    cases hb
    refine fin _ rfl (fun d s' lW=> ?_)
    split at lW
    ·exact rE jY r ht lW
    ·exact nB jY r ht lW
   ·rename_i ao jY
    cases hb
    exact fin _ rfl (fun d s' lW=>nB jY r ht lW)
   ·cases hb
structure BV (M:Map) (s:St) (b:Nat):Prop where
 o : ∀ o,o<s.au.length→M.mu o≠b
 t : ∀ t c z,s.live t→M.be t≠some (b,c,z)
 g : ∀ off,M.G b off=none
theorem BV.mono {M M':Map} {s s':St} {w w':World} {b:Nat} (h:BV M s b) (e:Ext M s w M' s' w') (hb:b<w.heap.size):BV M' s' b:=by
 refine⟨fun o ho=> ?_,fun t c z hl he=> ?_,fun off=> ?_⟩
 ·rcases Nat.lt_or_ge o s.au.length with h1 | h1
  ·rw [e.le.mu o h1];exact h.o o h1
  ·have:=e.l8 o h1 ho;omega
 ·rcases e.l9 t b c z hl he with ⟨h1,c',z',h2⟩ | h1
  ·exact h.t t c' z' h1 h2
  ·omega
 ·by_cases hg:M'.G b off=M.G b off
  ·rw [hg];exact h.g off
  ·rcases e.n8 b off hg with h1 | ⟨t,c,z,h1,h2⟩
   ·omega
   ·exact(h.t t c z h1 h2).elim
theorem Rel.idle {M:Map} {s:St} {w:World} (r:Rel M s w) (x:Obj):Rel M s (w.alloc x)∧Ext M s w M s (w.alloc x)∧BV M s w.heap.size:=by
 refine⟨⟨fun b o v e=> ?_,fun o ds e=> ?_,r.hZ,r.inj,fun t n e=> ?_,r.dI,r.eA⟩, ?_,⟨fun o ho=> ?_,fun t c z hl e=> ?_,fun off=>r.JC (Nat.le_refl _) off⟩⟩
 ·obtain⟨h3,h4⟩:=r.comm b o v e
  refine⟨?_,h4⟩
  rw [World.cell?_alloc_lt]
  ·exact h3
  ·exact r.wU e
 ·obtain⟨vs,T,h3,h4,h5,h6⟩:=r.obj o ds e
  exact⟨vs,T,by rw [heap_alloc_old w _ _ h3.lt];exact h3,h4,h5,h6⟩
 ·rcases r.tok t n e with h3 | ⟨b,cap,size,dV,T',h3,h4,h5⟩
  ·exact .inl h3
  ·exact .inr ⟨b,cap,size,dV,T',h3,by rw [heap_alloc_old w _ _ (iJ h4)];exact h4,h5⟩
 ·exact⟨Le.refl M s,fun b hb _ _=>heap_alloc_old w _ b hb,fun o h3 h4=>by omega,fun t b c z h e=> .inl ⟨h,c,z,e⟩,fun _ _ h=>(h rfl).elim,by simp,rfl,rfl,rfl⟩
 ·have:=r.mc ho;omega
 ·have:=r.oN hl e;omega
theorem Rel.Pv {M:Map} {s:St} {w:World} (r:Rel M s w) {B:fc} (e:Ext B.M B.s B.w M s w) {b:Nat} (u:BV M s b) (hb:B.w.heap.size≤b)
 (ds:List D) (vs:Array Value) (T:TypeId) (hh:w.heap[b]? = some (.cells vs T (0,0))) (hl:vs.size=ds.length) (h1 : ∀ v∈vs,v.oneCell'=true)
 (h2 : ∀ (i:Nat) (d:D) (v:Value),ds[i]? = some d→vs[i]? = some v→RD M s d v) :
 Rel (M.cB s.au.length b) {s with au:=s.au++ [ds]} w∧Ext B.M B.s B.w (M.cB s.au.length b) {s with au:=s.au++ [ds]} w∧
 Le M s (M.cB s.au.length b) {s with au:=s.au++ [ds]}:=by
 have le:=o8 (M:=M) s b ds
 have lU : ∀ o,o<s.au.length→(M.cB s.au.length b).mu o=M.mu o:=le.mu
 have cU:(M.cB s.au.length b).mu s.au.length=b:=by simp [Map.cB,Map.mu]
 refine⟨⟨r.comm,fun o kr e'=> ?_,fun o ho off=> ?_,fun o o' ho jI e'=> ?_,r.tok,fun t b' c z o hl e' ho=> ?_,r.eA⟩, ?_,le⟩
 ·rcases Nat.lt_or_ge o s.au.length with ho | ho
  ·rw [List.getElem?_append_left ho]at e'
   obtain⟨dV,T',h3,h4,h5,h6⟩:=r.obj o kr e'
   refine⟨dV,T', ?_,h4,⟨h5.1,by rw [le.ty o ho];exact h5.2⟩,fun i d v e1 e2=>(h6 i d v e1 e2).mono le⟩
   rw [lU o ho,le.ob o ho];exact h3
  ·rw [List.getElem?_append_right ho]at e'
   have:o=s.au.length:=by
    have:=(List.getElem?_eq_some_iff.1 e').1
    simp at this;omega
   subst this
   simp at e';subst e'
   refine⟨vs,T, ?_,hl,⟨h1,fun T' h=>by simp [Map.cB,Map.ty,Ob.ty?]at h⟩,fun i d v e1 e2=>(h2 i d v e1 e2).mono le⟩
   rw [cU];exact ji.of hh (by simp [Map.cB,Map.ob])
 ·simp at ho
  rcases Nat.lt_or_ge o s.au.length with h3 | h3
  ·rw [lU o h3];exact r.hZ o h3 off
  ·have:o=s.au.length:=by omega
   subst this
   rw [cU];exact u.g off
 ·simp at ho jI
  rcases Nat.lt_or_ge o s.au.length with h3 | h3 <;> rcases Nat.lt_or_ge o' s.au.length with h4 | h4
  ·rw [lU o h3,lU o' h4]at e';exact r.inj o o' h3 h4 e'
  ·have:o'=s.au.length:=by omega
   subst this
   rw [lU o h3,cU]at e'
   exact(u.o o h3 e').elim
  ·have:o=s.au.length:=by omega
   subst this
   rw [lU o' h4,cU]at e'
   exact(u.o o' h4 e'.symm).elim
  ·omega
 ·simp at ho
  rcases Nat.lt_or_ge o s.au.length with h3 | h3
  ·rw [lU o h3];exact r.dI t b' c z o hl e' h3
  ·have:o=s.au.length:=by omega
   subst this
   rw [cU]
   intro he
   subst he
   exact u.t t c z hl e'
 ·refine⟨e.le.trans le,e.kept,fun o h3 h4=> ?_,e.l9,e.n8,e.size,e.os,e.tape,e.output⟩
  simp at h4
  rcases Nat.lt_or_ge o s.au.length with h5 | h5
  ·rw [lU o h5];exact e.l8 o h3 h5
  ·have:o=s.au.length:=by omega
   subst this
   rw [cU];exact hb
theorem Be {nt:Nat} {ops:Array Oper} {i:Nat} {o:Oper} {t:Nat} {z:List D} (hi:ops[i]? = some o) (hc:cI P nt ops o=some (.op (some t) none (.alloc z)))
 {w:World} {act:Act} {K:Act→World→Prop} {Q:Exit→Act→World→Prop}
 (hK : ∀ vs T,vs.size=z.length→(∀ v∈vs,v.oneCell'=true)→(∀ (M:Map) (s:St) (i:Nat) (d:D) (v:Value),z[i]? = some d→vs[i]? = some v→RD M s d v)→
  K (act.put (some t) (.pointer (some ⟨w.heap.size,0,none⟩))) (w.alloc (.cells vs T))):wpOp P ops Q i K act w:=by
 obtain⟨g,hg,_,hb⟩:=td hc
 have lL:=nT hb
 simp only [AI.dst]at lL
 simp only [wpOp,hi]
 have jd:g=none∧vB P o=some (.alloc z):=by
  unfold nz at hb
  split at hb
  ·split at hb
   ·obtain⟨xs,_,h⟩:=map_some hb;cases h
   ·cases hb
  ·obtain⟨xs,_,h⟩:=map_some hb;cases h
  ·split at hb
   ·cases hb
   ·split at hb
    ·rename_i jY
     simp only [Option.some.injEq,AI.op.injEq]at hb
     obtain⟨_,_,h⟩:=hb
     split at h <;> cases h
    ·rename_i ao jY
     simp only [Option.some.injEq,AI.op.injEq]at hb
     obtain⟨_,h1,h2⟩:=hb
     subst h2
     exact⟨h1,jY⟩
    ·cases hb
 obtain⟨rfl,jY⟩:=jd
 obtain⟨T,hT,hz⟩:=Fi jY
 have hw:Region.wanted o (yielded ops act.tmps)=true:=by
  have:o.guard=none:=by
   cases xI:o.guard with
   | none=>rfl
   | some p=>
    obtain⟨j,b⟩:=p
    rw [xI]at hg
    unfold o7 at hg
    simp only at hg
    split at hg <;> cases hg
  simp [Region.wanted,this]
 simp only [hw,if_true]
 left
 unfold zeroOf at hz
 split at hz
 ·rename_i inf Hv
  split at hz
  ·rename_i v hv
   split at hz
   ·have cM:(execOp act.eval o).run P w = .ok (.value (.pointer (some ⟨w.heap.size,0,none⟩))) (w.alloc (.cells v.cells T)):=by
     obtain⟨dst,op,type,pos,after,guard⟩:=o
     simp only at hT
     subst hT
     simp [execOp,Instr.alloc,zeroValue,fj P Hv,hv,newVar,newRow]
    have h3:=fun M s=>gZ (M:=M) (s:=s) hz
    obtain⟨h1,h2,_⟩:=h3 ⟨fun _ _=>none,fun _=>(0, .any),fun _=>none⟩ ⟨[],[]⟩
    unfold Oper.wp
    rw [cM,Oper.upon_value, ← lL]
    exact hK _ _ (by rw [h1];simp) (fun u hu=>h2 u (by simpa using hu)) (fun M s i d u e1 e2=>(h3 M s).2.2 i d u e1 (by simpa using e2))
   ·cases hz
  ·cases hz
 ·cases hz
end
end Go.Abs

/-! Par2 -/

namespace Go.Abs
section
variable {is:List AI} {af pt:List (List Nat)}
theorem sq {pq:List Nat} {l l':List Nat} (h:l'.Sublist l) (hb:gQ is pq l=true):gQ is pq l'=true:=by
 induction h with
 | slnil=>rfl
 | cons a h ih=>
  simp only [gQ,Bool.and_eq_true]at hb
  exact ih hb.2
 | cons_cons a h ih=>
  simp only [gQ,Bool.and_eq_true,Bool.or_eq_true]at hb ⊢
  refine⟨hb.1.imp id fun h1=> ?_,ih hb.2⟩
  rw [List.all_eq_true]at h1 ⊢
  exact fun x hx=>h1 x (h.subset hx)
theorem tY {f:Nat→Bool} {l l':List Nat} (h:l'.Sublist l) (ha:l.all f=true):l'.all f=true:=by
 rw [List.all_eq_true]at ha ⊢
 exact fun x hx=>ha x (h.subset hx)
theorem Bf {l l':List Nat} (h:l'.Sublist l):fQ is l'≤fQ is l:=(h.filter _).length_le
theorem CW {pre w8:List Nat} {q b:Nat} (h:w8.Sublist pre) (hs:kH is pt pre q b=true):kH is pt w8 q b=true:=by
 unfold kH at *
 split at hs
 ·exact tY h hs
 ·exact tY h hs
 ·simp only [Bool.and_eq_true]at hs ⊢
  exact⟨tY h hs.1,sq h hs.2⟩
 ·simp only [Bool.and_eq_true,decide_eq_true_eq]at hs ⊢
  exact⟨⟨tY h hs.1.1,sq h hs.1.2⟩,Nat.le_trans (Bf (h.filter _)) hs.2⟩
theorem zS : ∀ {R:List (Nat×Nat)} {pre w8:List Nat},w8.Sublist pre→oF is af pt pre R=true→oF is af pt w8 R=true
 | [],_,_,_,_=>rfl
 | (q,b)::R,pre,w8,h,ho=>by
  simp only [oF,Bool.and_eq_true,Bool.not_eq_true']at ho ⊢
  obtain⟨⟨⟨h1,h2⟩,h3⟩,h4⟩:=ho
  refine⟨⟨⟨CW h h1, ?_⟩,h3⟩,zS (h.cons_cons q) h4⟩
  rw [← Bool.not_eq_true,List.contains_iff_mem]at h2 ⊢
  exact fun hm=>h2 (h.subset hm)
theorem w9 : ∀ {X:List (Nat×Nat)} {e:Nat×Nat} {Y:List (Nat×Nat)} {pre:List Nat},oF is af pt pre (X++e::Y)=true→oF is af pt pre (X++Y)=true
 | [],(q,b),Y,pre,h=>by
  simp only [List.nil_append,oF,Bool.and_eq_true]at h
  exact zS (List.sublist_cons_self q pre) h.2
 | (a,c)::X,e,Y,pre,h=>by
  simp only [List.cons_append,oF,Bool.and_eq_true]at h ⊢
  obtain⟨⟨⟨h1,h2⟩,h3⟩,h4⟩:=h
  refine⟨⟨⟨h1,h2⟩, ?_⟩,w9 h4⟩
  rw [List.all_eq_true]at h3 ⊢
  intro j hj
  have:=h3 j hj
  simp only [Bool.and_eq_true,Bool.not_eq_true']at this ⊢
  refine⟨this.1, ?_⟩
  have h5:=this.2
  rw [← Bool.not_eq_true,List.contains_iff_mem]at h5 ⊢
  refine fun hm=>h5 ?_
  simp only [List.map_append,List.map_cons,List.mem_append,List.mem_cons]at hm ⊢
  exact hm.imp id .inr
theorem nV : ∀ {X:List (Nat×Nat)} {q b:Nat} {Y:List (Nat×Nat)} {pre:List Nat},oF is af pt pre (X++(q,b)::Y)=true→
 kH is pt ((X.map (·.1)).reverse++pre) q b=true∧q∉X.map (·.1)∧q∉pre∧(∀ j∈eZ af q,j≠q∧j∉Y.map (·.1))∧oF is af pt (q::((X.map (·.1)).reverse++pre)) Y=true
 | [],q,b,Y,pre,h=>by
  simp only [List.nil_append,oF,Bool.and_eq_true,Bool.not_eq_true']at h
  obtain⟨⟨⟨h1,h2⟩,h3⟩,h4⟩:=h
  rw [← Bool.not_eq_true,List.contains_iff_mem]at h2
  refine⟨h1,by simp,h2,fun j hj=> ?_,h4⟩
  rw [List.all_eq_true]at h3
  have:=h3 j hj
  simp only [Bool.and_eq_true,bne_iff_ne,Bool.not_eq_true', ← Bool.not_eq_true,List.contains_iff_mem]at this
  exact this
 | (a,c)::X,q,b,Y,pre,h=>by
  simp only [List.cons_append,oF,Bool.and_eq_true]at h
  obtain⟨_,h4⟩:=h
  obtain⟨g1,g2,g3,g4,g5⟩:=nV h4
  simp only [List.map_cons,List.reverse_cons,List.append_assoc,List.singleton_append]
  refine⟨g1, ?_,fun h=>g3 (List.mem_cons_of_mem _ h),g4,g5⟩
  intro hm
  rcases List.mem_cons.1 hm with rfl | hm
  ·exact g3 (by simp)
  ·exact g2 hm
theorem tZ : ∀ {Y:List (Nat×Nat)} {pre:List Nat},oF is af pt pre Y=true→∀ x∈Y,x.1∉pre∧(fN is x.1 = .alloc→∀ a∈pre,gW is a x.1=true)
 | [],_,_,x,hx=>by cases hx
 | (q,b)::Y,pre,h,x,hx=>by
  simp only [oF,Bool.and_eq_true,Bool.not_eq_true']at h
  obtain⟨⟨⟨h1,h2⟩,_⟩,h4⟩:=h
  rw [← Bool.not_eq_true,List.contains_iff_mem]at h2
  rcases List.mem_cons.1 hx with rfl | hx
  ·refine⟨h2,fun hk a ha=> ?_⟩
   unfold kH at h1
   simp only [hk]at h1
   rw [List.all_eq_true]at h1
   exact h1 a ha
  ·obtain⟨g1,g2⟩:=tZ h4 x hx
   exact⟨fun h=>g1 (List.mem_cons_of_mem _ h),fun hk a ha=>g2 hk a (List.mem_cons_of_mem _ ha)⟩
theorem uG : ∀ {n:Nat},qQ af pt n=true→∀ i,i<n→∀ j∈eZ pt i,j∈eZ af i∨∃ k∈eZ af i,j∈eZ pt k
 | 0,_,i,hi=>by omega
 | n+1,h,i,hi=>by
  simp only [qQ,Bool.and_eq_true]at h
  rcases Nat.lt_or_ge i n with h1 | h1
  ·exact uG h.2 i h1
  ·have:i=n:=by omega
   subst this
   intro j hj
   have:=h.1
   rw [List.all_eq_true]at this
   have:=this j hj
   simp only [Bool.or_eq_true,List.contains_iff_mem,List.any_eq_true]at this
   exact this
theorem q4 {pq:List Nat} : ∀ {l:List Nat},gQ is pq l=true→∀ (x:Nat) (l1 l2:List Nat),l=l1++x::l2→fN is x = .alloc→x∈pq→∀ y∈l2,y∈pq
 | [],_,x,l1,l2,h=>by simp at h
 | a::l,hb,x,l1,l2,h=>by
  simp only [gQ,Bool.and_eq_true,Bool.or_eq_true,Bool.not_eq_true',Bool.and_eq_false_iff]at hb
  intro hk hx y hy
  cases l1 with
  | nil=>
   simp only [List.nil_append,List.cons.injEq]at h
   obtain⟨rfl,rfl⟩:=h
   rcases hb.1 with h1 | h1
   ·rcases h1 with h1 | h1
    ·simp [hk]at h1
    ·rw [← Bool.not_eq_true,List.contains_iff_mem]at h1
     exact(h1 hx).elim
   ·rw [List.all_eq_true]at h1
    have:=h1 y hy
    rwa [List.contains_iff_mem]at this
  | cons b l1=>
   simp only [List.cons_append,List.cons.injEq]at h
   exact q4 hb.2 x l1 l2 h.2 hk hx y hy
end
structure Pd where
 q:Nat
 t:Nat
 z:List D
 b:Nat
structure MB (is:List AI) (R:List (Nat×Nat)) (B:fc) (M:Map) (s:St) (act:Act) (w:World) (p:Pd):Prop where
 mem:p.q∈R.map (·.1)
 ai:is[p.q]? = some (.op (some p.t) none (.alloc p.z))
 cells : ∃ (vs:Array Value) (T:TypeId),w.heap[p.b]? = some (.cells vs T (0,0))∧vs.size=p.z.length∧(∀ v∈vs,v.oneCell'=true)∧
  ∀ (M:Map) (s:St) (i:Nat) (d:D) (v:Value),p.z[i]? = some d→vs[i]? = some v→RD M s d v
 unk:BV M s p.b
 base:B.w.heap.size≤p.b
 slot:act.tmps.getD p.t Go.undef = .pointer (some ⟨p.b,0,none⟩)
def rH (P:Program) (is:List AI) (K:Tm→St→Prop) (B:fc) (nt:Nat) (R:List (Nat×Nat)) (cz:List Pd) (act:Act) (w:World):Prop:=
 ∃ (M:Map) (s:St) (tm nW:Tm) (aY:List St),Ext B.M B.s B.w M s w∧Rel M s w∧iL M s nW act.tmps∧(∀ t,(∀ p∈cz,p.t≠t)→nW.get t=tm.get t)∧
  act.tmps.size=nt∧act.defers = []∧gK P is K R aY tm s∧(∀ p∈cz,MB is R B M s act w p)∧
  (∀ p∈cz,∀ p'∈cz,p.q=p'.q∨p.t=p'.t∨p.b=p'.b→p=p')
structure mj (is:List AI) (af pt:List (List Nat)) (bM:Array Bool) (R:List (Nat×Nat)) (cz:List Pd):Prop where
 ok:oF is af pt [] R=true
 xT : ∀ i,i<is.length→(bM.getD i false=true↔(i∉R.map (·.1)∨∃ p∈cz,p.q=i))
 cl : ∀ i,i<is.length→bM.getD i false=true→∀ j∈eZ pt i,bM.getD j false=true
 size:bM.size=is.length
 lt : ∀ x∈R,x.1<is.length
section
variable {P:Program} {is:List AI} {af pt:List (List Nat)} {K:Tm→St→Prop} {B:fc} {nt:Nat}
theorem MC {bM:Array Bool} {q b:Nat} {R:List (Nat×Nat)} {cz:List Pd} {act:Act} {w:World} (hs:mj is af pt bM ((q,b)::R) cz) (h:rH P is K B nt ((q,b)::R) cz act w)
 {p:Pd} (hp:p∈cz) (oH:p.q=q) :
 mj is af pt bM R (cz.filter fun p'=>decide (p'.q≠q))∧rH P is K B nt R (cz.filter fun p'=>decide (p'.q≠q)) act w:=by
 have kj : ∀ p',p'∈(cz.filter fun p'=>decide (p'.q≠q))↔p'∈cz∧p'.q≠q:=fun p'=>by simp
 constructor
 ·have xP:=hs.ok
  have u9:=nV (X:= []) xP
  refine⟨w9 (X:= []) xP,fun i hi=> ?_,hs.cl,hs.size,fun x hx=>hs.lt x (List.mem_cons_of_mem _ hx)⟩
  rw [hs.xT i hi]
  simp only [List.map_cons,List.mem_cons,not_or]
  have MD:q∉R.map (·.1):=fun hm=>by
   obtain⟨x,hx,rfl⟩:=List.mem_map.1 hm
   exact(tZ u9.2.2.2.2 x hx).1 (by simp)
  constructor
  ·rintro(⟨h1,h2⟩ | ⟨p',h1,h2⟩)
   ·exact .inl h2
   ·by_cases hq:i=q
    ·subst hq;exact .inl MD
    ·exact .inr ⟨p',(kj p').2 ⟨h1,by rw [h2];exact hq⟩,h2⟩
  ·rintro(h1 | ⟨p',h1,h2⟩)
   ·by_cases hq:i=q
    ·subst hq;exact .inr ⟨p,hp,oH⟩
    ·exact .inl ⟨hq,h1⟩
   ·exact .inr ⟨p',((kj p').1 h1).1,h2⟩
 ·obtain⟨M,s,tm,nW,aY,e,r,ht,lH,hn,hd,hg,pY,nF⟩:=h
  have hk:=pY p hp
  obtain⟨vs,T,hh,hl,h1,h2⟩:=hk.cells
  have pU:=hk.ai
  rw [oH]at pU
  simp only [gK,pU,AI.kind,eK]at hg
  obtain⟨d,s',uw,hg⟩:=hg
  have lW:aG (.alloc p.z) tm s=some (d,s'):=uw
  simp only [aG,Option.some.injEq,Prod.mk.injEq]at lW
  obtain⟨rfl,rfl⟩:=lW
  obtain⟨r',e',le⟩:=r.Pv e hk.unk hk.base p.z vs T hh hl h1 (h2 M s)
  refine⟨_,_,_,nW.put (some p.t) (.ptr s.au.length 0),_,e',r',fun u=> ?_,fun t ME=> ?_,hn,hd,hg,fun p' kz=> ?_,fun p1 h1 p2 h2=>nF p1 ((kj p1).1 h1).1 p2 ((kj p2).1 h2).1⟩
  ·rw [Tm.hO]
   split
   ·rename_i heq
    cases heq
    rw [hk.slot]
    have:(M.cB s.au.length p.b).mu s.au.length=p.b:=by simp [Map.cB,Map.mu]
    have h5:=RD.ptr (M:=M.cB s.au.length p.b) (s:= {s with au:=s.au++ [p.z]}) s.au.length 0 (by simp) (by simp [Map.cB,Map.ob])
    rw [this]at h5
    exact h5
   ·exact(ht u).mono le
  ·simp only [AI.dst]
   rw [Tm.hO,Tm.hO]
   split
   ·rfl
   ·rename_i dQ
    refine lH t fun p' kz=> ?_
    by_cases hq:p'.q=q
    ·have:=nF p' kz p hp (.inl (hq.trans oH.symm))
     subst this
     exact fun h=>dQ (by rw [h])
    ·exact ME p' ((kj p').2 ⟨kz,hq⟩)
  ·obtain⟨QY,QZ⟩:=(kj p').1 kz
   have uH:=pY p' QY
   refine⟨?_,uH.ai,uH.cells,⟨fun o ho=> ?_,uH.unk.t,uH.unk.g⟩,uH.base,uH.slot⟩
   ·have:=uH.mem
    simp only [List.map_cons,List.mem_cons]at this
    exact this.resolve_left QZ
   ·simp at ho
    rcases Nat.lt_or_ge o s.au.length with h5 | h5
    ·rw [le.mu o h5];exact uH.unk.o o h5
    ·have:o=s.au.length:=by omega
     subst this
     have:(M.cB s.au.length p.b).mu s.au.length=p.b:=by simp [Map.cB,Map.mu]
     rw [this]
     intro hb
     have:=nF p hp p' QY (.inr (.inr hb))
     subst this
     exact QZ oH
theorem norm {bM:Array Bool} {act:Act} {w:World} : ∀ (R:List (Nat×Nat)) (cz:List Pd),mj is af pt bM R cz→rH P is K B nt R cz act w→
 ∃ R' pZ,mj is af pt bM R' pZ∧rH P is K B nt R' pZ act w∧∀ x l,R'=x::l→∀ p∈pZ,p.q≠x.1
 | [],cz,hs,h=>⟨[],cz,hs,h,fun _ _ he=>by cases he⟩
 | (q,b)::R,cz,hs,h=>by
  by_cases hp : ∃ p∈cz,p.q=q
  ·obtain⟨p,hp,oH⟩:=hp
   obtain⟨h1,h2⟩:=MC hs h hp oH
   exact norm R _ h1 h2
  ·refine⟨(q,b)::R,cz,hs,h,fun x l he p MF oH=>hp ⟨p,MF, ?_⟩⟩
   cases he
   exact oH
theorem J2 {ops:Array Oper} {q:Nat} {o:Oper} {ai:AI} (hi:ops[q]? = some o) (hc:cI P nt ops o=some ai) {R R':List (Nat×Nat)} {cz:List Pd} {act:Act} {w:World} {M:Map} {s s1:St} {tm nW:Tm} {d:D} {J3:List St}
 (e:Ext B.M B.s B.w M s w) (r:Rel M s w) (ht:iL M s nW act.tmps) (lH : ∀ t,(∀ p∈cz,p.t≠t)→nW.get t=tm.get t) (hn:act.tmps.size=nt) (hd:act.defers = [])
 (pY : ∀ p∈cz,MB is R B M s act w p) (nF : ∀ p∈cz,∀ p'∈cz,p.q=p'.q∨p.t=p'.t∨p.b=p'.b→p=p')
 (hv:fB P [ai] (fun a b=>a=nW.put ai.dst d∧b=s1) nW s) (hg:gK P is K R' J3 (tm.put ai.dst d) s1)
 (kj : ∀ p∈cz,p.q∈R'.map (·.1)) (lL : ∀ p∈cz,ai.dst≠some p.t) {Q:Exit→Act→World→Prop} :
 wpOp P ops Q q (rH P is K B nt R' cz) act w:=by
 refine qz hi hc r (B.laid.ext e) ht hv fun d' v s2 w1 M1 hk e1 r1 lx=> ?_
 obtain⟨uz,rfl⟩:=hk
 have Q1:=nU hc
 have hD : ∀ t,o.dst=some t→t<act.tmps.size:=fun t h=>by rw [hn];exact qX hc t h
 refine⟨M1,s2,tm.put ai.dst d,nW.put ai.dst d,J3,e.trans e1,r1, ?_,fun t ME=> ?_, ?_, ?_,hg,fun p hp=> ?_,nF⟩
 ·rw [← uz,Q1]
  exact(ht.mono e1.le).put hD lx
 ·rw [Tm.hO,Tm.hO,lH t ME]
 ·cases ho:o.dst <;> simp [Act.put,hn]
 ·cases ho:o.dst <;> simp [Act.put,hd]
 ·have hk:=pY p hp
  obtain⟨vs,T,hh,hl,h1,h2⟩:=hk.cells
  have hb:=iJ hh
  refine⟨kj p hp,hk.ai,⟨vs,T,by rw [e1.kept p.b hb hk.unk.o hk.unk.t];exact hh,hl,h1,h2⟩,hk.unk.mono e1 hb,hk.base, ?_⟩
  rw [← hk.slot]
  have:=lL p hp
  rw [Q1]at this
  cases ho:o.dst with
  | none=>rfl
  | some t=>
   rw [ho]at this
   have dQ:t≠p.t:=fun h=>this (by rw [h])
   simp [Act.put,Array.getElem?_setIfInBounds_ne dQ]
theorem CX {ai:AI} (hm:eK ai.kind=false) {tm:Tm} {s:St} {d:D} (h:fZ ai tm s=some d):fB P [ai] (fun a b=>a=tm.put ai.dst d∧b=s) tm s:=by
 cases ai with
 | op dst g o=>
  have T6:=BU hm
  have key : ∀ {d},(aG o tm s).map (·.1)=some d→aG o tm s=some (d,s):=by
   intro d h
   cases he:aG o tm s with
   | none=>rw [he]at h;cases h
   | some p=>
    obtain⟨d',s'⟩:=p
    rw [he]at h
    simp only [Option.map_some,Option.some.injEq]at h
    subst h
    rw [Bd (by rw [← T6];exact hm) he]
  simp only [fB,AI.dst]
  cases g with
  | none=>
   simp only [fZ]at h
   simp only [guarded,key h,and_self]
  | some p=>
   obtain⟨t,want⟩:=p
   simp only [fZ]at h
   simp only [guarded]
   split at h
   ·rename_i b hb
    simp only [hb]
    split at h
    ·rename_i heq
     refine⟨fun _=>by simp only [key h,and_self],fun dQ=> ?_⟩
     subst heq
     cases b <;> cases dQ
    ·rename_i dQ
     cases h
     exact⟨fun heq=>(dQ heq).elim,fun _=>by simp⟩
   ·rename_i ds hb
    cases h
    simp only [hb,and_self]
   ·cases h
 | call dst g f xs=>cases hm
 | nil dst g n x=>cases hm
 | fM dst g t xs=>cases hm
theorem tf {g:Option (Nat×Bool)} {tm:Tm} {A A' C C':Prop} (ha:A→A') (hc:C→C') (hh:guarded g tm A C):guarded g tm A' C':=by
 cases g with
 | none=>exact ha hh
 | some p=>
  obtain⟨t,want⟩:=p
  unfold guarded at *
  simp only at *
  split
  ·rename_i b hb;rw [hb]at hh;exact⟨fun e=>ha (hh.1 e),fun e=>hc (hh.2 e)⟩
  ·rename_i hb;rw [hb]at hh;exact hc hh
  ·rename_i x h1 h2
   split at hh
   ·exact h1 _ ‹_›
   ·exact h2 _ ‹_›
   ·exact hh
theorem zT {ai:AI} {tm:Tm} {s s1:St} {d:D} (h:nC P ai tm s d s1):fB P [ai] (fun a b=>a=tm.put ai.dst d∧b=s1) tm s:=by
 cases ai with
 | op dst g o=>
  refine tf (fun e=> ?_) (fun e=> ?_) h
  ·rw [e];exact⟨rfl,rfl⟩
  ·obtain⟨rfl,rfl⟩:=e;exact⟨rfl,rfl⟩
 | call dst g f xs=>
  refine tf (fun e=> ?_) (fun e=> ?_) h
  ·exact e.mono fun x y T7=>by obtain⟨rfl,rfl⟩:=T7;exact⟨rfl,rfl⟩
  ·obtain⟨rfl,rfl⟩:=e;exact⟨rfl,rfl⟩
 | nil dst g n x=>exact h.elim
 | fM dst g t xs=>exact h.elim
end
end Go.Abs

/-! Par3 -/

namespace Go.Abs
section
variable {P:Program} {is:List AI} {af pt:List (List Nat)} {K:Tm→St→Prop} {B:fc} {nt:Nat}
theorem ub {ops:Array Oper} : ∀ {ol:List Oper} {is:List AI},mb P nt ops ol=some is→is.length=ol.length∧∀ (i:Nat) (o:Oper),ol[i]? = some o→∃ ai,is[i]? = some ai∧cI P nt ops o=some ai
 | [],is,h=>by cases h;exact⟨rfl,by simp⟩
 | o::ol,is,h=>by
  unfold mb at h
  split at h
  ·rename_i ai E6 h1 h2
   cases h
   obtain⟨g1,g2⟩:=ub h2
   refine⟨by simp [g1],fun i o' ho=> ?_⟩
   cases i with
   | zero=>simp at ho;subst ho;exact⟨ai,rfl,h1⟩
   | succ i=>exact g2 i o' (by simpa using ho)
  ·cases h
theorem nG {bM:Array Bool} {i:Nat} (h:i<bM.size):bM.getD i true=bM.getD i false:=by
 simp [h]
theorem mj.done {bM:Array Bool} {X Y:List (Nat×Nat)} {q b:Nat} {cz:List Pd} (hs:mj is af pt bM (X++(q,b)::Y) cz) (hq:q<is.length)
 (xU : ∀ j∈eZ pt q,bM.getD j false=true):mj is af pt (bM.setIfInBounds q true) (X++Y) cz:=by
 obtain⟨g1,g2,g3,g4,g5⟩:=nV hs.ok
 have T8:q∉Y.map (·.1):=fun hm=>by
  obtain⟨x,hx,rfl⟩:=List.mem_map.1 hm
  exact(tZ g5 x hx).1 (by simp)
 refine⟨w9 hs.ok,fun i hi=> ?_,fun i hi hl j hj=> ?_,by simp [hs.size],fun x hx=>hs.lt x (by simp at hx ⊢;exact hx.imp id .inr)⟩
 ·by_cases oG:i=q
  ·subst oG
   have:i<bM.size:=by rw [hs.size];exact hq
   simp only [List.map_append,List.mem_append,g2,T8,or_self,not_false_eq_true,true_or,iff_true]
   simp [this]
  ·rw [getD_set_ne false (Ne.symm oG),hs.xT i hi]
   simp [oG]
 ·by_cases oG:i=q
  ·subst oG;exact getD_set_true (xU j hj)
  ·rw [getD_set_ne false (Ne.symm oG)]at hl
   exact getD_set_true (hs.cl i hi hl j hj)
theorem mj.flag {bM:Array Bool} {R:List (Nat×Nat)} {cz:List Pd} (hs:mj is af pt bM R cz) {p:Pd} (hq:p.q<is.length)
 (xU : ∀ j∈eZ pt p.q,bM.getD j false=true):mj is af pt (bM.setIfInBounds p.q true) R (p::cz):=by
 refine⟨hs.ok,fun i hi=> ?_,fun i hi hl j hj=> ?_,by simp [hs.size],hs.lt⟩
 ·by_cases oG:i=p.q
  ·subst oG
   have:p.q<bM.size:=by rw [hs.size];exact hq
   simp [this]
  ·rw [getD_set_ne false (Ne.symm oG),hs.xT i hi]
   have dQ:p.q≠i:=fun h=>oG h.symm
   simp [dQ]
 ·by_cases oG:i=p.q
  ·subst oG;exact getD_set_true (xU j hj)
  ·rw [getD_set_ne false (Ne.symm oG)]at hl
   exact getD_set_true (hs.cl i hi hl j hj)
theorem CY {ai:AI} (h:ai.kind = .alloc) : ∃ t z,ai = .op (some t) none (.alloc z):=by
 cases ai with
 | op dst g o=>
  unfold AI.kind at h
  split at h
  ·rename_i heq;cases heq;exact⟨_,_,rfl⟩
  ·rename_i heq
   cases heq
   exfalso
   revert h
   cases o <;> simp [AO.kind]
  ·cases h
 | call dst g f xs=>cases h
 | nil dst g n x=>cases h
 | fM dst g t xs=>cases h
theorem CZ {ops:Array Oper} (qA:mb P nt ops ops.toList=some is) (C0:qQ af pt is.length=true)
 (hK : ∀ tm bg s,Tm.eqv tm bg→K tm s→K bg s) {bM:Array Bool} {R:List (Nat×Nat)} {cz:List Pd} {act:Act} {w:World} (hs:mj is af pt bM R cz) (h:rH P is K B nt R cz act w)
 (Px : ∀ x l,R=x::l→∀ p∈cz,p.q≠x.1) {q:Nat} (hq:q<is.length) (vW:bM.getD q false=false) (lx : ∀ j∈eZ af q,j<is.length∧bM.getD j false=true)
 {Q:Exit→Act→World→Prop} {K2:Act→World→Prop} (MH : ∀ R' pZ a' w',mj is af pt (bM.setIfInBounds q true) R' pZ→rH P is K B nt R' pZ a' w'→K2 a' w'):wpOp P ops Q q K2 act w:=by
 obtain⟨hlen,hJ⟩:=ub qA
 have JT:q<ops.size:=by rw [hlen]at hq;simpa using hq
 obtain⟨ai,pU,Fk⟩:=hJ q ops[q] (by simp [JT])
 have hi:ops[q]? = some ops[q]:=by simp [JT]
 have xU : ∀ j∈eZ pt q,bM.getD j false=true:=fun j hj=>by
  rcases uG C0 q hq j hj with h1 | ⟨k,h1,h2⟩
  ·exact(lx j h1).2
  ·exact hs.cl k (lx k h1).1 (lx k h1).2 j h2
 have Fl : ∀ p∈cz,p.q≠q:=fun p hp oH=>by
  have:=(hs.xT q hq).2 (.inr ⟨p,hp,oH⟩)
  rw [vW]at this;cases this
 have MD:q∈R.map (·.1):=by
  by_cases hm:q∈R.map (·.1)
  ·exact hm
  ·have:=(hs.xT q hq).2 (.inl hm)
   rw [vW]at this;cases this
 obtain⟨⟨q',b⟩,hx,Q2⟩:=List.mem_map.1 MD
 simp only at Q2
 subst Q2
 obtain⟨X,Y,rfl⟩:=List.append_of_mem hx
 obtain⟨g1,g2,g3,g4,g5⟩:=nV hs.ok
 rw [List.append_nil]at g1 g5
 obtain⟨M,s,tm,nW,aY,e,r,ht,lH,hn,hd,hg,pY,nF⟩:=h
 have Fm:fN is q'=ai.kind:=by simp [fN,pU]
 -- what must have come up ahead of it, is not here any more, but for what was allocated early
 have J4 : ∀ a∈X.map (·.1),a∈eZ pt q'→∃ p∈cz,p.q=a:=fun a ha ez=>by
  have h1:=xU a ez
  obtain⟨x,Q3,rfl⟩:=List.mem_map.1 ha
  rcases(hs.xT x.1 (hs.lt x (by simp [Q3]))).1 h1 with h2 | h2
  ·exact(h2 (by simp;exact .inl ⟨x.2,Q3⟩)).elim
  ·exact h2
 have J5 : ∀ x l,X=x::l→x.1∉eZ pt q':=fun x l hX Ua=>by
  obtain⟨p,hp,oH⟩:=J4 x.1 (by simp [hX]) Ua
  exact Px x (l++(q',b)::Y) (by simp [hX]) p hp oH
 have Q4 : ∀ p∈cz,fN is p.q = .alloc:=fun p hp=>by simp [fN,(pY p hp).ai,AI.kind]
 have u9 : ∀ p∈cz,(p.q∈X.map (·.1)→gW is p.q q'=true)→(∀ t,ai.dst=some t→t≠p.t)∧p.t∉ai.reads:=fun p hp hX=>by
  have hk:=pY p hp
  have hm:=hk.mem
  simp only [List.map_append,List.map_cons,List.mem_append,List.mem_cons]at hm
  rcases hm with hm | hm | hm
  ·have:=hX hm
   simp only [gW,hk.ai,pU]at this
   obtain⟨p1,p2,p3⟩:=apart_spec this
   exact⟨fun t ht he=>p3 p.t rfl (by rw [ht,he]),p1 p.t rfl⟩
  ·exact(Fl p hp hm).elim
  ·obtain⟨x,Ub,J6⟩:=List.mem_map.1 hm
   have:=(tZ g5 x Ub).2 (by rw [J6];exact Q4 p hp) q' (by simp)
   rw [J6]at this
   simp only [gW,hk.ai,pU]at this
   obtain⟨p1,p2,p3⟩:=apart_spec this
   exact⟨fun t ht he=>p3 t ht (by rw [he];rfl),p2 p.t rfl⟩
 have Fo:(∀ p∈cz,p.t∉ai.reads)→∀ t∈ai.reads,tm.get t=nW.get t:=fun hp t ht=>(lH t fun p MF he=>hp p MF (by rw [he];exact ht)).symm
 have J7 : ∀ p∈cz,p.q∈(X++Y).map (·.1):=fun p hp=>by
  have hm:=(pY p hp).mem
  have:=Fl p hp
  simp only [List.map_append,List.map_cons,List.mem_append,List.mem_cons]at hm ⊢
  rcases hm with hm | hm | hm
  ·exact .inl hm
  ·exact(this hm).elim
  ·exact .inr hm
 by_cases tg:ai.kind = .alloc
 ·-- an allocation
  obtain⟨t,z,rfl⟩:=CY tg
  have ez : ∀ a∈X.map (·.1),gW is a q'=true:=fun a ha=>by
   unfold kH at g1
   rw [Fm,tg]at g1
   simp only [List.all_reverse,List.all_eq_true]at g1
   exact g1 a ha
  have xV:=fun p hp=>u9 p hp (ez p.q)
  refine Be hi Fk fun vs T hl h1 h2=> ?_
  obtain⟨r1,e1,u1⟩:=r.idle (.cells vs T)
  have MI:t<act.tmps.size:=by
   rw [hn]
   exact qX Fk t (by rw [← nU Fk];rfl)
  have:=hs.flag (p:=⟨q',t,z,w.heap.size⟩) hq xU
  refine MH _ _ _ _ this ⟨M,s,tm,nW.put (some t) .junk,aY,e.trans e1,r1,iL.put ht (dst:=some t) (fun u hu=>by cases hu;exact MI) (.junk _),fun u hu=> ?_,by simp [Act.put,hn],by simp [Act.put,hd],hg,fun p hp=> ?_,fun p hp p' kz he=> ?_⟩
  ·have h3:=hu ⟨q',t,z,w.heap.size⟩ (by simp)
   rw [Tm.hO,if_neg (by simpa using h3)]
   exact lH u fun p hp=>hu p (List.mem_cons_of_mem _ hp)
  ·rcases List.mem_cons.1 hp with rfl | hp
   ·refine⟨by simp,pU,⟨vs,T,heap_alloc_new w _,hl,h1,h2⟩,u1,e.size, ?_⟩
    simp [Act.put,MI]
   ·have hk:=pY p hp
    obtain⟨dV,T',iO,ld,mV,qZ⟩:=hk.cells
    refine⟨hk.mem,hk.ai,⟨dV,T',by rw [heap_alloc_old w _ _ (iJ iO)];exact iO,ld,mV,qZ⟩,hk.unk,hk.base, ?_⟩
    rw [← hk.slot]
    have dQ:t≠p.t:=(xV p hp).1 t rfl
    simp [Act.put,Array.getElem?_setIfInBounds_ne dQ]
  ·have cU : ∀ p∈cz,¬ (q'=p.q∨t=p.t∨w.heap.size=p.b):=fun p hp h=>by
    rcases h with h | h | h
    ·exact Fl p hp h.symm
    ·exact(xV p hp).1 t rfl h
    ·obtain⟨dV,T',iO,_⟩:=(pY p hp).cells
     have:=iJ iO
     omega
   rcases List.mem_cons.1 hp with rfl | hp <;> rcases List.mem_cons.1 kz with rfl | kz
   ·rfl
   ·exact(cU p' kz he).elim
   ·exact(cU p hp (he.imp Eq.symm (Or.imp Eq.symm Eq.symm))).elim
   ·exact nF p hp p' kz he
 ·by_cases jY:eK ai.kind=true
  ·-- a step that changes something: it stands first
   have Uc:ai.kind = .core:=by
    cases hk:ai.kind <;> simp_all [eK]
   have hX:X = []:=by
    cases X with
    | nil=>rfl
    | cons x l=>
     refine(J5 x l rfl ?_).elim
     unfold kH at g1
     rw [Fm,Uc]at g1
     simp only [List.all_reverse,List.all_eq_true]at g1
     have:=g1 x.1 (by simp)
     rwa [List.contains_iff_mem]at this
   subst hX
   have xV:=fun p hp=>u9 p hp (fun h=>by simp at h)
   simp only [List.nil_append,gK,pU,jY]at hg
   obtain⟨d,s1,uw,hg⟩:=hg
   have RV:=qx (Fo fun p hp=>(xV p hp).2) uw
   refine wpOp_mono (fun a' w' hr=>MH _ _ _ _ (hs.done hq xU) hr) ?_
   exact J2 hi Fk e r ht lH hn hd pY nF (zT RV) hg J7 (fun p hp he=>(xV p hp).1 _ he rfl)
  ·-- a step that changes nothing
   have hm:eK ai.kind=false:=by simpa using jY
   have kR : ∀ a∈X.map (·.1),a∉eZ pt q':=fun a ha ez=>by
    obtain⟨p,hp,oH⟩:=J4 a ha ez
    have E4:fN is a = .alloc:=by rw [← oH];exact Q4 p hp
    have gE:gQ is (eZ pt q') (X.map (·.1)).reverse=true:=by
     unfold kH at g1
     rw [Fm]at g1
     cases hk:ai.kind with
     | pure=>simp only [hk,Bool.and_eq_true]at g1;exact g1.2
     | load=>simp only [hk,Bool.and_eq_true]at g1;exact g1.1.2
     | alloc=>exact(tg hk).elim
     | core=>rw [hk]at hm;cases hm
    cases X with
    | nil=>simp at ha
    | cons x l=>
     have Ud:a∈((x::l).map (·.1)).reverse:=List.mem_reverse.2 ha
     obtain⟨l1,l2,uI⟩:=List.append_of_mem Ud
     have vb:=q4 gE a l1 l2 uI E4 ez
     refine J5 x l rfl ?_
     cases kv:l2.reverse with
     | nil=>
      have h3:l2 = []:=by simpa using kv
      subst h3
      have:=congrArg List.reverse uI
      simp at this
      rw [this.1];exact ez
     | cons y l3=>
      have:=congrArg List.reverse uI
      simp only [List.reverse_reverse,List.map_cons,List.reverse_append,List.reverse_cons,List.reverse_nil,List.append_assoc,kv,List.cons_append,List.nil_append,List.cons.injEq]at this
      rw [this.1]
      exact vb y (by rw [← List.mem_reverse,kv];simp)
   have ez : ∀ a∈X,gW is a.1 q'=true:=fun a ha=>by
    have h3 : ∀ x∈(X.map (·.1)).reverse,((eZ pt q').contains x || gW is x q')=true:=by
     unfold kH at g1
     rw [Fm]at g1
     cases hk:ai.kind with
     | pure=>simp only [hk,Bool.and_eq_true]at g1;exact List.all_eq_true.1 g1.1
     | load=>simp only [hk,Bool.and_eq_true]at g1;exact List.all_eq_true.1 g1.1.1
     | alloc=>exact(tg hk).elim
     | core=>rw [hk]at hm;cases hm
    have:=h3 a.1 (List.mem_reverse.2 (List.mem_map_of_mem ha))
    simp only [Bool.or_eq_true,List.contains_iff_mem]at this
    exact this.resolve_left (kR a.1 (List.mem_map_of_mem ha))
   have MJ:ai.kind = .load→fQ is (X.map (·.1))≤b:=fun hk=>by
    unfold kH at g1
    rw [Fm,hk]at g1
    simp only [Bool.and_eq_true,decide_eq_true_eq]at g1
    have h3:=g1.2
    have h4:(X.map (·.1)).reverse.filter (fun a=> !(eZ pt q').contains a)=(X.map (·.1)).reverse:=by
     rw [List.filter_eq_self]
     intro a ha
     have:=kR a (List.mem_reverse.1 ha)
     simpa using this
    rw [h4]at h3
    unfold fQ at h3 ⊢
    rw [List.filter_reverse,List.length_reverse]at h3
    exact h3
   have xV:=fun p hp=>u9 p hp (fun h=>by
    obtain⟨x,hx,J6⟩:=List.mem_map.1 h
    rw [← J6];exact ez x hx)
   obtain⟨d,h1,_,J8⟩:=qy hK pU hm Y X aY tm s ez MJ hg
   have mV:fZ ai nW s=some d:=by rw [← lX (Fo fun p hp=>(xV p hp).2)];exact h1
   refine wpOp_mono (fun a' w' hr=>MH _ _ _ _ (hs.done hq xU) hr) ?_
   exact J2 hi Fk e r ht lH hn hd pY nF (CX hm mV) J8 J7 (fun p hp he=>(xV p hp).1 _ he rfl)
theorem uJ {o:Oper} {j:Nat} : j∈jm o↔∃ e∈o.after,Region.binds .any e=true∧e.on=j:=by
 simp only [jm,List.mem_map,List.mem_filter,Array.mem_toList_iff]
 constructor
 ·rintro⟨e,⟨h1,h2⟩,h3⟩;exact⟨e,h1,h2,h3⟩
 ·rintro⟨e,h1,h2,h3⟩;exact⟨e,⟨h1,h2⟩,h3⟩
theorem C1 {ops:Array Oper} (qA:mb P nt ops ops.toList=some is) (C0:qQ (ops.toList.map jm) pt is.length=true)
 (MK : ∀ i,i<is.length→∀ j∈eZ (ops.toList.map jm) i,j<is.length) {Q:Exit→Tm→St→Prop} (hK : ∀ tm bg s,Tm.eqv tm bg→K tm s→K bg s)
 (Ue : ∀ tm s act w,K tm s→Holds B nt tm s act w→lj B nt Q .normal act w) :
 ∀ (fuel:Nat) (bM:Array Bool) (R:List (Nat×Nat)) (cz:List Pd) (act:Act) (w:World) (U:List Nat),U.length≤fuel→(∀ j,j<is.length→bM.getD j false=false→j∈U)→
  mj is (ops.toList.map jm) pt bM R cz→rH P is K B nt R cz act w→wpAny P .any ops (lj B nt Q) fuel bM act w:=by
 obtain⟨hlen,_⟩:=ub qA
 have p6:is.length=ops.size:=by rw [hlen];simp
 have MM : ∀ (j:Nat) (o:Oper),ops[j]? = some o→eZ (ops.toList.map jm) j=jm o:=fun j o h=>by
  simp [eZ,List.getD,h]
 have fin : ∀ {bM:Array Bool} {cz:List Pd} {act:Act} {w:World},rH P is K B nt [] cz act w→lj B nt Q .normal act w:=by
  intro bM cz act w h
  obtain⟨M,s,tm,nW,aY,e,r,ht,lH,hn,hd,hg,pY,nF⟩:=h
  have zH : ∀ p∈cz,False:=fun p hp=>by have:=(pY p hp).mem;simp at this
  exact Ue nW s act w (hK tm nW s (fun t=>(lH t fun p hp=>(zH p hp).elim).symm) hg) ⟨M,e,r,ht,hn,hd⟩
 have Fp : ∀ {bM:Array Bool} {R:List (Nat×Nat)} {cz:List Pd} {x:Nat×Nat} {l:List (Nat×Nat)},mj is (ops.toList.map jm) pt bM R cz→R=x::l→(∀ p∈cz,p.q≠x.1)→
  x.1∈Region.ready .any ops bM:=by
  intro bM R cz x l hs hR Fl
  subst hR
  have hx:=hs.lt x (by simp)
  rw [mem_ready]
  have vW:bM.getD x.1 false=false:=by
   cases hl:bM.getD x.1 false with
   | false=>rfl
   | true=>
    rcases(hs.xT x.1 hx).1 hl with h1 | ⟨p,hp,oH⟩
    ·exact(h1 (by simp)).elim
    ·exact(Fl p hp oH).elim
  have Q5:x.1<ops.size:=by rw [← p6];exact hx
  refine⟨by rw [nG (by rw [hs.size];exact hx)];exact vW,ops[x.1],by simp [Q5],fun e he hb=> ?_⟩
  have hm:e.on∈eZ (ops.toList.map jm) x.1:=by rw [MM x.1 ops[x.1] (by simp [Q5])];exact uJ.2 ⟨e,he,hb,rfl⟩
  obtain⟨_,_,_,g4,_⟩:=nV (X:= []) (q:=x.1) (b:=x.2) hs.ok
  obtain⟨h1,h2⟩:=g4 _ hm
  refine(hs.xT e.on (MK x.1 hx _ hm)).2 (.inl ?_)
  simp only [List.map_cons,List.mem_cons,not_or]
  exact⟨h1,h2⟩
 intro fuel
 induction fuel with
 | zero=>
  intro bM R cz act w U hU vW hs h
  obtain⟨R',pZ,kK,h',hn⟩:=norm R cz hs h
  have Uf:U = []:=List.length_eq_zero_iff.1 (by omega)
  have vb : ∀ j,j<is.length→bM.getD j false=true:=fun j hj=>by
   cases hl:bM.getD j false with
   | true=>rfl
   | false=>have:=vW j hj hl;rw [Uf]at this;cases this
  have hR:R' = []:=by
   cases hR:R' with
   | nil=>rfl
   | cons x l=>
    have hx:=kK.lt x (by simp [hR])
    have:=Fp kK hR (hn x l hR)
    rw [mem_ready,nG (by rw [kK.size];exact hx),vb x.1 hx]at this
    cases this.1
  subst hR
  refine⟨?_,fin (bM:=bM) h'⟩
  cases hr:Region.ready .any ops bM with
  | nil=>rfl
  | cons j js=>
   have hj:j∈Region.ready .any ops bM:=by rw [hr];simp
   rw [mem_ready]at hj
   obtain⟨h1,o,ho,_⟩:=hj
   have Q6:j<is.length:=by rw [p6];exact(Array.getElem?_eq_some_iff.1 ho).1
   rw [nG (by rw [hs.size];exact Q6),vb j Q6]at h1
   cases h1
 | succ fuel ih=>
  intro bM R cz act w U hU vW hs h
  obtain⟨R',pZ,kK,h',hn⟩:=norm R cz hs h
  refine⟨fun hr=> ?_,fun i hi=> ?_⟩
  ·cases hR:R' with
   | nil=>subst hR;exact fin (bM:=bM) h'
   | cons x l=>
    have:=Fp kK hR (hn x l hR)
    rw [hr]at this
    cases this
  ·rw [mem_ready]at hi
   obtain⟨h1,o,ho,RX⟩:=hi
   have mg:i<is.length:=by rw [p6];exact(Array.getElem?_eq_some_iff.1 ho).1
   rw [nG (by rw [hs.size];exact mg)]at h1
   refine CZ qA C0 hK kK h' hn mg h1 (fun j hj=>⟨MK i mg j hj, ?_⟩) fun R2 Pz a2 w2 BO h2=> ?_
   ·rw [MM i o ho]at hj
    obtain⟨e,he,hb,rfl⟩:=uJ.1 hj
    exact RX e he hb
   ·refine ih _ R2 Pz a2 w2 (U.erase i) ?_ (fun j hj hl=> ?_) BO h2
    ·have:=List.length_erase_of_mem (vW i mg h1)
     omega
    ·have Q7:j≠i:=fun e=>by
      subst e
      have:j<bM.size:=by rw [hs.size];exact mg
      simp [this]at hl
     rw [getD_set_ne false (Ne.symm Q7)]at hl
     exact(List.mem_erase_of_ne Q7).2 (vW j hj hl)
theorem Sem.par {is:List AI} {iD:List (Nat×Nat)} {Q:Exit→Tm→St→Prop} {tm:Tm} {s:St} (h:gK P is (Q .normal) iD [] tm s):Sem P B nt (.par is iD) Q tm s:=by
 intro c hc act w hh
 obtain⟨id,ops,rfl,hi,hm,pt,hp⟩:=iN hc
 simp only [zl,Bool.and_eq_true,List.all_eq_true,List.mem_range,List.contains_iff_mem,decide_eq_true_eq]at hp
 obtain⟨⟨⟨⟨h1,h2⟩,h3⟩,h4⟩,h5⟩:=hp
 obtain⟨hlen,_⟩:=ub hi
 have p6:is.length=ops.size:=by rw [hlen];simp
 refine wp_region_any hm ?_
 obtain⟨M,e,r,ht,hn,hd⟩:=hh
 have key : ∀ (R:List (Nat×Nat)) (aY:List St) (tm:Tm) (s:St),gK P is (Q .normal) R aY tm s→gK P is (fun tm s=>∃ bg,tm.eqv bg∧Q .normal bg s) R aY tm s:=by
  intro R
  induction R with
  | nil=>intro aY tm s h;exact⟨tm,fun _=>rfl,h⟩
  | cons x R ih=>
   obtain⟨q,b⟩:=x
   intro aY tm s h
   unfold gK at h ⊢
   split at h
   ·exact h.elim
   ·split at h
    ·obtain⟨d,s',h1,h2⟩:=h;exact⟨d,s',h1,ih _ _ _ h2⟩
    ·obtain⟨d,h1,h2,h3⟩:=h;exact⟨d,h1,h2,ih _ _ _ h3⟩
 have hg:=key _ _ _ _ h
 refine C1 (K:=fun tm s=>∃ bg,tm.eqv bg∧Q .normal bg s) hi h1 h5 (fun tm bg s he ⟨t2,h3,h4⟩=>⟨t2,fun t=>(he t).symm.trans (h3 t),h4⟩)
  (fun tm s act w ⟨t2,h3,h4⟩ ⟨M,e,r,ht,hn,hd⟩=>⟨t2,s,h4,M,e,r,fun t=>by rw [← h3 t];exact ht t,hn,hd⟩) ops.size _ iD [] act _ (List.range is.length) (by simp [p6]) (fun j hj _=>by simpa using hj)
  ⟨h2,fun i hi=> ?_,fun i hi hl=> ?_,by simp [p6],h4⟩ ⟨M,s,tm,tm,[],⟨e.le,e.kept,e.l8,e.l9,e.n8,e.size,e.os,e.tape,e.output⟩,r.of_heap rfl,ht,fun _ _=>rfl,hn,hd,hg,by simp,by simp⟩
 ·have:i<ops.size:=by rw [← p6];exact hi
  have h6:=h3 i hi
  simp only [List.not_mem_nil,false_and,exists_false,or_false]
  rw [show(Array.replicate ops.size false).getD i false=false by simp [this]]
  simp [h6]
 ·have:i<ops.size:=by rw [← p6];exact hi
  rw [show(Array.replicate ops.size false).getD i false=false by simp [this]]at hl
  cases hl
end
end Go.Abs

/-! Step -/

namespace Go.Abs
theorem KX (k:IntKind) (n:Int):D.row (.int k n)=some [.int k n]:=rfl
theorem HD (b:Bool):D.row (.bool b)=some [.bool b]:=rfl
theorem KY (l:List UInt8):D.row (.str l)=some [.str l]:=rfl
theorem HE:D.row .dR=some [.dR]:=rfl
theorem KZ (o f:Nat):D.row (.ptr o f)=some [.ptr o f]:=rfl
theorem HF (r:List D) (f:Nat):D.row (.cL r f)=some [.cL r f]:=rfl
theorem Fq (g:Tag) (z:Nat) (r:List (List D)):D.row (.slice g z r)=some [.slice g z r]:=rfl
theorem K0 (cs:List D):D.row (.agg cs)=some cs:=rfl
theorem K1 (v:Value):D.row (.val v)=some [.val v]:=rfl
theorem Fs (T:TypeId) (o:Nat):D.row (.dT T o)=some [.dT T o]:=rfl
theorem K3 (f:Nat) (cs:List D):D.row (.eW f cs)=some [.eW f cs]:=rfl
theorem HG (o:Nat):D.row (.eU o)=some [.eU o]:=rfl
theorem HH (w:Bool):Tag.cut .full w=if w then .full else .shared:=rfl
theorem C2 (w:Bool):Tag.cut .shared w = .shared:=rfl
theorem HI (t:Nat) (y:Bool) (w:Bool):Tag.cut (.tok t y) w = .tok t y:=rfl
section
variable {P:Program}
def KC (P:Program) (r:List AI) (K:Tm→St→Prop) (tm:Tm) (dst:Option Nat) (d:D) (s:St):Prop:=fB P r K (tm.put dst d) s
def GI (P:Program) (g:D) (want:Bool) (i:AI) (r:List AI) (K:Tm→St→Prop) (tm:Tm) (s:St):Prop:=
 match g with
 | .bool b=>(b=want→fB P (i::r) K tm s)∧(b=(!want)→fB P r K (tm.put i.dst (.tuple [])) s)
 | .tuple _=>fB P r K (tm.put i.dst (.tuple [])) s
 | _=>False
def NI (P:Program) (dst:Option Nat) (neg:Bool) (x:D) (r:List AI) (K:Tm→St→Prop) (tm:Tm) (s:St):Prop:=
 match x with
 | .slice _ _ rows=>∀ b:Bool,(rows≠ []→b=false)→fB P r K (tm.put dst (.bool (if neg then !b else b))) s
 | _=>False
def oS (d:D) (A C:Prop):Prop:=
 match d with
 | .bool b=>(b=true→A)∧(b=false→C)
 | _=>False
theorem Sem.PA {B:fc} {nt:Nat} {Q:Exit→Tm→St→Prop} {tm:Tm} {s:St} {x:X} {a b:AC} (h:oS (x.ev tm) (Sem P B nt a Q tm s) (Sem P B nt b Q tm s)):Sem P B nt (.cond x a b) Q tm s:=by
 unfold oS at h
 split at h
 ·rename_i t ht
  exact Sem.cond ht h.1 h.2
 ·exact h.elim
def eO (P:Program) (K:Tm→St→Prop):List (AI×Nat)→List St→Tm→St→Prop
 | [],_,tm,s=>K tm s
 | (ai,b)::r,aY,tm,s=>
  match eK ai.kind with
  | true=>∃ d s',nC P ai tm s d s'∧eO P K r (s::aY) (tm.put ai.dst d) s'
  | false=>∃ d,fZ ai tm s=some d∧(ai.kind = .load→∀ s'∈aY.take b,fZ ai tm s'=some d)∧eO P K r aY (tm.put ai.dst d) s
def jr (is:List AI):List (Nat×Nat)→Option (List (AI×Nat))
 | []=>some []
 | (q,b)::r=>match is[q]?,jr is r with
  | some ai,some l=>some ((ai,b)::l)
  | _,_=>none
theorem xa {is:List AI} {K:Tm→St→Prop} : ∀ {iD:List (Nat×Nat)} {items:List (AI×Nat)} {aY:List St} {tm:Tm} {s:St},jr is iD=some items→eO P K items aY tm s→gK P is K iD aY tm s
 | [],items,aY,tm,s,h,g=>by cases h;exact g
 | (q,b)::r,items,aY,tm,s,h,g=>by
  simp only [jr]at h
  split at h
  ·rename_i ai l h1 h2
   cases h
   simp only [eO]at g
   simp only [gK,h1]
   split at g
   ·rename_i hk
    obtain⟨d,s',g1,g2⟩:=g
    try simp only [hk]
    exact⟨d,s',g1,xa h2 g2⟩
   ·rename_i hk
    obtain⟨d,g1,g2,g3⟩:=g
    try simp only [hk]
    exact⟨d,g1,g2,xa h2 g3⟩
  ·cases h
theorem Sem.RY {B:fc} {nt:Nat} {Q:Exit→Tm→St→Prop} {tm:Tm} {s:St} {is:List AI} {iD:List (Nat×Nat)} {items:List (AI×Nat)} (hi:jr is iD=some items) (h:eO P (Q .normal) items [] tm s):Sem P B nt (.par is iD) Q tm s:=
 Sem.par (xa hi h)
def AI.free:AI→AI
 | .op d _ o=> .op d none o
 | .call d _ f xs=> .call d none f xs
 | .nil d _ n x=> .nil d none n x
 | .fM d _ t xs=> .fM d none t xs
def GL (P:Program) (g:D) (want:Bool) (i:AI) (b:Nat) (r:List (AI×Nat)) (K:Tm→St→Prop) (aY:List St) (tm:Tm) (s:St):Prop:=
 match g with
 | .bool v=>(v=want→eO P K ((i,b)::r) aY tm s)∧(v=(!want)→eO P K r (if eK i.kind then s::aY else aY) (tm.put i.dst (.tuple [])) s)
 | .tuple _=>eO P K r (if eK i.kind then s::aY else aY) (tm.put i.dst (.tuple [])) s
 | _=>False
def CL (P:Program) (f:Nat) (args:List D) (s:St) (K:D→St→Prop):Prop:=∃ d s',aI P f args s d s'∧K d s'
def KL (P:Program) (K:Tm→St→Prop) (r:List (AI×Nat)) (aY:List St) (tm:Tm) (dst:Option Nat) (d:D) (s:St):Prop:=eO P K r aY (tm.put dst d) s
def j7 (i:AI) (tm:Tm) (d:D):List St→Prop
 | []=>True
 | s::r=>fZ i tm s=some d∧j7 i tm d r
theorem vX {i:AI} {tm:Tm} {d:D} : ∀ {l:List St},j7 i tm d l→∀ s∈l,fZ i tm s=some d
 | [],_,s,h=>by cases h
 | a::l,h,s,hs=>by
  rcases List.mem_cons.1 hs with rfl | hs
  ·exact h.1
  ·exact vX h.2 s hs
def PL (P:Program) (o:AO) (dst:Option Nat) (b:Nat) (r:List (AI×Nat)) (K:Tm→St→Prop) (aY:List St) (tm:Tm) (s:St):Prop:=
 match aG o tm s with
 | some (d,_)=>j7 (.op dst none o) tm d (aY.take b)∧eO P K r aY (tm.put dst d) s
 | none=>False
def ML (P:Program) (o:AO) (dst:Option Nat) (r:List (AI×Nat)) (K:Tm→St→Prop) (aY:List St) (tm:Tm) (s:St):Prop:=
 match aG o tm s with
 | some (d,s')=>eO P K r (s::aY) (tm.put dst d) s'
 | none=>False
def AO.core:AO→Bool
 | .alloc _=>true
 | .box _=>true
 | .o4 .. =>true
 | .sK _=>true
 | .store .. =>true
 | .app .. =>true
 | .nL .. =>true
 | .sM .. =>true
 | .sN .. =>true
 | .apps .. =>true
 | .oM=>true
 | .rq .. =>true
 | _=>false
theorem nX (dst:Option Nat) (g:Option (Nat×Bool)) (o:AO):eK (AI.op dst g o).kind=o.core:=by
 cases dst <;> cases g <;> cases o <;> rfl
def OL (P:Program) (o:AO) (dst:Option Nat) (b:Nat) (r:List (AI×Nat)) (K:Tm→St→Prop) (aY:List St) (tm:Tm) (s:St):Prop:=
 match o.core with
 | true=>ML P o dst r K aY tm s
 | false=>PL P o dst b r K aY tm s
theorem zU {K:Tm→St→Prop} {dst:Option Nat} {o:AO} {b:Nat} {r:List (AI×Nat)} {aY:List St} {tm:Tm} {s:St} (h:OL P o dst b r K aY tm s) :
 eO P K ((.op dst none o,b)::r) aY tm s:=by
 unfold OL at h
 simp only [eO,nX]
 cases hc:o.core with
 | true=>
  simp only [hc,ML]at h
  simp only []
  split at h
  ·rename_i d s' he
   exact⟨d,s',by simpa [nC,guarded]using he,h⟩
  ·exact h.elim
 | false=>
  simp only [hc,PL]at h
  simp only []
  split at h
  ·rename_i d s' he
   exact⟨d,by simp [fZ,he],fun _=>vX h.1,h.2⟩
  ·exact h.elim
theorem C4 {K:Tm→St→Prop} {dst:Option Nat} {f:Nat} {xs:List X} {b:Nat} {r:List (AI×Nat)} {aY:List St} {tm:Tm} {s:St} (h:CL P f (xs.map (·.ev tm)) s (KL P K r (s::aY) tm dst)) :
 eO P K ((.call dst none f xs,b)::r) aY tm s:=by
 obtain⟨d,s',h1,h2⟩:=h
 exact⟨d,s',h1,h2⟩
theorem MN {K:Tm→St→Prop} {i:AI} {t:Nat} {w:Bool} {b:Nat} {r:List (AI×Nat)} {aY:List St} {tm:Tm} {s:St} {j:AI} (hf:(∃ d o,i = .op d none o∧j = .op d (some (t,w)) o)∨(∃ d f xs,i = .call d none f xs∧j = .call d (some (t,w)) f xs))
 (hg:tm.get t = .bool w) (h:eO P K ((i,b)::r) aY tm s):eO P K ((j,b)::r) aY tm s:=by
 rcases hf with ⟨d,o,rfl,rfl⟩ | ⟨d,f,xs,rfl,rfl⟩
 ·simp only [eO,nX]at h ⊢
  cases hc:o.core <;> simp only [hc]at h ⊢
  ·obtain⟨x,h1,h2,h3⟩:=h
   refine⟨x,by simpa [fZ,hg]using h1,fun hk s' kK=> ?_,h3⟩
   have uH:(AI.op d none o).kind = .load:=by
    cases d <;> cases o <;> first | exact hk | (cases hc;done) | (cases hk;done)
   simpa [fZ,hg]using h2 uH s' kK
  ·obtain⟨x,s',h1,h2⟩:=h
   exact⟨x,s',by simpa [nC,guarded,hg]using h1,h2⟩
 ·obtain⟨x,s',h1,h2⟩:=h
  exact⟨x,s',by simpa [nC,guarded,hg]using h1,h2⟩
theorem Ft {K:Tm→St→Prop} {i:AI} {t:Nat} {w:Bool} {b:Nat} {r:List (AI×Nat)} {aY:List St} {tm:Tm} {s:St} {j:AI} (hf:(∃ d o,i = .op d none o∧j = .op d (some (t,w)) o)∨(∃ d f xs,i = .call d none f xs∧j = .call d (some (t,w)) f xs))
 (hg:tm.get t = .bool (!w)∨∃ l,tm.get t = .tuple l) (h:eO P K r (if eK i.kind then s::aY else aY) (tm.put i.dst (.tuple [])) s):eO P K ((j,b)::r) aY tm s:=by
 rcases hf with ⟨d,o,rfl,rfl⟩ | ⟨d,f,xs,rfl,rfl⟩
 ·simp only [eO,nX]at h ⊢
  cases hc:o.core <;> simp only [hc]at h ⊢
  ·refine⟨.tuple [], ?_,fun hk s' kK=> ?_,h⟩
   ·rcases hg with hg | ⟨l,hg⟩ <;> simp [fZ,hg]
   ·rcases hg with hg | ⟨l,hg⟩ <;> simp [fZ,hg]
  ·refine⟨.tuple [],s, ?_,h⟩
   rcases hg with hg | ⟨l,hg⟩ <;> simp [nC,guarded,hg]
 ·refine⟨.tuple [],s, ?_,h⟩
  rcases hg with hg | ⟨l,hg⟩ <;> simp [nC,guarded,hg]
theorem BW {K:Tm→St→Prop} {i j:AI} {t:Nat} {w:Bool} {b:Nat} {r:List (AI×Nat)} {aY:List St} {tm:Tm} {s:St} (hf:(∃ d o,i = .op d none o∧j = .op d (some (t,w)) o)∨(∃ d f xs,i = .call d none f xs∧j = .call d (some (t,w)) f xs))
 (h:GL P (tm.get t) w i b r K aY tm s):eO P K ((j,b)::r) aY tm s:=by
 unfold GL at h
 split at h
 ·rename_i v hv
  by_cases e:v=w
  ·exact MN hf (by rw [hv,e]) (h.1 e)
  ·exact Ft hf (.inl (by rw [hv];cases v <;> cases w <;> simp_all)) (h.2 (by cases v <;> cases w <;> simp_all))
 ·rename_i l hl
  exact Ft hf (.inr ⟨l,hl⟩) h
 ·exact h.elim
theorem xW {K:Tm→St→Prop} {dst:Option Nat} {o:AO} {t:Nat} {w:Bool} {b:Nat} {r:List (AI×Nat)} {aY:List St} {tm:Tm} {s:St} (h:GL P (tm.get t) w (.op dst none o) b r K aY tm s) :
 eO P K ((.op dst (some (t,w)) o,b)::r) aY tm s:=BW (.inl ⟨dst,o,rfl,rfl⟩) h
theorem Bg {K:Tm→St→Prop} {dst:Option Nat} {f:Nat} {xs:List X} {t:Nat} {w:Bool} {b:Nat} {r:List (AI×Nat)} {aY:List St} {tm:Tm} {s:St} (h:GL P (tm.get t) w (.call dst none f xs) b r K aY tm s) :
 eO P K ((.call dst (some (t,w)) f xs,b)::r) aY tm s:=BW (.inr ⟨dst,f,xs,rfl,rfl⟩) h
theorem CU {f:Nat} {args:List D} {s:St} {d:D} {s':St} {K:D→St→Prop} (h:aI P f args s d s') (hk:K d s'):CL P f args s K:=⟨d,s',h,hk⟩
end
end Go.Abs

/-! Wp -/

namespace Go.Abs
theorem nd {α:Type} {a b:α} (h:a=b):a=b:=h
def GJ (g:D) (w:Bool) (A C:Prop):Prop:=
 match g with
 | .bool b=>(b=w→A)∧(b=(!w)→C)
 | .tuple _=>C
 | _=>False
class Q8 where
 a:Prop
 c:Prop
def CB (d:D) [b:Q8] : Prop:=oS d b.a b.c
def GB (d:D) (w:Bool) [b:Q8] : Prop:=GJ d w b.a b.c
def jt (g:Option (Nat×Bool)) (tm:Tm) (A C:Prop):Prop:=
 match g with
 | none=>A
 | some (t,w)=>GJ (tm.get t) w A C
def gH (P:Program):List AI→(Tm→St→Prop)→Tm→St→Prop
 | [],K,tm,s=>K tm s
 | .op dst g o::r,K,tm,s=>jt g tm (match aG o tm s with | some (d,s')=>gH P r K (tm.put dst d) s' | none=>False) (gH P r K (tm.put dst (.tuple [])) s)
 | .call dst g f xs::r,K,tm,s=>jt g tm (CL P f (xs.map (·.ev tm)) s fun d s'=>gH P r K (tm.put dst d) s') (gH P r K (tm.put dst (.tuple [])) s)
 | .nil dst g neg x::r,K,tm,s=>
  jt g tm (match x.ev tm with
   | .slice _ _ rows=>∀ b:Bool,(rows≠ []→b=false)→gH P r K (tm.put dst (.bool (if neg then !b else b))) s
   | _=>False) (gH P r K (tm.put dst (.tuple [])) s)
 | .fM dst g t xs::r,K,tm,s=>
  jt g tm (match tm.get t with
   | .eW f jK=>enters P f=true∧CL P f (xs.map (·.ev tm)++jK) s fun d s'=>gH P r K (tm.put dst d) s'
   | _=>False) (gH P r K (tm.put dst (.tuple [])) s)
theorem nH {g:Option (Nat×Bool)} {tm:Tm} {A C A' C':Prop} (h:jt g tm A C) (ha:A→A') (hc:C→C'):guarded g tm A' C':=by
 unfold jt at h
 unfold guarded
 cases g with
 | none=>exact ha h
 | some p=>
  obtain⟨t,w⟩:=p
  simp only [GJ]at h ⊢
  split at h
  ·rename_i hb;try simp only [hb]
   exact⟨fun e=>ha (h.1 e),fun e=>hc (h.2 e)⟩
  ·rename_i hb;try simp only [hb]
   exact hc h
  ·exact h.elim
theorem kf {P:Program} {K:Tm→St→Prop} : ∀ {is:List AI} {tm:Tm} {s:St},gH P is K tm s→fB P is K tm s
 | [],tm,s,h=>h
 | .op dst g o::r,tm,s,h=>by
  refine nH h (fun h=> ?_) kf
  split at h
  ·rename_i he;try simp only [he]
   exact kf h
  ·exact h.elim
 | .call dst g f xs::r,tm,s,h=>nH h (fun⟨d,s',h1,h2⟩=>h1.use (kf h2)) kf
 | .nil dst g neg x::r,tm,s,h=>by
  refine nH h (fun h=> ?_) kf
  split at h
  ·rename_i he;try simp only [he]
   exact fun b hb=>kf (h b hb)
  ·exact h.elim
 | .fM dst g t xs::r,tm,s,h=>by
  refine nH h (fun h=> ?_) kf
  split at h
  ·rename_i he;try simp only [he]
   obtain⟨h0,d,s',h1,h2⟩:=h
   exact⟨h0,h1.use (kf h2)⟩
  ·exact h.elim
def ek (P:Program) (K:Tm→St→Prop):List (AI×Nat)→List St→Tm→St→Prop
 | [],_,tm,s=>K tm s
 | (.op dst g o,b)::r,aY,tm,s=>
  match o.core with
  | true=>jt g tm (match aG o tm s with | some (d,s')=>ek P K r (s::aY) (tm.put dst d) s' | none=>False) (ek P K r (s::aY) (tm.put dst (.tuple [])) s)
  | false=>jt g tm (match aG o tm s with | some (d,_)=>j7 (.op dst none o) tm d (aY.take b)∧ek P K r aY (tm.put dst d) s | none=>False) (ek P K r aY (tm.put dst (.tuple [])) s)
 | (.call dst g f xs,_)::r,aY,tm,s=>jt g tm (CL P f (xs.map (·.ev tm)) s fun d s'=>ek P K r (s::aY) (tm.put dst d) s') (ek P K r (s::aY) (tm.put dst (.tuple [])) s)
 | (.nil ..,_)::_,_,_,_=>False
 | (.fM ..,_)::_,_,_,_=>False
theorem tj {P:Program} {t:Nat} {w:Bool} {tm:Tm} {i:AI} {b:Nat} {r:List (AI×Nat)} {K:Tm→St→Prop} {aY:List St} {s:St} {A C:Prop} (h:jt (some (t,w)) tm A C) (ha:A→eO P K ((i,b)::r) aY tm s)
 (hc:C→eO P K r (if eK i.kind then s::aY else aY) (tm.put i.dst (.tuple [])) s):GL P (tm.get t) w i b r K aY tm s:=by
 simp only [jt,GJ]at h
 unfold GL
 split at h
 ·rename_i hb;try simp only [hb]
  exact⟨fun e=>ha (h.1 e),fun e=>hc (h.2 e)⟩
 ·rename_i hb;try simp only [hb]
  exact hc h
 ·exact h.elim
theorem iY {P:Program} {K:Tm→St→Prop} : ∀ {l:List (AI×Nat)} {aY:List St} {tm:Tm} {s:St},ek P K l aY tm s→eO P K l aY tm s
 | [],aY,tm,s,h=>h
 | (.op dst g o,b)::r,aY,tm,s,h=>by
  simp only [ek]at h
  cases hc:o.core with
  | true=>
   simp only [hc]at h
   have ha:(match aG o tm s with | some (d,s')=>ek P K r (s::aY) (tm.put dst d) s' | none=>False)→eO P K ((.op dst none o,b)::r) aY tm s:=by
    intro h
    refine zU ?_
    simp only [OL,hc,ML]
    split at h
    ·rename_i he;try simp only [he]
     exact iY h
    ·exact h.elim
   cases g with
   | none=>exact ha h
   | some p=>
    obtain⟨t,w⟩:=p
    refine xW (tj h ha fun h=> ?_)
    simp only [nX,hc,if_true]
    exact iY h
  | false=>
   simp only [hc]at h
   have ha:(match aG o tm s with | some (d,_)=>j7 (.op dst none o) tm d (aY.take b)∧ek P K r aY (tm.put dst d) s | none=>False)→eO P K ((.op dst none o,b)::r) aY tm s:=by
    intro h
    refine zU ?_
    simp only [OL,hc,PL]
    split at h
    ·rename_i he;try simp only [he]
     exact⟨h.1,iY h.2⟩
    ·exact h.elim
   cases g with
   | none=>exact ha h
   | some p=>
    obtain⟨t,w⟩:=p
    refine xW (tj h ha fun h=> ?_)
    simp only [nX,hc]
    exact iY h
 | (.call dst g f xs,b)::r,aY,tm,s,h=>by
  simp only [ek]at h
  have ha:(CL P f (xs.map (·.ev tm)) s fun d s'=>ek P K r (s::aY) (tm.put dst d) s')→eO P K ((.call dst none f xs,b)::r) aY tm s:=
   fun⟨d,s',h1,h2⟩=>C4 ⟨d,s',h1,iY h2⟩
  cases g with
  | none=>exact ha h
  | some p=>
   obtain⟨t,w⟩:=p
   exact Bg (tj h ha fun h=>iY h)
 | (.nil ..,_)::_,aY,tm,s,h=>h.elim
 | (.fM ..,_)::_,aY,tm,s,h=>h.elim
section
variable {P:Program} {B:fc} {nt:Nat}
def ik (P:Program) (B:fc) (nt:Nat):AC→(Exit→Tm→St→Prop)→Tm→St→Prop
 | .skip,Q,tm,s=>Q .normal tm s
 | .run is,Q,tm,s=>gH P is (Q .normal) tm s
 | .par is iD,Q,tm,s=>match jr is iD with | some l=>ek P (Q .normal) l [] tm s | none=>False
 | .seq a b,Q,tm,s=>ik P B nt a (mf (ik P B nt b Q) Q) tm s
 | .cond x a b,Q,tm,s=>oS (x.ev tm) (ik P B nt a Q tm s) (ik P B nt b Q tm s)
 | .block id a,Q,tm,s=>ik P B nt a (kO id Q) tm s
 | .loop a,Q,tm,s=>bp P B nt a Q tm s
 | .exit id,Q,tm,s=>Q (.exit id) tm s
 | .scope a,Q,tm,s=>CH P B nt a a Q tm s
 | .label _,Q,tm,s=>Q .normal tm s
 | .goto l,Q,tm,s=>Q (.goto l) tm s
 | .ret,Q,tm,s=>Q .ret tm s
theorem gq : ∀ {ac:AC} {Q:Exit→Tm→St→Prop} {tm:Tm} {s:St},ik P B nt ac Q tm s→Sem P B nt ac Q tm s:=by
 intro ac
 induction ac with
 | skip=>exact fun h=>Sem.skip h
 | run is=>exact fun h=>Sem.run (kf h)
 | par is iD=>
  intro Q tm s h
  simp only [ik]at h
  split at h
  ·exact Sem.RY ‹_› (iY h)
  ·exact h.elim
 | seq a b MP MQ=>
  intro Q tm s h
  refine Sem.seq ((MP h).mono fun e tm s hq=> ?_)
  cases e with
  | normal=>exact MQ hq
  | _=>exact hq
 | cond x a b MP MQ=>
  intro Q tm s h
  refine Sem.PA ?_
  simp only [ik]at h
  unfold oS at h ⊢
  split at h
  ·exact⟨fun e=>MP (h.1 e),fun e=>MQ (h.2 e)⟩
  ·exact h.elim
 | block id a ih=>exact fun h=>Sem.block (ih h)
 | loop a ih=>exact fun h=>Sem.loop h
 | exit id=>exact fun h=>Sem.exit h
 | scope a ih=>exact fun h=>Sem.scope h
 | label l=>exact fun h=>Sem.label h
 | goto l=>exact fun h=>Sem.goto h
 | ret=>exact fun h=>Sem.ret h
section
variable (Q:Exit→Tm→St→Prop) (N:Tm→St→Prop) (tm:Tm) (s:St) (a b:AC) (is:List AI) (x:X)
theorem HJ:ik P B nt .skip Q tm s=Q .normal tm s:=nd rfl
theorem K5:ik P B nt (.run is) Q tm s=gH P is (Q .normal) tm s:=nd rfl
theorem K6 (iD:List (Nat×Nat)):ik P B nt (.par is iD) Q tm s=match jr is iD with | some l=>ek P (Q .normal) l [] tm s | none=>False:=nd rfl
theorem K7:ik P B nt (.seq a b) Q tm s=ik P B nt a (mf (ik P B nt b Q) Q) tm s:=nd rfl
theorem HK:ik P B nt (.cond x a b) Q tm s = @CB (x.ev tm) ⟨ik P B nt a Q tm s,ik P B nt b Q tm s⟩:=nd rfl
theorem Fu (id:Nat):ik P B nt (.block id a) Q tm s=ik P B nt a (kO id Q) tm s:=nd rfl
theorem HL:ik P B nt (.loop a) Q tm s=bp P B nt a Q tm s:=nd rfl
theorem Fv:ik P B nt (.scope a) Q tm s=CH P B nt a a Q tm s:=nd rfl
theorem HM (id:Nat):ik P B nt (.exit id) Q tm s=Q (.exit id) tm s:=nd rfl
theorem Fw (id:Nat):ik P B nt (.label id) Q tm s=Q .normal tm s:=nd rfl
theorem HN (id:Nat):ik P B nt (.goto id) Q tm s=Q (.goto id) tm s:=nd rfl
theorem K8:ik P B nt .ret Q tm s=Q .ret tm s:=nd rfl
theorem K9:mf N Q .normal tm s=N tm s:=nd rfl
theorem La:mf N Q .ret tm s=Q .ret tm s:=nd rfl
theorem Lb (id:Nat):mf N Q (.exit id) tm s=Q (.exit id) tm s:=nd rfl
theorem Lc (id:Nat):mf N Q (.goto id) tm s=Q (.goto id) tm s:=nd rfl
theorem HO (id:Nat):kO id Q .normal tm s=Q .normal tm s:=nd rfl
theorem HP (id:Nat):kO id Q .ret tm s=Q .ret tm s:=nd rfl
theorem HQ (id l:Nat):kO id Q (.goto l) tm s=Q (.goto l) tm s:=nd rfl
theorem HR (id i:Nat):kO id Q (.exit i) tm s=if i=id then Q .normal tm s else Q (.exit i) tm s:=nd rfl
end
theorem bp.yY {a:AC} {Q:Exit→Tm→St→Prop} {tm:Tm} {s:St} (h:ik P B nt a (mf (bp P B nt a Q) Q) tm s):bp P B nt a Q tm s:=bp.once (gq h)
def p7 (tm:Tm) (n m:Nat):Tm→Prop
 | []=>True
 | (k,d)::r=>Wk ((tm.get k).fg n m) d∧p7 tm n m r
theorem p7.get {tm:Tm} {n m:Nat} : ∀ {bg:Tm},p7 tm n m bg→∀ t,Wk ((tm.get t).fg n m) (bg.get t)
 | [],_,t=>Wk.junk _
 | (k,d)::r,h,t=>by
  simp only [Tm.get]
  split
  ·rename_i hk;subst hk;exact h.1
  ·exact p7.get h.2 t
theorem Holds.re {Q:Exit→Tm→St→Prop} {tm bg:Tm} {s:St} {jk:List (List D)} {act:Act} {w:World} (n m:Nat) (hn:B.s.au.length≤n) (hm:B.s.av.length≤m) (ht:p7 tm n m bg) (ho:fH (s.cut n m).au jk)
 (h:Holds B nt tm s act w):Holds B nt bg ⟨jk,(s.cut n m).av⟩ act w:=by
 obtain⟨M,e,r,hr,h1,h2⟩:=h
 obtain⟨r',le⟩:=(r.cut n m).zP ho
 have e':=e.cut hn hm
 refine⟨M,e'.trans ⟨le,fun _ _ _ _=>rfl,fun o h1 h2=> ?_,fun t b c z hl e=> .inl ⟨hl,c,z,e⟩,fun _ _ h=>(h rfl).elim,Nat.le_refl _,rfl,rfl,rfl⟩,r',fun k=>((ht.get k) _ _ _ ((hr k).fg n m)).mono le,h1,h2⟩
 rw [← ho.len]at h2
 exact absurd h2 (Nat.not_lt.2 h1)
theorem bp.re {a:AC} {Q:Exit→Tm→St→Prop} {tm:Tm} {s:St} (bg:Tm) (jk:List (List D)) (n m:Nat) (hn:B.s.au.length≤n) (hm:B.s.av.length≤m) (ht:p7 tm n m bg) (ho:fH (s.cut n m).au jk)
 (h:bp P B nt a Q bg ⟨jk,(s.cut n m).av⟩):bp P B nt a Q tm s:=
 fun c hc act w hh=>h c hc act w (hh.re (Q:=Q) n m hn hm ht ho)
theorem bp.ind {ι:Type} {a:AC} {Q:Exit→Tm→St→Prop} (I:ι→Prop) (μ:ι→Nat) (TM:ι→Tm) (ST:ι→St)
 (step : ∀ i,I i→(∀ j,I j→μ j<μ i→bp P B nt a Q (TM j) (ST j))→ik P B nt a (mf (bp P B nt a Q) Q) (TM i) (ST i)) : ∀ i,I i→bp P B nt a Q (TM i) (ST i):=by
 have key : ∀ n i,μ i<n→I i→bp P B nt a Q (TM i) (ST i):=by
  intro n
  induction n with
  | zero=>intro i h;exact absurd h (Nat.not_lt_zero _)
  | succ n ih=>exact fun i h hi=>bp.yY (step i hi fun j hj hD=>ih j (by omega) hj)
 exact fun i hi=>key (μ i+1) i (Nat.lt_succ_self _) hi
theorem drop_cons {α:Type} {l rest:List α} {k:Nat} {x:α} (h:l.drop k=x::rest):l[k]? = some x∧l.drop (k+1)=rest∧decide ((k:Int)<(l.length:Int))=true∧k<l.length:=by
 have h1:l[k]? = some x:=by
  have:(l.drop k)[0]? = some x:=by rw [h];rfl
  simpa using this
 have h2:=(List.getElem?_eq_some_iff.1 h1).1
 refine⟨h1, ?_,by simpa using h2,h2⟩
 have:l.drop (k+1)=(l.drop k).drop 1:=by rw [List.drop_drop]
 rw [this,h];rfl
theorem drop_nil {α:Type} {l:List α} {k:Nat} (h:l.drop k = []):decide ((k:Int)<(l.length:Int))=false:=by
 have:=List.drop_eq_nil_iff.1 h
 simp;omega
theorem bp.qB {a:AC} {Q:Exit→Tm→St→Prop} {tm:Tm} {s:St} (t z':Nat) {z:Nat} (hw:tm.get t = .slice .full z [])
 (h:bp P B nt a Q (tm.set t (.slice (.tok s.av.length) z' [])) {s with av:=s.av++ [some 0]}):bp P B nt a Q tm s:=by
 intro c hc act w ⟨M,e,r,ht,h1,h2⟩
 obtain⟨r',le⟩:=r.blank
 refine h c hc act w ⟨_,xR e le,r',fun k=> ?_,h1,h2⟩
 rw [Tm.wX]
 split
 ·rename_i hk;subst hk;have:=ht k;rw [hw]at this;exact this.own
 ·exact(ht k).mono le
theorem bp.HS {a:AC} {Q:Exit→Tm→St→Prop} {tm:Tm} {s:St} (o i z':Nat) {z:Nat} {cs:List D} (hc:s.au[o]? = some cs) (hi:cs[i]? = some (.slice .full z []))
 (h:bp P B nt a Q tm ⟨s.au.set o (cs.set i (.slice (.tok s.av.length) z' [])),s.av++ [some 0]⟩):bp P B nt a Q tm s:=by
 intro c Mp act w hh
 obtain⟨M,e,r,ht,h1,h2⟩:=hh
 obtain⟨r',le⟩:=r.blank
 have Q9:Le M s (M.c6 s.av.length none) ⟨s.au.set o (cs.set i (.slice (.tok s.av.length) z' [])),s.av++ [some 0]⟩:=⟨le.G,by simp,le.loc,le.t,le.tk⟩
 have MR:Le (M.c6 s.av.length none) {s with av:=s.av++ [some 0]} (M.c6 s.av.length none) ⟨s.au.set o (cs.set i (.slice (.tok s.av.length) z' [])),s.av++ [some 0]⟩:=
  ⟨fun _ _ _ h=>h,by simp,fun _ _=>rfl,Nat.le_refl _,fun t n' _ e=>⟨n',e,Nat.le_refl _,fun _=>rfl⟩⟩
 have r2:Rel (M.c6 s.av.length none) ⟨s.au.set o (cs.set i (.slice (.tok s.av.length) z' [])),s.av++ [some 0]⟩ w:=by
  refine⟨r'.comm,fun o' ds e=> ?_,fun o ho=>r'.hZ o (by simpa using ho),fun o o' ho jI=>r'.inj o o' (by simpa using ho) (by simpa using jI),r'.tok,
   fun t b c z o hv e ho=>r'.dI t b c z o hv e (by simpa using ho),r'.eA⟩
  simp only [List.getElem?_set]at e
  split at e
  ·rename_i ho
   subst ho
   split at e
   ·cases e
    obtain⟨vs,T,g1,g2,g3,g4⟩:=r.obj o cs hc
    refine⟨vs,T,g1,by simpa using g2,g3,fun j d v e1 e2=> ?_⟩
    rw [List.getElem?_set]at e1
    split at e1
    ·rename_i hj
     subst hj
     split at e1
     ·cases e1
      exact((g4 i _ v hi e2).own (z':=z')).mono MR
     ·cases e1
    ·exact(g4 j d v e1 e2).mono Q9
   ·cases e
  ·obtain⟨vs,T,g1,g2,g3,g4⟩:=r'.obj o' ds e
   exact⟨vs,T,g1,g2,g3,fun i d v e1 e2=>(g4 i d v e1 e2).mono MR⟩
 have ee:Ext B.M B.s B.w (M.c6 s.av.length none) ⟨s.au.set o (cs.set i (.slice (.tok s.av.length) z' [])),s.av++ [some 0]⟩ w:=by
  refine(xR e le).trans ⟨MR,fun _ _ _ _=>rfl,fun o h1 h2=> ?_,fun t b c z hl e=> .inl ⟨hl,c,z,e⟩,fun _ _ h=>(h rfl).elim,Nat.le_refl _,rfl,rfl,rfl⟩
  simp at h2
  exact absurd h2 (Nat.not_lt.2 h1)
 exact h c Mp act w ⟨_,ee,r2,fun k=>(ht k).mono Q9,h1,h2⟩
theorem Sem.og {a b:AC} {Q:Exit→Tm→St→Prop} {tm:Tm} {s:St} (h:ik P B nt a (mf (Sem P B nt b Q) Q) tm s):Sem P B nt (.seq a b) Q tm s:=Sem.seq (gq h)
theorem Sem.re {a:AC} {Q:Exit→Tm→St→Prop} {tm:Tm} {s:St} (bg:Tm) (jk:List (List D)) (n m:Nat) (hn:B.s.au.length≤n) (hm:B.s.av.length≤m) (ht:p7 tm n m bg) (ho:fH (s.cut n m).au jk)
 (h:Sem P B nt a Q bg ⟨jk,(s.cut n m).av⟩):Sem P B nt a Q tm s:=
 fun c hc act w hh=>h c hc act w (hh.re (Q:=Q) n m hn hm ht ho)
def Has (P:Program) (f nt:Nat) (res:List (Nat×Option (Bool×Nat))) (body:AC):Prop:=∃ fn,P.funcs[f]? = some fn∧cF P fn=some ⟨nt,res,body⟩
theorem aI.go {f:FuncId} {res:List (Nat×Option (Bool×Nat))} {body:AC} {args:List D} {s:St} {d:D} {s':St} (h0:Has P f nt res body) (hl:Nat.ble args.length nt=true)
 (h : ∀ (B:fc) (Q:Exit→Tm→St→Prop),B.s=s→ni s.au.length s.av.length res d s'=Q→ik P B nt body Q (ky 0 args) s):aI P f args s d s':=by
 obtain⟨fn,hf,hc⟩:=h0
 exact aI.intro ⟨fn,hf,hc⟩ (Nat.le_of_ble_eq_true hl) fun B hB=>gq (h B _ hB rfl)
theorem aI.MS {f:FuncId} {pre post:List D} {rows nA:List (List D)} {z z' k k':Nat} (h:aI P f (pre++ .slice (.tok 0) z rows::post) ⟨[],[some k]⟩ (.slice (.tok 0) z' nA) ⟨[],[some k']⟩)
 (hp:D.bI 0 0 pre=true) (ha:D.bI 0 0 post=true) (hw:D.gG 0 0 rows=true) (Ug:D.gG 0 0 nA=true)
 {s:St} {t:Nat} (ht:s.av[t]? = some (some k)):aI P f (pre++ .slice (.tok t) z rows::post) s (.slice (.tok t) z' nA) ⟨s.au,s.av.set t (some k')⟩:=by
 refine dr.frame [] [t] h (by simp) (by simp) (by simp) (by simpa using (List.getElem?_eq_some_iff.1 ht).1) rfl (fun i o' ds e1 e2=>by simp at e1) rfl (fun i t' e1=> ?_)
  ?_ ?_ ?_
 ·cases i with
  | zero=>simp at e1;subst e1;simp [ht]
  | succ i=>simp at e1
 ·have h1:=e8 [] [t] _ hp
  have h2:=e8 [] [t] _ ha
  rw [ej]at h1 h2
  simp [ej,D.cJ,Tag.cJ,h1,h2,jJ _ _ _ hw]
 ·have h1:=gA (n':=0) (m':=1) (Nat.le_refl 0) (Nat.zero_le 1) _ hp
  have h2:=gA (n':=0) (m':=1) (Nat.le_refl 0) (Nat.zero_le 1) _ ha
  rw [zI]at h1 h2 ⊢
  simp only [List.length_nil,List.length_cons,List.all_append,h1,Bool.true_and,List.all_cons,h2,Bool.and_true,D.ok,Tag.ok,lN (Nat.zero_le 0) (Nat.zero_le 1) _ hw]
  rfl
 ·rintro _ _ ⟨rfl,rfl⟩
  refine⟨by simp [D.back,D.cJ,Tag.cJ,iG,jJ _ _ _ Ug], ?_⟩
  simp [St.back,ij]
theorem R1 (A C:Prop) : @CB (.bool true) ⟨A,C⟩=A:=by simp [CB,oS]
theorem R3 (A C:Prop) : @CB (.bool false) ⟨A,C⟩=C:=by simp [CB,oS]
theorem MT (b:Bool) (A C:Prop) : @CB (.bool (!b)) ⟨A,C⟩ = @CB (.bool b) ⟨C,A⟩:=by
 cases b <;> simp [CB,oS]
theorem zV {b:Bool} {A C:Prop} (h1:b=true→A) (h2:b=false→C) : @CB (.bool b) ⟨A,C⟩:=⟨h1,h2⟩
theorem MU {b:Bool} {A C:Prop} (h:b=true) (h1:b=true→A) : @CB (.bool b) ⟨A,C⟩:=zV h1 (fun h'=>by rw [h]at h';cases h')
theorem MV {b:Bool} {A C:Prop} (h:b=false) (h1:b=false→C) : @CB (.bool b) ⟨A,C⟩:=zV (fun h'=>by rw [h]at h';cases h') h1
theorem PD {n m:Nat} {res:List (Nat×Option (Bool×Nat))} {d:D} {s':St} {tm:Tm} {s:St} {Q:Exit→Tm→St→Prop} (hQ:ni n m res d s'=Q)
 (h : ∃ l,az res tm s=some l∧Wk ((aB l).fg n m) d∧fH (s.cut n m).au s'.au∧(s.cut n m).av=s'.av):Q .ret tm s:=hQ ▸ h
theorem PE {n m:Nat} {res:List (Nat×Option (Bool×Nat))} {d:D} {s':St} {tm:Tm} {s:St} {Q:Exit→Tm→St→Prop} (hQ:ni n m res d s'=Q)
 (h : ∃ l,az res tm s=some l∧Wk ((aB l).fg n m) d∧fH (s.cut n m).au s'.au∧(s.cut n m).av=s'.av):Q .normal tm s:=hQ ▸ h
end
attribute [go_sem] HJ K5 K6 K7 HK Fu HL Fv HM Fw HN K8 K9 La Lb Lc HO HP HQ HR
theorem Fx : ∀ (tm:Tm) (s:St) (x:X),aG (AO.mv x) tm s=some (X.ev tm x,s):=
 fun tm s x=>nd (aG.eq_1 tm s x)
theorem Fy : ∀ (tm:Tm) (s:St) (c a b:X),
 aG (AO.pick c a b) tm s =
  match X.ev tm c with
  | D.bool t=>some (if t=true then X.ev tm a else X.ev tm b,s)
  | x=>none:=
 fun tm s c a b=>nd (aG.eq_2 tm s c a b)
theorem Fz : ∀ (tm:Tm) (s:St) (zero:List D),
 aG (AO.alloc zero) tm s=some (D.ptr s.au.length 0,{au:=s.au++ [zero],av:=s.av}):=
 fun tm s zero=>nd (aG.eq_3 tm s zero)
theorem FA : ∀ (tm:Tm) (s:St) (x:X),
 aG (AO.box x) tm s =
  match (X.ev tm x).row with
  | some r=>some (D.ptr s.au.length 0,{au:=s.au++ [r],av:=s.av})
  | none=>none:=
 fun tm s x=>nd (aG.eq_4 tm s x)
theorem FB : ∀ (tm:Tm) (s:St) (zero:List D) (parts:List (Nat×Nat×X)),
 aG (AO.build zero parts) tm s =
  match ma zero (List.map (fun(p:Nat×Nat×X)=>(p.fst,p.snd.fst,X.ev tm p.snd.snd)) parts)with
  | some cs=>some (D.agg cs,s)
  | none=>none:=
 fun tm s zero parts=>nd (aG.eq_5 tm s zero parts)
theorem FC : ∀ (tm:Tm) (s:St) (zero:List D) (size n:Nat) (parts:List (Nat×X)),
 aG (AO.dc zero size n parts) tm s =
  match gd size (fC zero n) (List.map (fun(p:Nat×X)=>(p.fst,X.ev tm p.snd)) parts)with
  | some rows=>some (D.slice Tag.full size rows,s)
  | none=>none:=
 fun tm s zero size n parts=>nd (aG.eq_6 tm s zero size n parts)
theorem FD : ∀ (tm:Tm) (s:St) (zero:List D) (size n:Nat) (parts:List (Nat×X)),
 aG (AO.o4 zero size n parts) tm s =
  match gd size (fC zero n) (List.map (fun(p:Nat×X)=>(p.fst,X.ev tm p.snd)) parts)with
  | some rows=>
   some (D.slice (Tag.tok s.av.length) size rows,{au:=s.au,av:=s.av++ [some rows.length]})
  | none=>none:=
 fun tm s zero size n parts=>nd (aG.eq_7 tm s zero size n parts)
theorem FE : ∀ (tm:Tm) (s:St) (x:X),
 aG (AO.sK x) tm s =
  match X.ev tm x with
  | D.slice (Tag.tok t _) z rows=>
   if rows≠ []∧s.av[t]? = some (some rows.length)then
    some (D.slice Tag.shared z rows,{au:=s.au,av:=s.av.set t none})
   else none
  | x=>none:=
 fun tm s x=>nd (aG.eq_8 tm s x)
theorem FF : ∀ (tm:Tm) (s:St) (x:X) (agg:Bool) (size:Nat),
 aG (AO.load x agg size) tm s =
  match X.ev tm x with
  | D.ptr o off=>
   match s.au[o]? with
   | some cs=>
    match part cs off agg size with
    | some d=>some (d,s)
    | none=>none
   | none=>none
  | D.cL row off=>
   match part row off agg size with
   | some d=>some (d,s)
   | none=>none
  | x=>none:=
 fun tm s x agg size=>nd (aG.eq_9 tm s x agg size)
theorem C6 : ∀ (tm:Tm) (s:St) (p x:X) (size:Nat),
 aG (AO.store p x size) tm s =
  match X.ev tm p,(X.ev tm x).row with
  | D.ptr o off,some r=>
   match s.au[o]? with
   | some cs=>
    if r.length=size∧off+size≤cs.length then
     some (D.tuple [],{au:=s.au.set o (fY cs off r),av:=s.av})
    else none
   | none=>none
  | x,dB=>none:=
 fun tm s p x size=>nd (aG.eq_10 tm s p x size)
theorem C7 : ∀ (tm:Tm) (s:St) (x:X),
 aG (AO.fJ x) tm s =
  match X.ev tm x with
  | D.ptr o off=>some (D.ptr o off,s)
  | D.cL row off=>some (D.cL row off,s)
  | x=>none:=
 fun tm s x=>nd (aG.eq_11 tm s x)
theorem C8 : ∀ (tm:Tm) (s:St) (op:BinOp) (x y:X),
 aG (AO.bin op x y) tm s =
  match qp op (X.ev tm x) (X.ev tm y)with
  | some d=>some (d,s)
  | none=>none:=
 fun tm s op x y=>nd (aG.eq_12 tm s op x y)
theorem C9 : ∀ (tm:Tm) (s:St) (neg:Bool) (x y:X),
 aG (AO.xE neg x y) tm s =
  match X.ev tm x,X.ev tm y with
  | D.bool a,D.bool b=>some (D.bool (if neg=true then !a==b else a==b),s)
  | x,dB=>none:=
 fun tm s neg x y=>nd (aG.eq_13 tm s neg x y)
theorem Da : ∀ (tm:Tm) (s:St) (neg:Bool) (ks:List Nat) (x y:X),
 aG (AO.eqs neg ks x y) tm s =
  match X.ev tm x,X.ev tm y with
  | D.agg a,D.agg b=>
   match gX ks a b with
   | some e=>some (D.bool (if neg=true then !e else e),s)
   | none=>none
  | x,dB=>none:=
 fun tm s neg ks x y=>nd (aG.eq_14 tm s neg ks x y)
theorem Db : ∀ (tm:Tm) (s:St) (neg:Bool) (x y:X),
 aG (AO.zi neg x y) tm s =
  match X.ev tm x,X.ev tm y with
  | D.dR,D.dR=>some (D.bool !neg,s)
  | D.ptr o off,D.dR=>some (D.bool neg,s)
  | D.cL row off,D.dR=>some (D.bool neg,s)
  | x,dB=>none:=
 fun tm s neg x y=>nd (aG.eq_15 tm s neg x y)
theorem Dc : ∀ (tm:Tm) (s:St) (op:UnOp) (x:X),
 aG (AO.un op x) tm s =
  match zn op (X.ev tm x)with
  | some d=>some (d,s)
  | none=>none:=
 fun tm s op x=>nd (aG.eq_16 tm s op x)
theorem Dd : ∀ (tm:Tm) (s:St) (k:IntKind) (x:X),
 aG (AO.conv k x) tm s =
  match X.ev tm x with
  | D.int k_1 n=>some (D.int k (k.wrap n),s)
  | x=>none:=
 fun tm s k x=>nd (aG.eq_17 tm s k x)
theorem De : ∀ (tm:Tm) (s:St) (x:X),
 aG (AO.vy x) tm s =
  match X.ev tm x with
  | D.slice g size rows=>
   match ke rows with
   | some b=>some (D.str b,s)
   | none=>none
  | x=>none:=
 fun tm s x=>nd (aG.eq_18 tm s x)
theorem Df : ∀ (tm:Tm) (s:St) (x:X),
 aG (AO.qP x) tm s =
  match X.ev tm x with
  | D.str l=>some (D.slice Tag.shared 1 (List.map (fun(c:UInt8)=> [D.int IntKind.u8 ↑c.toNat]) l),s)
  | x=>none:=
 fun tm s x=>nd (aG.eq_19 tm s x)
theorem Dg : ∀ (tm:Tm) (s:St) (size:Nat) (x:X) (lo hi:Option X),
 aG (AO.zj size x lo hi) tm s =
  match X.ev tm x with
  | D.slice g z rows=>
   match sP (Option.map (fun(x:X)=>X.ev tm x) lo),
    sQ (Option.map (fun(x:X)=>X.ev tm x) hi) rows.length with
   | some l,some h=>
    if(rows = []∨z=size)∧0≤l∧l≤h∧h≤ ↑rows.length then
     some
      (D.slice (if l=0 then g.cut (decide (h = ↑rows.length))else Tag.shared) z
       (List.drop l.toNat (List.take h.toNat rows)),
       s)
    else none
   | x,dB=>none
  | x=>none:=
 fun tm s size x lo hi=>nd (aG.eq_20 tm s size x lo hi)
theorem Dh : ∀ (tm:Tm) (s:St) (x:X) (lo hi:Option X),
 aG (AO.zk x lo hi) tm s =
  match X.ev tm x with
  | D.str t=>
   match sP (Option.map (fun(x:X)=>X.ev tm x) lo),sQ (Option.map (fun(x:X)=>X.ev tm x) hi) t.length with
   | some l,some h=>
    if 0≤l∧l≤h∧h≤ ↑t.length then some (D.str (List.drop l.toNat (List.take h.toNat t)),s)else none
   | x,dB=>none
  | x=>none:=
 fun tm s x lo hi=>nd (aG.eq_21 tm s x lo hi)
theorem Di : ∀ (tm:Tm) (s:St) (x:X) (off:Nat),
 aG (AO.aC x off) tm s =
  match X.ev tm x with
  | D.ptr o k=>some (D.ptr o (k+off),s)
  | D.cL row k=>some (D.cL row (k+off),s)
  | x=>none:=
 fun tm s x off=>nd (aG.eq_22 tm s x off)
theorem Dj : ∀ (tm:Tm) (s:St) (x:X) (off:Nat) (agg:Bool) (size:Nat),
 aG (AO.se x off agg size) tm s =
  match X.ev tm x with
  | D.agg cs=>
   match part cs off agg size with
   | some d=>some (d,s)
   | none=>none
  | x=>none:=
 fun tm s x off agg size=>nd (aG.eq_23 tm s x off agg size)
theorem Dk : ∀ (tm:Tm) (s:St) (x i:X) (size:Nat),
 aG (AO.bV x i size) tm s =
  match X.ev tm x,X.ev tm i with
  | D.slice g z rows,D.int k n=>
   if 0≤n∧z=size then
    match rows[n.toNat]? with
    | some row=>some (D.cL row 0,s)
    | none=>none
   else none
  | x,dB=>none:=
 fun tm s x i size=>nd (aG.eq_24 tm s x i size)
theorem Dl : ∀ (tm:Tm) (s:St) (x i:X),
 aG (AO.sL x i) tm s =
  match X.ev tm x,X.ev tm i with
  | D.str t,D.int k n=>
   if 0≤n then
    match t[n.toNat]? with
    | some c=>some (D.int IntKind.u8 ↑c.toNat,s)
    | none=>none
   else none
  | x,dB=>none:=
 fun tm s x i=>nd (aG.eq_25 tm s x i)
theorem Dm : ∀ (tm:Tm) (s:St) (x:X) (i:Nat),
 aG (AO.ext x i) tm s =
  match X.ev tm x with
  | D.tuple ds=>
   match ds[i]? with
   | some d=>some (d,s)
   | none=>none
  | x=>none:=
 fun tm s x i=>nd (aG.eq_26 tm s x i)
theorem Dn : ∀ (tm:Tm) (s:St) (x:X),
 aG (AO.o5 x) tm s =
  match X.ev tm x with
  | D.str t=>some (D.int IntKind.i64 ↑t.length,s)
  | x=>none:=
 fun tm s x=>nd (aG.eq_27 tm s x)
theorem Dp : ∀ (tm:Tm) (s:St) (x:X),
 aG (AO.len x) tm s =
  match X.ev tm x with
  | D.slice g size rows=>some (D.int IntKind.i64 ↑rows.length,s)
  | x=>none:=
 fun tm s x=>nd (aG.eq_28 tm s x)
theorem Dq : ∀ (tm:Tm) (s:St) (size bytes:Nat) (x y:X),
 aG (AO.app size bytes x y) tm s=kI size bytes (X.ev tm x) (X.ev tm y) s:=
 fun tm s size bytes x y=>nd (aG.eq_29 tm s size bytes x y)
theorem Dr : ∀ (tm:Tm) (s:St) (isMax:Bool) (x y:X),
 aG (AO.mm isMax x y) tm s =
  match X.ev tm x,X.ev tm y with
  | D.int k a,D.int k' b=>
   if k=k' then some (D.int k (if isMax=true then if b > a then b else a else if b<a then b else a),s)
   else none
  | x,dB=>none:=
 fun tm s isMax x y=>nd (aG.eq_30 tm s isMax x y)
theorem Ds (tm:Tm) (s:St) (r:List D) (T:TypeId):aG (AO.nL (.dR::r) T) tm s=some (.ptr s.au.length 0,{au:=s.au++ [.dT T s.au.length::r],av:=s.av}):=nd rfl
theorem Dt (tm:Tm) (s:St) (x:X) (T:TypeId):aG (AO.sM x T) tm s =
 match (x.ev tm).row with
 | some (.dR::r)=>some (.ptr s.au.length 0,{au:=s.au++ [.dT T s.au.length::r],av:=s.av})
 | _=>none:=nd rfl
theorem Du (tm:Tm) (s:St) (x y:X):aG (AO.apps x y) tm s =
 match y.ev tm with
 | .str l=>sR (x.ev tm) (.slice .shared 1 (l.map fun c=> [.int .u8 c.toNat])) s
 | _=>none:=nd rfl
theorem Dv (tm:Tm) (s:St) (x y:X):aG (AO.sN x y) tm s=sR (x.ev tm) (y.ev tm) s:=nd rfl
theorem Dw (tm:Tm) (s:St) (f:Nat) (xs:List X):aG (AO.oL f xs) tm s=some (.eW f (xs.map fun x=>x.ev tm),s):=nd rfl
theorem Dx (tm:Tm) (s:St):aG AO.oM tm s=some (.eU s.au.length,{au:=s.au++ [[]],av:=s.av}):=nd rfl
theorem Dy (tm:Tm) (s:St) (m k v:X):aG (AO.rq m k v) tm s =
 match m.ev tm,k.ev tm,v.ev tm with
 | .eU o, .str key, .slice g z rows=>
  match s.au[o]? with
  | some cs=>match qq key (.slice g z rows) cs with | some fT=>some (.tuple [],{au:=s.au.set o fT,av:=s.av}) | none=>none
  | none=>none
 | _,_,_=>none:=nd rfl
theorem Dz (tm:Tm) (s:St) (m k:X) (zero:D):aG (AO.pL m k zero) tm s =
 match m.ev tm,k.ev tm with
 | .eU o, .str key=>
  match s.au[o]? with
  | some cs=>match rr key zero cs with | some d=>some (d,s) | none=>none
  | none=>none
 | _,_=>none:=nd rfl
theorem zW (f:Nat) (xs:List X):(AO.oL f xs).core=false:=nd rfl
theorem zX:AO.oM.core=true:=nd rfl
theorem zY (m k v:X):(AO.rq m k v).core=true:=nd rfl
theorem zZ (m k:X) (zero:D):(AO.pL m k zero).core=false:=nd rfl
theorem FG (n m f:Nat) (cs:List D):D.fg n m (.eW f cs) = .eW f (D.fh n m cs):=nd (by simp only [D.fg])
theorem FH (n m:Nat) (o:Nat):D.fg n m (.eU o)=if o<n then .eU o else .junk:=nd (by simp only [D.fg])
theorem DA (d:Option Nat) (g:Option (Nat×Bool)) (t:Nat) (xs:List X):(AI.fM d g t xs).dst=d:=nd rfl
theorem z1 (x y:X):(AO.sN x y).core=true:=nd rfl
theorem z6 (z:List D) (T:TypeId):(AO.nL z T).core=true:=nd rfl
theorem z7 (x:X) (T:TypeId):(AO.sM x T).core=true:=nd rfl
theorem z8 (x y:X):(AO.apps x y).core=true:=nd rfl
theorem FI (n m:Nat) (v:Value):D.fg n m (.val v) = .val v:=nd (by simp only [D.fg])
theorem FJ (n m:Nat) (T:TypeId) (o:Nat):D.fg n m (.dT T o)=if o<n then .dT T o else .junk:=nd (by simp only [D.fg])
theorem HT : ∀ (tm:Tm) (t:Nat),X.ev tm (X.s t)=tm.get t:=
 fun tm t=>nd (X.ev.eq_1 tm t)
theorem HU : ∀ (tm:Tm) (d:D),X.ev tm (X.k d)=d:=
 fun tm d=>nd (X.ev.eq_2 tm d)
theorem DB : ∀ (tm:Tm) (d:D) (t:Nat),tm.put (some t) d=tm.set t d:=
 fun tm d t=>nd (Tm.put.eq_1 tm d t)
theorem DC : ∀ (tm:Tm) (d:D),tm.put none d=tm:=
 fun tm d=>nd (Tm.put.eq_2 tm d)
theorem DD : ∀ (x:Nat) (dB:D),Tm.set [] x dB = [(x,dB)]:=
 fun x dB=>nd (Tm.set.eq_1 x dB)
theorem DE : ∀ (x:Nat) (dB:D) (k:Nat) (e:D) (r:List (Nat×D)),
 Tm.set ((k,e)::r) x dB=if k=x then(k,dB)::r else(k,e)::Tm.set r x dB:=
 fun x dB k e r=>nd (Tm.set.eq_2 x dB k e r)
theorem DF : ∀ (x:Nat),Tm.get [] x=D.junk:=
 fun x=>nd (Tm.get.eq_1 x)
theorem DG : ∀ (x k:Nat) (d:D) (r:List (Nat×D)),Tm.get ((k,d)::r) x=if k=x then d else Tm.get r x:=
 fun x k d r=>nd (Tm.get.eq_2 x k d r)
theorem FK : ∀ (x:Nat),ky x [] = []:=
 fun x=>nd (ky.eq_1 x)
theorem FL : ∀ (x:Nat) (d:D) (r:List D),ky x (d::r)=(x,d)::ky (x+1) r:=
 fun x d r=>nd (ky.eq_2 x d r)
theorem DH : ∀ (d:Option Nat) (g:Option (Nat×Bool)) (o:AO),(AI.op d g o).dst=d:=
 fun d g o=>nd (AI.dst.eq_1 d g o)
theorem DI : ∀ (d:Option Nat) (g:Option (Nat×Bool)) (f:Nat) (xs:List X),(AI.call d g f xs).dst=d:=
 fun d g f xs=>nd (AI.dst.eq_2 d g f xs)
theorem DJ : ∀ (d:Option Nat) (g:Option (Nat×Bool)) (neg:Bool) (dB:X),(AI.nil d g neg dB).dst=d:=
 fun d g neg dB=>nd (AI.dst.eq_3 d g neg dB)
theorem HV : ∀ (cs:List D) (off size:Nat),
 part cs off true size=if off+size≤cs.length then some (D.agg (List.take size (List.drop off cs)))else none:=
 fun cs off size=>nd (part.eq_1 cs off size)
theorem HW : ∀ (cs:List D) (off size:Nat),part cs off false size=cs[off]? :=
 fun cs off size=>nd (part.eq_2 cs off size)
theorem DK : ∀ (cs:List D) (off:Nat) (r:List D),
 fY cs off r=List.take off cs++r++List.drop (off+r.length) cs:=
 fun cs off r=>nd (fY.eq_1 cs off r)
theorem FM : ∀ (cells:List D),ma cells [] = some cells:=
 fun cells=>nd (ma.eq_1 cells)
theorem FN : ∀ (cells:List D) (off size:Nat) (d:D) (rest:List (Nat×Nat×D)),
 ma cells ((off,size,d)::rest) =
  match d.row with
  | none=>none
  | some r=>if r.length=size∧off+size≤cells.length then ma (fY cells off r) rest else none:=
 fun cells off size d rest=>nd (ma.eq_2 cells off size d rest)
theorem Aa : ∀ (size:Nat) (rows:List (List D)),gd size rows [] = some rows:=
 fun size rows=>nd (gd.eq_1 size rows)
theorem Ab : ∀ (size:Nat) (rows:List (List D)) (i:Nat) (d:D) (rest:List (Nat×D)),
 gd size rows ((i,d)::rest) =
  match d.row with
  | none=>none
  | some r=>if r.length=size∧i<rows.length then gd size (rows.set i r) rest else none:=
 fun size rows i d rest=>nd (gd.eq_2 size rows i d rest)
theorem Ac : ∀ (zero:List D),fC zero 0 = []:=
 fun zero=>nd (fC.eq_1 zero)
theorem Ad : ∀ (zero:List D) (i:Nat),fC zero i.succ=zero::fC zero i:=
 fun zero i=>nd (fC.eq_2 zero i)
theorem HX : ∀ (op:BinOp) (k:IntKind) (a:Int) (k':IntKind) (b:Int),
 qp op (D.int k a) (D.int k' b)=if k=k' then eh op k a b else none:=
 fun op k a k' b=>nd (qp.eq_1 op k a k' b)
theorem HY : ∀ (op:BinOp) (a b:List UInt8),qp op (D.str a) (D.str b)=jV op a b:=
 fun op a b=>nd (qp.eq_2 op a b)
theorem DL : ∀ (k:IntKind) (a b:Int),eh BinOp.add k a b=some (D.int k (k.wrap (a+b))):=
 fun k a b=>nd (eh.eq_1 k a b)
theorem DM : ∀ (k:IntKind) (a b:Int),eh BinOp.sub k a b=some (D.int k (k.wrap (a - b))):=
 fun k a b=>nd (eh.eq_2 k a b)
theorem DN : ∀ (k:IntKind) (a b:Int),eh BinOp.mul k a b=some (D.int k (k.wrap (a*b))):=
 fun k a b=>nd (eh.eq_3 k a b)
theorem DO : ∀ (k:IntKind) (a b:Int),
 eh BinOp.quo k a b=if b=0 then none else some (D.int k (k.wrap (a.tdiv b))):=
 fun k a b=>nd (eh.eq_4 k a b)
theorem DP : ∀ (k:IntKind) (a b:Int),eh BinOp.rem k a b=if b=0 then none else some (D.int k (a.tmod b)):=
 fun k a b=>nd (eh.eq_5 k a b)
theorem DQ : ∀ (k:IntKind) (a b:Int),eh BinOp.eql k a b=some (D.bool (a==b)):=
 fun k a b=>nd (eh.eq_6 k a b)
theorem DR : ∀ (k:IntKind) (a b:Int),eh BinOp.neq k a b=some (D.bool (a != b)):=
 fun k a b=>nd (eh.eq_7 k a b)
theorem DS : ∀ (k:IntKind) (a b:Int),eh BinOp.lss k a b=some (D.bool (decide (a<b))):=
 fun k a b=>nd (eh.eq_8 k a b)
theorem DT : ∀ (k:IntKind) (a b:Int),eh BinOp.leq k a b=some (D.bool (decide (a≤b))):=
 fun k a b=>nd (eh.eq_9 k a b)
theorem Bh : ∀ (k:IntKind) (a b:Int),eh BinOp.gtr k a b=some (D.bool (decide (a > b))):=
 fun k a b=>nd (eh.eq_10 k a b)
theorem Bi : ∀ (k:IntKind) (a b:Int),eh BinOp.geq k a b=some (D.bool (decide (a≥b))):=
 fun k a b=>nd (eh.eq_11 k a b)
theorem DU : ∀ (a b:List UInt8),
 jV BinOp.add a b=if a.length+b.length≤bH then some (D.str (a++b))else none:=
 fun a b=>nd (jV.eq_1 a b)
theorem DV : ∀ (a b:List UInt8),jV BinOp.eql a b=some (D.bool (a==b)):=
 fun a b=>nd (jV.eq_2 a b)
theorem DW : ∀ (a b:List UInt8),jV BinOp.neq a b=some (D.bool !a==b):=
 fun a b=>nd (jV.eq_3 a b)
theorem DX : ∀ (a b:List UInt8),jV BinOp.lss a b=some (D.bool (bytesLess a b)):=
 fun a b=>nd (jV.eq_4 a b)
theorem Ld : ∀ (k:IntKind) (n:Int),zn UnOp.neg (D.int k n)=some (D.int k (k.wrap (0 - n))):=
 fun k n=>nd (zn.eq_1 k n)
theorem Lf : ∀ (b:Bool),zn UnOp.not (D.bool b)=some (D.bool !b):=
 fun b=>nd (zn.eq_2 b)
theorem DY : ∀ (k:IntKind) (a:Int) (k':IntKind) (b:Int),
 jn 0 (D.int k a) (D.int k' b)=if k=k' then some (a==b)else none:=
 fun k a k' b=>nd (jn.eq_1 k a k' b)
theorem DZ : ∀ (a b:Bool),jn 1 (D.bool a) (D.bool b)=some (a==b):=
 fun a b=>nd (jn.eq_2 a b)
theorem D0 : ∀ (a b:List UInt8),jn 2 (D.str a) (D.str b)=some (a==b):=
 fun a b=>nd (jn.eq_3 a b)
theorem Bj:gX [] [] [] = some true:=
 nd (gX.eq_1)
theorem Bk : ∀ (k:Nat) (ks:List Nat) (J9:D) (xs:List D) (y:D) (ys:List D),
 gX (k::ks) (J9::xs) (y::ys) =
  match jn k J9 y with
  | none=>none
  | some true=>gX ks xs ys
  | some false=>some false:=
 fun k ks J9 xs y ys=>nd (gX.eq_2 k ks J9 xs y ys)
theorem Lg:sP none=some 0:=
 nd (sP.eq_1)
theorem Lh : ∀ (k:IntKind) (n:Int),sP (some (D.int k n))=some n:=
 fun k n=>nd (sP.eq_2 k n)
theorem Li : ∀ (len:Nat),sQ none len=some ↑len:=
 fun len=>nd (sQ.eq_1 len)
theorem Lj : ∀ (len:Nat) (k:IntKind) (n:Int),sQ (some (D.int k n)) len=some n:=
 fun len k n=>nd (sQ.eq_2 len k n)
theorem Bl : ∀ (zero:List D),(AO.alloc zero).core=true:=
 fun zero=>nd (AO.core.eq_1 zero)
theorem Bm : ∀ (dB:X),(AO.box dB).core=true:=
 fun dB=>nd (AO.core.eq_2 dB)
theorem Bn : ∀ (zero:List D) (size n:Nat) (parts:List (Nat×X)),(AO.o4 zero size n parts).core=true:=
 fun zero size n parts=>nd (AO.core.eq_3 zero size n parts)
theorem Bo : ∀ (dB:X),(AO.sK dB).core=true:=
 fun dB=>nd (AO.core.eq_4 dB)
theorem Bp : ∀ (p dB:X) (size:Nat),(AO.store p dB size).core=true:=
 fun p dB size=>nd (AO.core.eq_5 p dB size)
theorem Bq : ∀ (size bytes:Nat) (dB y:X),(AO.app size bytes dB y).core=true:=
 fun size bytes dB y=>nd (AO.core.eq_6 size bytes dB y)
theorem Br : ∀ (val:Nat) (zero:List D),(AI.op (some val) none (AO.alloc zero)).kind=AK.alloc:=
 fun val zero=>nd (AI.kind.eq_1 val zero)
theorem Bs : ∀ (zero:List D),(AO.alloc zero).kind=AK.core:=
 fun zero=>nd (AO.kind.eq_1 zero)
theorem Bt : ∀ (dB:X),(AO.box dB).kind=AK.core:=
 fun dB=>nd (AO.kind.eq_2 dB)
theorem Bu : ∀ (zero:List D) (size n:Nat) (parts:List (Nat×X)),(AO.o4 zero size n parts).kind=AK.core:=
 fun zero size n parts=>nd (AO.kind.eq_3 zero size n parts)
theorem Bv : ∀ (dB:X),(AO.sK dB).kind=AK.core:=
 fun dB=>nd (AO.kind.eq_4 dB)
theorem Bw : ∀ (p dB:X) (size:Nat),(AO.store p dB size).kind=AK.core:=
 fun p dB size=>nd (AO.kind.eq_5 p dB size)
theorem Bx : ∀ (size bytes:Nat) (dB y:X),(AO.app size bytes dB y).kind=AK.core:=
 fun size bytes dB y=>nd (AO.kind.eq_6 size bytes dB y)
theorem By : ∀ (dB:X) (agg:Bool) (size:Nat),(AO.load dB agg size).kind=AK.load:=
 fun _ _ _=>nd rfl
theorem D1:eK AK.core=true:=
 nd (eK.eq_1)
theorem D2:eK AK.alloc=true:=
 nd (eK.eq_2)
theorem D3 : ∀ (i:AI) (tm:Tm) (d:D),j7 i tm d [] = True:=
 fun i tm d=>nd (j7.eq_1 i tm d)
theorem D4 : ∀ (i:AI) (tm:Tm) (d:D) (s:St) (r:List St),
 j7 i tm d (s::r)=(fZ i tm s=some d∧j7 i tm d r):=
 fun i tm d s r=>nd (j7.eq_2 i tm d s r)
theorem Lk : ∀ (tm:Tm) (s:St) (dst:Option Nat) (o:AO),
 fZ (AI.op dst none o) tm s=Option.map (fun(x:D×St)=>x.fst) (aG o tm s):=
 fun tm s dst o=>nd (fZ.eq_1 tm s dst o)
theorem Ll : ∀ (tm:Tm) (s:St) (dst:Option Nat) (t:Nat) (want:Bool) (o:AO),
 fZ (AI.op dst (some (t,want)) o) tm s =
  match tm.get t with
  | D.bool b=>if b=want then Option.map (fun(x:D×St)=>x.fst) (aG o tm s)else some (D.tuple [])
  | D.tuple vs=>some (D.tuple [])
  | x=>none:=
 fun tm s dst t want o=>nd (fZ.eq_2 tm s dst t want o)
theorem Bz : ∀ (is:List AI),jr is [] = some []:=
 fun is=>nd (jr.eq_1 is)
theorem BA : ∀ (is:List AI) (q b:Nat) (r:List (Nat×Nat)),
 jr is ((q,b)::r) =
  match is[q]?,jr is r with
  | some ai,some l=>some ((ai,b)::l)
  | x,dB=>none:=
 fun is q b r=>nd (jr.eq_2 is q b r)
theorem Lm : ∀ (tm:Tm) (n m:Nat),p7 tm n m [] = True:=
 fun tm n m=>nd (p7.eq_1 tm n m)
theorem Ln : ∀ (tm:Tm) (n m k:Nat) (d:D) (r:List (Nat×D)),
 p7 tm n m ((k,d)::r)=(Wk (D.fg n m (tm.get k)) d∧p7 tm n m r):=
 fun tm n m k d r=>nd (p7.eq_2 tm n m k d r)
theorem HZ : ∀ (n m o off:Nat),D.fg n m (D.ptr o off)=if o<n then D.ptr o off else D.junk:=
 fun n m o off=>nd (D.fg.eq_1 n m o off)
theorem H0 : ∀ (n m:Nat) (row:List D) (off:Nat),D.fg n m (D.cL row off)=D.cL (D.fh n m row) off:=
 fun n m row off=>nd (D.fg.eq_2 n m row off)
theorem H2 : ∀ (n m:Nat) (g:Tag) (z:Nat) (rows:List (List D)),
 D.fg n m (D.slice g z rows)=D.slice (Tag.fg m g) z (D.gF n m rows):=
 fun n m g z rows=>nd (D.fg.eq_3 n m g z rows)
theorem H3 : ∀ (n m:Nat) (cs:List D),D.fg n m (D.agg cs)=D.agg (D.fh n m cs):=
 fun n m cs=>nd (D.fg.eq_4 n m cs)
theorem H4 : ∀ (n m:Nat) (ds:List D),D.fg n m (D.tuple ds)=D.tuple (D.fh n m ds):=
 fun n m ds=>nd (D.fg.eq_5 n m ds)
theorem H5 : ∀ (n m:Nat),D.fg n m D.junk=D.junk:=
 fun n m=>nd (D.fg.eq_6 n m)
theorem H6 : ∀ (n m:Nat) (k:IntKind) (dB:Int),D.fg n m (D.int k dB)=D.int k dB:=
 fun n m k dB=>nd (D.fg.eq_7 n m k dB)
theorem H7 : ∀ (n m:Nat) (b:Bool),D.fg n m (D.bool b)=D.bool b:=
 fun n m b=>nd (D.fg.eq_8 n m b)
theorem H8 : ∀ (n m:Nat) (l:List UInt8),D.fg n m (D.str l)=D.str l:=
 fun n m l=>nd (D.fg.eq_9 n m l)
theorem FO : ∀ (n m:Nat),D.fg n m D.dR=D.dR:=
 fun n m=>nd (D.fg.eq_10 n m)
theorem FP : ∀ (n m:Nat),D.fh n m [] = []:=
 fun n m=>nd (D.fh.eq_1 n m)
theorem FQ : ∀ (n m:Nat) (d:D) (r:List D),D.fh n m (d::r)=D.fg n m d::D.fh n m r:=
 fun n m d r=>nd (D.fh.eq_2 n m d r)
theorem FR : ∀ (n m:Nat),D.gF n m [] = []:=
 fun n m=>nd (D.gF.eq_1 n m)
theorem FT : ∀ (n m:Nat) (d:List D) (r:List (List D)),D.gF n m (d::r)=D.fh n m d::D.gF n m r:=
 fun n m d r=>nd (D.gF.eq_2 n m d r)
theorem D5 : ∀ (m t:Nat) (y:Bool),Tag.fg m (Tag.tok t y)=if t<m then Tag.tok t y else Tag.shared:=
 fun _ _ _=>nd rfl
theorem D6 : ∀ (s:St) (n m:Nat),
 s.cut n m = {au:=List.map (D.fh n m) (List.take n s.au),av:=List.take m s.av}:=
 fun s n m=>nd (St.cut.eq_1 s n m)
theorem H9 : ∀ (d:D),aB [d] = d:=
 fun d=>nd (aB.eq_1 d)
theorem Ia (size bytes t:Nat) (rows:List (List D)) (g:Tag) (r:List D) (s:St):kI size bytes (.slice (.tok t) size rows) (.slice g size [r]) s =
 if(rows.length+1)*(bytes+1)≤bH∧s.av[t]? = some (some rows.length)then some (.slice (.tok t) size (rows++ [r]),⟨s.au,s.av.set t (some (rows.length+1))⟩)else none:=by
 simp only [kI,List.length_singleton]
 by_cases h1:(rows.length+1)*(bytes+1)≤bH <;> by_cases h2:s.av[t]? = some (some rows.length) <;> simp [h1,h2]
theorem Ae {size bytes t:Nat} {rows new:List (List D)} {g:Tag} {s:St} (h1:(rows.length+new.length)*(bytes+1)≤bH) (h2:s.av[t]? = some (some rows.length)) :
 kI size bytes (.slice (.tok t) size rows) (.slice g size new) s=some (.slice (.tok t) size (rows++new),⟨s.au,s.av.set t (some (rows.length+new.length))⟩):=by
 cases new with
 | nil=>
  have:s.av.set t (some rows.length)=s.av:=by
   apply List.ext_getElem?
   intro i
   rw [List.getElem?_set]
   split
   ·rename_i hi;subst hi;rw [h2,if_pos (List.getElem?_eq_some_iff.1 h2).1]
   ·rfl
  simp only [List.length_nil,Nat.add_zero]at h1
  simp [kI,h1,this]
 | cons x l=>
  simp only [kI,h1,h2]
  simp
theorem FU (size bytes z:Nat) (g:Tag) (r:List D) (s:St):kI size bytes (.slice .full z []) (.slice g size [r]) s =
 if bytes+1≤bH then some (.slice (.tok s.av.length) size [r],⟨s.au,s.av++ [some 1]⟩)else none:=by
 simp [kI]
theorem Lo {P:Program} {B:fc} {nt:Nat} (ac:AC) (Q:Exit→Tm→St→Prop) (tm:Tm) (s:St):CI P B nt ac Q .normal tm s=Q .normal tm s:=nd rfl
theorem Lp {P:Program} {B:fc} {nt:Nat} (ac:AC) (Q:Exit→Tm→St→Prop) (tm:Tm) (s:St):CI P B nt ac Q .ret tm s=Q .ret tm s:=nd rfl
theorem Lq {P:Program} {B:fc} {nt:Nat} (ac:AC) (Q:Exit→Tm→St→Prop) (tm:Tm) (s:St) (i:Nat):CI P B nt ac Q (.exit i) tm s=Q (.exit i) tm s:=nd rfl
theorem Lr (m:Nat):Tag.fg m .full = .full:=nd rfl
theorem FV (m:Nat):Tag.fg m .shared = .shared:=nd rfl
theorem PF {P:Program} (K:Tm→St→Prop) (tm:Tm) (s:St):gH P [] K tm s=K tm s:=nd rfl
theorem s_op {P:Program} (dst:Option Nat) (o:AO) (r:List AI) (K:Tm→St→Prop) (tm:Tm) (s:St) :
 gH P (.op dst none o::r) K tm s=(match aG o tm s with | some (d,s')=>gH P r K (tm.put dst d) s' | none=>False):=nd rfl
def KJ (P:Program) (r:List AI) (K:Tm→St→Prop) (tm:Tm) (dst:Option Nat) (d:D) (s:St):Prop:=gH P r K (tm.put dst d) s
theorem R5 {P:Program} (r:List AI) (K:Tm→St→Prop) (tm:Tm) (dst:Option Nat) (d:D) (s:St):KJ P r K tm dst d s=gH P r K (tm.put dst d) s:=nd rfl
theorem s_call {P:Program} (dst:Option Nat) (f:Nat) (xs:List X) (r:List AI) (K:Tm→St→Prop) (tm:Tm) (s:St) :
 gH P (.call dst none f xs::r) K tm s=CL P f (xs.map (·.ev tm)) s (KJ P r K tm dst):=nd rfl
def NJ (P:Program) (dst:Option Nat) (neg:Bool) (x:D) (r:List AI) (K:Tm→St→Prop) (tm:Tm) (s:St):Prop:=
 match x with
 | .slice _ _ rows=>∀ b:Bool,(rows≠ []→b=false)→gH P r K (tm.put dst (.bool (if neg then !b else b))) s
 | _=>False
theorem MW {P:Program} (dst:Option Nat) (neg:Bool) (x:X) (r:List AI) (K:Tm→St→Prop) (tm:Tm) (s:St) :
 gH P (.nil dst none neg x::r) K tm s=NJ P dst neg (x.ev tm) r K tm s:=nd rfl
theorem Ls {P:Program} (dst:Option Nat) (neg:Bool) (g:Tag) (z:Nat) (d:List D) (l:List (List D)) (r:List AI) (K:Tm→St→Prop) (tm:Tm) (s:St) :
 NJ P dst neg (.slice g z (d::l)) r K tm s=gH P r K (tm.put dst (.bool neg)) s:=by
 simp only [NJ,ne_eq,reduceCtorEq,not_false_eq_true,true_imp_iff,eq_iff_iff]
 refine⟨fun h=>by have:=h false rfl;cases neg <;> exact this,fun h b hb=> ?_⟩
 subst hb;cases neg <;> exact h
theorem PG {P:Program} (dst:Option Nat) (t:Nat) (w:Bool) (o:AO) (r:List AI) (K:Tm→St→Prop) (tm:Tm) (s:St) :
 gH P (.op dst (some (t,w)) o::r) K tm s = @GB (tm.get t) w ⟨(gH P (.op dst none o::r) K tm s),(gH P r K (tm.put dst (.tuple [])) s)⟩:=nd rfl
def CV (P:Program) (x:D) (PH:List D) (s:St) (K:D→St→Prop):Prop:=
 match x with
 | .eW f jK=>enters P f=true∧CL P f (PH++jK) s K
 | _=>False
theorem Lt {P:Program} (dst:Option Nat) (t:Nat) (xs:List X) (r:List AI) (K:Tm→St→Prop) (tm:Tm) (s:St) :
 gH P (.fM dst none t xs::r) K tm s=CV P (tm.get t) (xs.map (·.ev tm)) s (KJ P r K tm dst):=nd rfl
theorem CV.use {P:Program} {f:Nat} {jK PH:List D} {s s':St} {d:D} {K:D→St→Prop} (he:enters P f=true) (h:aI P f (PH++jK) s d s') (k:K d s'):CV P (.eW f jK) PH s K:=⟨he,d,s',h,k⟩
theorem Ib {P:Program} (dst:Option Nat) (t:Nat) (w:Bool) (u:Nat) (xs:List X) (r:List AI) (K:Tm→St→Prop) (tm:Tm) (s:St) :
 gH P (.fM dst (some (t,w)) u xs::r) K tm s = @GB (tm.get t) w ⟨(gH P (.fM dst none u xs::r) K tm s),(gH P r K (tm.put dst (.tuple [])) s)⟩:=nd rfl
theorem Lu {P:Program} (dst:Option Nat) (t:Nat) (w:Bool) (f:Nat) (xs:List X) (r:List AI) (K:Tm→St→Prop) (tm:Tm) (s:St) :
 gH P (.call dst (some (t,w)) f xs::r) K tm s = @GB (tm.get t) w ⟨(gH P (.call dst none f xs::r) K tm s),(gH P r K (tm.put dst (.tuple [])) s)⟩:=nd rfl
theorem MY {P:Program} (dst:Option Nat) (t:Nat) (w:Bool) (neg:Bool) (x:X) (r:List AI) (K:Tm→St→Prop) (tm:Tm) (s:St) :
 gH P (.nil dst (some (t,w)) neg x::r) K tm s = @GB (tm.get t) w ⟨(gH P (.nil dst none neg x::r) K tm s),(gH P r K (tm.put dst (.tuple [])) s)⟩:=nd rfl
theorem R7 (b:Bool) (A C:Prop) : @GB (.bool b) true ⟨A,C⟩ = @CB (.bool b) ⟨A,C⟩:=nd rfl
theorem R8 (b:Bool) (A C:Prop) : @GB (.bool b) false ⟨A,C⟩ = @CB (.bool b) ⟨C,A⟩:=by
 cases b <;> simp [GB,CB,GJ,oS]
theorem R9 (l:List D) (w:Bool) (A C:Prop) : @GB (.tuple l) w ⟨A,C⟩=C:=nd rfl
theorem PI {P:Program} {K:Tm→St→Prop} (aY:List St) (tm:Tm) (s:St):ek P K [] aY tm s=K tm s:=nd rfl
def OJ (P:Program) (o:AO) (dst:Option Nat) (b:Nat) (r:List (AI×Nat)) (K:Tm→St→Prop) (aY:List St) (tm:Tm) (s:St):Bool→Prop
 | true=>match aG o tm s with | some (d,s')=>ek P K r (s::aY) (tm.put dst d) s' | none=>False
 | false=>match aG o tm s with | some (d,_)=>j7 (.op dst none o) tm d (aY.take b)∧ek P K r aY (tm.put dst d) s | none=>False
theorem Sc {P:Program} {K:Tm→St→Prop} (dst:Option Nat) (o:AO) (b:Nat) (r:List (AI×Nat)) (aY:List St) (tm:Tm) (s:St) :
 ek P K ((.op dst none o,b)::r) aY tm s=OJ P o dst b r K aY tm s o.core:=by
 simp only [ek,jt]
 cases o.core <;> rfl
theorem Sd {P:Program} (o:AO) (dst:Option Nat) (b:Nat) (r:List (AI×Nat)) (K:Tm→St→Prop) (aY:List St) (tm:Tm) (s:St) :
 OJ P o dst b r K aY tm s true=match aG o tm s with | some (d,s')=>ek P K r (s::aY) (tm.put dst d) s' | none=>False:=nd rfl
theorem Se {P:Program} (o:AO) (dst:Option Nat) (b:Nat) (r:List (AI×Nat)) (K:Tm→St→Prop) (aY:List St) (tm:Tm) (s:St) :
 OJ P o dst b r K aY tm s false=match aG o tm s with | some (d,_)=>j7 (.op dst none o) tm d (aY.take b)∧ek P K r aY (tm.put dst d) s | none=>False:=nd rfl
theorem PJ {P:Program} {K:Tm→St→Prop} (dst:Option Nat) (t:Nat) (w:Bool) (o:AO) (b:Nat) (r:List (AI×Nat)) (aY:List St) (tm:Tm) (s:St) :
 ek P K ((.op dst (some (t,w)) o,b)::r) aY tm s = @GB (tm.get t) w ⟨(ek P K ((.op dst none o,b)::r) aY tm s),(ek P K r (if o.core then s::aY else aY) (tm.put dst (.tuple [])) s)⟩:=by
 simp only [GB,ek,jt]
 cases o.core <;> rfl
def KG (P:Program) (K:Tm→St→Prop) (r:List (AI×Nat)) (aY:List St) (tm:Tm) (dst:Option Nat) (d:D) (s:St):Prop:=ek P K r aY (tm.put dst d) s
theorem Sf {P:Program} (K:Tm→St→Prop) (r:List (AI×Nat)) (aY:List St) (tm:Tm) (dst:Option Nat) (d:D) (s:St):KG P K r aY tm dst d s=ek P K r aY (tm.put dst d) s:=nd rfl
theorem g_call {P:Program} {K:Tm→St→Prop} (dst:Option Nat) (f:Nat) (xs:List X) (b:Nat) (r:List (AI×Nat)) (aY:List St) (tm:Tm) (s:St) :
 ek P K ((.call dst none f xs,b)::r) aY tm s=CL P f (xs.map (·.ev tm)) s (KG P K r (s::aY) tm dst):=nd rfl
theorem Lv {P:Program} {K:Tm→St→Prop} (dst:Option Nat) (t:Nat) (w:Bool) (f:Nat) (xs:List X) (b:Nat) (r:List (AI×Nat)) (aY:List St) (tm:Tm) (s:St) :
 ek P K ((.call dst (some (t,w)) f xs,b)::r) aY tm s = @GB (tm.get t) w ⟨(ek P K ((.call dst none f xs,b)::r) aY tm s),(ek P K r (s::aY) (tm.put dst (.tuple [])) s)⟩:=nd rfl
class Ok (p:Prop):Prop where
 out:p
instance:Ok True:=⟨trivial⟩
instance {p q:Prop} [Ok p] [Ok q] : Ok (p∧q):=⟨⟨Ok.out,Ok.out⟩⟩
instance {α:Type} (a:α):Ok (a=a):=⟨rfl⟩
instance (d:D):Ok (Wk d .junk):=⟨Wk.junk d⟩
instance {l l':List D} [Ok (jq l l')] : Ok (Wk (.tuple l) (.tuple l')):=⟨Wk.tuple Ok.out⟩
instance {l l':List D} [Ok (jq l l')] : Ok (Wk (.agg l) (.agg l')):=⟨Wk.agg Ok.out⟩
instance {g:Tag} {z:Nat} {l l':List (List D)} [Ok (fH l l')] : Ok (Wk (.slice g z l) (.slice g z l')):=⟨Wk.rows Ok.out⟩
instance {g:Tag} {z:Nat} {l l':List (List D)} [Ok (fH l l')] : Ok (Wk (.slice g z l) (.slice .shared z l')):=⟨Wk.slice Ok.out⟩
instance (z z':Nat):Ok (Wk (.slice .full z []) (.slice .full z' [])):=⟨Wk.RU z z'⟩
instance (g:Tag) (z z':Nat):Ok (Wk (.slice g z []) (.slice .shared z' [])):=⟨Wk.nil g z z'⟩
instance (d:D):Ok (Wk d d):=⟨Wk.refl d⟩
instance:Ok (jq [] []):=⟨.nil⟩
instance {d d':D} {l l':List D} [Ok (Wk d d')] [Ok (jq l l')] : Ok (jq (d::l) (d'::l')):=⟨.cons Ok.out Ok.out⟩
instance (l:List D):Ok (jq l l):=⟨jq.refl l⟩
instance:Ok (fH [] []):=⟨.nil⟩
instance {d d':List D} {l l':List (List D)} [Ok (jq d d')] [Ok (fH l l')] : Ok (fH (d::l) (d'::l')):=⟨.cons Ok.out Ok.out⟩
instance {a a' b b':List (List D)} [Ok (fH a a')] [Ok (fH b b')] : Ok (fH (a++b) (a'++b')):=⟨fH.append Ok.out Ok.out⟩
instance (l:List (List D)):Ok (fH l l):=⟨fH.refl l⟩
theorem bs:(∀ b,(true || b)=true)∧(∀ b,(false || b)=b)∧(∀ b,(b || true)=true)∧(∀ b,(b || false)=b)∧(∀ b,(true && b)=b)∧(∀ b,(false && b)=false)∧(∀ b,(b && true)=b)∧(∀ b,(b && false)=false)∧
 (!true)=false∧(!false)=true∧(∀ b,(!!b)=b)∧((false=true)=False)∧(∀ (α β:Type) (a:α) (f:α→Option β),(some a).bind f=f a)∧
 (∀ (α β γ:Type) (x:Option α) (f:α→Option β) (g:β→Option γ),(x.bind f).bind g=x.bind fun y=>(f y).bind g):=
 ⟨Bool.true_or,Bool.false_or,Bool.or_true,Bool.or_false,Bool.true_and,Bool.false_and,Bool.and_true,Bool.and_false,rfl,rfl,Bool.not_not,by simp,fun _ _ _ _=>rfl,fun _ _ _ x f g=>Option.bind_assoc x f g⟩
attribute [go_sem] MT R1 R3 PF s_op R5 s_call MW Ls PG Lu MY R7 R8 R9 PI Sc Sd Se PJ Sf g_call Lv AO.core AI.kind AO.kind eK
attribute [go_sem] Lt Ib Dw Dx Dy Dz zW zX zY zZ FG FH DA K3 HG
attribute [go_sem] Dv z1 Ds Dt Du z6 z7 z8 FI FJ K1 Fs KX HD KY HE KZ HF Fq K0 HH C2 HI
attribute [go_sem] Fx Fy Fz FA FB FC FD FE FF C6 C7 C8 C9 Da Db Dc Dd De Df Dg Dh Di Dj Dk Dl Dm Dn Dp Dq Dr HT HU DB DC DD DE DF DG FK FL DH DI DJ HV HW DK FM FN Aa Ab Ac Ad HX HY DL DM DN DO DP DQ DR DS DT Bh Bi DU DV DW DX Ld Lf DY DZ D0 Bj Bk Lg Lh Li Lj Bl Bm Bn Bo Bp Bq Br Bs Bt Bu Bv Bw Bx By D1 D2 D3 D4 Lk Ll Bz BA Lm Ln HZ H0 H2 H3 H4 H5 H6 H7 H8 FO FP FQ FR FT D5 D6 H9 Ia FU Lr FV Lo Lp Lq
attribute [go_sem] List.map_cons List.map_nil List.getElem?_cons_zero List.getElem?_cons_succ List.length_cons List.length_nil List.set_cons_zero List.set_cons_succ List.take_succ_cons List.take_zero List.take_nil List.drop_succ_cons List.drop_zero List.drop_nil List.cons_append List.nil_append List.append_nil Nat.zero_add Nat.add_zero Option.map_some Option.map_none
attribute [go_sem] Bool.not_false Bool.not_true List.length_map List.getElem?_map Int.toNat_natCast Int.natCast_nonneg Int.toNat_zero and_self and_true true_and
attribute [go_sem_proc ↓] reduceIte
attribute [go_sem_proc] Int.reduceLE reduceCtorEq Nat.reduceEqDiff Nat.reduceLeDiff Nat.reduceAdd Nat.reduceMul Nat.reduceSub Nat.reduceLT
theorem cD {b:Bool} {A C:Prop} (h1:b=true→A) (h:b=true:=by assumption) : @CB (.bool b) ⟨A,C⟩:=MU h h1
theorem cE {b:Bool} {A C:Prop} (h1:b=false→C) (h:b=false:=by assumption) : @CB (.bool b) ⟨A,C⟩:=MV h h1
theorem cG {b:Bool} {A C:Prop} (h1:b=true→A) (h2:b=false→C) : @CB (.bool b) ⟨A,C⟩:=⟨h1,h2⟩
theorem aO {a b:Prop} (x:a) (y:b):a∧b:=⟨x,y⟩
theorem dv {α:Type _} (a b:α):(some a=some b)=(a=b):=Option.some.injEq a b
theorem dw {α:Sort _} {p:α→Prop} {a:α} : (∃ x,a=x∧p x)↔p a:=exists_eq_left'
theorem uK {n m:Nat} (h:Nat.ble n m=true):n≤m:=Nat.le_of_ble_eq_true h
theorem aJ {n m:Nat} {res:List (Nat×Option (Bool×Nat))} {d:D} {s':St} {e:Exit} {tm:Tm} {s:St} {Q:Exit→Tm→St→Prop} (hQ:ni n m res d s'=Q) (h : ∃ l,az res tm s=some l∧Wk ((aB l).fg n m) d∧fH (s.cut n m).au s'.au∧(s.cut n m).av=s'.av) (he:e = .ret∨e = .normal:=by first | exact .inl rfl | exact .inr rfl):Q e tm s:=by cases he with | inl x=>cases x;exact PD hQ h | inr x=>cases x;exact PE hQ h
theorem lz {p:Prop} (h:p:=by repeat' (first | exact Ok.out | with_reducible refine aO ?_ ?_ | (simp;done))):p:=h
theorem bw {p:Prop} (h:p:=by repeat' (first | exact Ok.out | with_reducible refine aO ?_ ?_)):p:=h
theorem ju {p:Prop} (h:p:=by(try cases h);simp only [az,aB,dv,dw,go_sem,hD,hJ,hP,hY];repeat' (first | exact Ok.out | with_reducible refine aO ?_ ?_ | (simp;done))):p:=h
theorem Ra {p:Prop} (h:p:=by simp only [go_sem,hD,hJ,hP,hY];repeat' (first | exact Ok.out | with_reducible refine aO ?_ ?_)):p:=h
theorem dF {P:Program} {B:fc} {nt:Nat} {a:AC} {Q:Exit→Tm→St→Prop} {tm bg:Tm} {s:St} {jk:List (List D)} (n m:Nat) (h:bp P B nt a Q bg ⟨jk,(s.cut n m).av⟩) (hn:B.s.au.length≤n:=by rw [hB];exact uK rfl) (hm:B.s.av.length≤m:=by rw [hB];exact uK rfl) (ht:p7 tm n m bg:=by exact Ra) (ho:fH (s.cut n m).au jk:=by exact Ra):bp P B nt a Q tm s:=bp.re bg jk n m hn hm ht ho h
theorem dA {P:Program} {B:fc} {nt:Nat} {a:AC} {Q:Exit→Tm→St→Prop} {tm bg:Tm} {s:St} {jk:List (List D)} (n m:Nat) (ht:p7 tm n m bg) (ho:fH (s.cut n m).au jk) (h:bp P B nt a Q bg ⟨jk,(s.cut n m).av⟩) (hn:B.s.au.length≤n:=by rw [hB];exact uK rfl) (hm:B.s.av.length≤m:=by rw [hB];exact uK rfl):bp P B nt a Q tm s:=bp.re bg jk n m hn hm ht ho h
theorem cf:0<1∧0<1∧0<1∧0<1:=⟨Nat.zero_lt_one,Nat.zero_lt_one,Nat.zero_lt_one,Nat.zero_lt_one⟩
end Go.Abs

/-! Types -/

namespace Go.Abs
mutual
theorem D7 (n m:Nat) : ∀ d,D.ok 0 0 d=true→D.fg n m d=d
 | .junk,_=>by simp [D.fg]
 | .int k n,_=>by simp [D.fg]
 | .bool b,_=>by simp [D.fg]
 | .str l,_=>by simp [D.fg]
 | .dR,_=>by simp [D.fg]
 | .val v,_=>by simp [D.fg]
 | .dT T o,h=>by simp [D.ok]at h
 | .eU o,h=>by simp [D.ok]at h
 | .eW f cs,h=>by
  simp only [D.ok]at h
  simp only [D.fg,fu n m cs h]
 | .ptr o f,h=>by simp [D.ok]at h
 | .cL r f,h=>by
  simp only [D.ok]at h
  simp only [D.fg,fu n m r h]
 | .slice g z rows,h=>by
  simp only [D.ok,Bool.and_eq_true]at h
  simp only [D.fg,Af n m rows h.2]
  cases g with
  | tok t y=>simp [Tag.ok]at h
  | full=>rfl
  | shared=>rfl
 | .agg cs,h=>by
  simp only [D.ok]at h
  simp only [D.fg,fu n m cs h]
 | .tuple cs,h=>by
  simp only [D.ok]at h
  simp only [D.fg,fu n m cs h]
theorem fu (n m:Nat) : ∀ l,D.bI 0 0 l=true→D.fh n m l=l
 | [],_=>by simp [D.fh]
 | d::r,h=>by
  simp only [D.bI,Bool.and_eq_true]at h
  simp only [D.fh,D7 n m d h.1,fu n m r h.2]
theorem Af (n m:Nat) : ∀ l,D.gG 0 0 l=true→D.gF n m l=l
 | [],_=>by simp [D.gF]
 | d::r,h=>by
  simp only [D.gG,Bool.and_eq_true]at h
  simp only [D.gF,fu n m d h.1,Af n m r h.2]
end
theorem ff {α:Type} {f:α→List D} (h : ∀ x,D.bI 0 0 (f x)=true) (l:List α):D.gG 0 0 (l.map f)=true:=by
 simp [zJ,h]
theorem jv {α:Type} {f:α→List D} (h : ∀ x,D.bI 0 0 (f x)=true) (n m:Nat) (l:List α):D.gF n m (l.map f)=l.map f:=Af n m _ (ff h l)
theorem BX (n m:Nat) : ∀ a b,D.gF n m (a++b)=D.gF n m a++D.gF n m b
 | [],b=>by simp [D.gF]
 | x::a,b=>by simp [D.gF,BX n m a b]
abbrev aD:=List UInt8
structure lA where
 kind:Int
 text:aD
 n:Int
 pos:Int
deriving DecidableEq
structure Ex where
 op:Int
 n:Int
 name:aD
 kids:List Ex
structure Ar where
 ref:Bool
 name:aD
 x:Ex
structure Sm where
 id:Int
 kind:Int
 labels:List aD
 name:aD
 proc:aD
 x:Ex
 has:Bool
 args:List Ar
 aZ:List Sm
 aQ:List Sm
structure Pm where
 name:aD
 ref:Bool
structure Pc where
 name:aD
 params:List Pm
 vars:List aD
 body:List Sm
 fin:List aD
structure Pg where
 globals:List aD
 procs:List Pc
def ml:Ex:=⟨0,0,[],[]⟩
def Ui:Ar:=⟨false,[],ml⟩
def BY:Sm:=⟨0,0,[],[],[],ml,false,[],[],[]⟩
def FW:Pg:=⟨[],[]⟩
def encStr (s:aD):List D:= [.str s]
def ga (t:lA):List D:= [.int .i64 t.kind, .str t.text, .int .i64 t.n, .int .i64 t.pos]
def sl (z:Nat) (rows:List (List D)):D:= .slice .shared z rows
mutual
def bA:Ex→List D
 | ⟨op,n,name,kids⟩=> [.int .i64 op, .int .i64 n, .str name, .slice .shared 4 (pf kids)]
def pf:List Ex→List (List D)
 | []=> []
 | x::l=>bA x::pf l
end
theorem xX : ∀ l,pf l=l.map bA
 | []=>by simp [pf]
 | x::l=>by simp [pf,xX l]
theorem fD (x:Ex):bA x = [.int .i64 x.op, .int .i64 x.n, .str x.name, .slice .shared 4 (x.kids.map bA)]:=by
 cases x;simp [bA,xX]
def c7 (a:Ar):List D:= [.bool a.ref, .str a.name, .int .i64 a.x.op, .int .i64 a.x.n, .str a.x.name, .slice .shared 4 (a.x.kids.map bA)]
mutual
def bf:Sm→List D
 | ⟨id,kind,labels,name,proc,x,has,args,aZ,aQ⟩=> [.int .i64 id, .int .i64 kind, .slice .shared 1 (labels.map encStr), .str name, .str proc,
  .int .i64 x.op, .int .i64 x.n, .str x.name, .slice .shared 4 (x.kids.map bA), .bool has, .slice .shared 6 (args.map c7), .slice .shared 13 (nY aZ), .slice .shared 13 (nY aQ)]
def nY:List Sm→List (List D)
 | []=> []
 | x::l=>bf x::nY l
end
theorem xY : ∀ l,nY l=l.map bf
 | []=>by simp [nY]
 | x::l=>by simp [nY,xY l]
theorem cr (s:Sm):bf s = [.int .i64 s.id, .int .i64 s.kind, .slice .shared 1 (s.labels.map encStr), .str s.name, .str s.proc,
 .int .i64 s.x.op, .int .i64 s.x.n, .str s.x.name, .slice .shared 4 (s.x.kids.map bA), .bool s.has, .slice .shared 6 (s.args.map c7), .slice .shared 13 (s.aZ.map bf), .slice .shared 13 (s.aQ.map bf)]:=by
 cases s;simp [bf,xY]
def fm (p:Pm):List D:= [.str p.name, .bool p.ref]
def bL (p:Pc):List D:= [.str p.name, .slice .shared 2 (p.params.map fm), .slice .shared 1 (p.vars.map encStr), .slice .shared 13 (p.body.map bf), .slice .shared 1 (p.fin.map encStr)]
def bS (p:Pg):List D:= [.slice .shared 1 (p.globals.map encStr), .slice .shared 5 (p.procs.map bL)]
theorem MZ (x:lA):(ga x).length=4:=nd rfl
theorem Lw (x:lA):List.take 4 (ga x)=ga x:=nd rfl
theorem Lx (x:lA):List.drop 4 (ga x) = []:=nd rfl
theorem FX (x:lA):(ga x)[0]? = some (.int .i64 x.kind):=nd rfl
theorem FY (x:lA):(ga x)[1]? = some (.str x.text):=nd rfl
theorem FZ (x:lA):(ga x)[2]? = some (.int .i64 x.n):=nd rfl
theorem F0 (x:lA):(ga x)[3]? = some (.int .i64 x.pos):=nd rfl
theorem PK (vY:Int) (Ka:aD) (n_:Int) (M4:Int):ga ⟨vY,Ka,n_,M4⟩ = [.int .i64 vY, .str Ka, .int .i64 n_, .int .i64 M4]:=by simp only [ga]
theorem Kb (x:Ex):(bA x).length=4:=by simp only [fD];rfl
theorem M5 (x:Ex):List.take 4 (bA x)=bA x:=by simp only [fD];rfl
theorem M6 (x:Ex):List.drop 4 (bA x) = []:=by simp only [fD];rfl
theorem Ic (x:Ex):(bA x)[0]? = some (.int .i64 x.op):=by simp only [fD];rfl
theorem Ie (x:Ex):(bA x)[1]? = some (.int .i64 x.n):=by simp only [fD];rfl
theorem Ig (x:Ex):(bA x)[2]? = some (.str x.name):=by simp only [fD];rfl
theorem Ih (x:Ex):(bA x)[3]? = some (.slice .shared 4 (x.kids.map bA)):=by simp only [fD];rfl
theorem Sg (Rb:Int) (n_:Int) (kA:aD) (Kc:List Ex):bA ⟨Rb,n_,kA,Kc⟩ = [.int .i64 Rb, .int .i64 n_, .str kA, .slice .shared 4 (Kc.map bA)]:=by simp only [fD]
theorem PN (x:Ar):(c7 x).length=6:=nd rfl
theorem M7 (x:Ar):List.take 6 (c7 x)=c7 x:=nd rfl
theorem M8 (x:Ar):List.drop 6 (c7 x) = []:=nd rfl
theorem Ii (x:Ar):(c7 x)[0]? = some (.bool x.ref):=nd rfl
theorem Ij (x:Ar):(c7 x)[1]? = some (.str x.name):=nd rfl
theorem Ik (x:Ar):(c7 x)[2]? = some (.int .i64 x.x.op):=nd rfl
theorem Il (x:Ar):(c7 x)[3]? = some (.int .i64 x.x.n):=nd rfl
theorem Io (x:Ar):(c7 x)[4]? = some (.str x.x.name):=nd rfl
theorem Ip (x:Ar):(c7 x)[5]? = some (.slice .shared 4 (x.x.kids.map bA)):=nd rfl
theorem Iq (x:Ar):List.take 4 (List.drop 2 (c7 x))=bA x.x:=by simp only [c7,fD];rfl
theorem Si (Ag:Bool) (kA:aD) (x_:Ex):c7 ⟨Ag,kA,x_⟩ = [.bool Ag, .str kA, .int .i64 x_.op, .int .i64 x_.n, .str x_.name, .slice .shared 4 (x_.kids.map bA)]:=by simp only [c7]
theorem yZ (x:Sm):(bf x).length=13:=by simp only [cr];rfl
theorem M9 (x:Sm):List.take 13 (bf x)=bf x:=by simp only [cr];rfl
theorem Na (x:Sm):List.drop 13 (bf x) = []:=by simp only [cr];rfl
theorem Ir (x:Sm):(bf x)[0]? = some (.int .i64 x.id):=by simp only [cr];rfl
theorem Is (x:Sm):(bf x)[1]? = some (.int .i64 x.kind):=by simp only [cr];rfl
theorem Iu (x:Sm):(bf x)[2]? = some (.slice .shared 1 (x.labels.map encStr)):=by simp only [cr];rfl
theorem Iv (x:Sm):(bf x)[3]? = some (.str x.name):=by simp only [cr];rfl
theorem Iw (x:Sm):(bf x)[4]? = some (.str x.proc):=by simp only [cr];rfl
theorem Ix (x:Sm):(bf x)[5]? = some (.int .i64 x.x.op):=by simp only [cr];rfl
theorem Iy (x:Sm):(bf x)[6]? = some (.int .i64 x.x.n):=by simp only [cr];rfl
theorem Iz (x:Sm):(bf x)[7]? = some (.str x.x.name):=by simp only [cr];rfl
theorem IA (x:Sm):(bf x)[8]? = some (.slice .shared 4 (x.x.kids.map bA)):=by simp only [cr];rfl
theorem IB (x:Sm):(bf x)[9]? = some (.bool x.has):=by simp only [cr];rfl
theorem F1 (x:Sm):(bf x)[10]? = some (.slice .shared 6 (x.args.map c7)):=by simp only [cr];rfl
theorem F2 (x:Sm):(bf x)[11]? = some (.slice .shared 13 (x.aZ.map bf)):=by simp only [cr];rfl
theorem F3 (x:Sm):(bf x)[12]? = some (.slice .shared 13 (x.aQ.map bf)):=by simp only [cr];rfl
theorem IC (x:Sm):List.take 4 (List.drop 5 (bf x))=bA x.x:=by simp only [cr,fD];rfl
theorem Sj (Rc:Int) (vY:Int) (B0:List aD) (kA:aD) (Kd:aD) (x_:Ex) (Nb:Bool) (Ke:List Ar) (Nc:List Sm) (Nd:List Sm):bf ⟨Rc,vY,B0,kA,Kd,x_,Nb,Ke,Nc,Nd⟩ = [.int .i64 Rc, .int .i64 vY, .slice .shared 1 (B0.map encStr), .str kA, .str Kd, .int .i64 x_.op, .int .i64 x_.n, .str x_.name, .slice .shared 4 (x_.kids.map bA), .bool Nb, .slice .shared 6 (Ke.map c7), .slice .shared 13 (Nc.map bf), .slice .shared 13 (Nd.map bf)]:=by simp only [cr]
theorem PO (x:Pm):(fm x).length=2:=nd rfl
theorem Nf (x:Pm):List.take 2 (fm x)=fm x:=nd rfl
theorem Ng (x:Pm):List.drop 2 (fm x) = []:=nd rfl
theorem ID (x:Pm):(fm x)[0]? = some (.str x.name):=nd rfl
theorem IE (x:Pm):(fm x)[1]? = some (.bool x.ref):=nd rfl
theorem Sk (kA:aD) (Ag:Bool):fm ⟨kA,Ag⟩ = [.str kA, .bool Ag]:=by simp only [fm]
theorem PQ (x:Pc):(bL x).length=5:=nd rfl
theorem Nh (x:Pc):List.take 5 (bL x)=bL x:=nd rfl
theorem Ni (x:Pc):List.drop 5 (bL x) = []:=nd rfl
theorem IF (x:Pc):(bL x)[0]? = some (.str x.name):=nd rfl
theorem IG (x:Pc):(bL x)[1]? = some (.slice .shared 2 (x.params.map fm)):=nd rfl
theorem II (x:Pc):(bL x)[2]? = some (.slice .shared 1 (x.vars.map encStr)):=nd rfl
theorem IJ (x:Pc):(bL x)[3]? = some (.slice .shared 13 (x.body.map bf)):=nd rfl
theorem IK (x:Pc):(bL x)[4]? = some (.slice .shared 1 (x.fin.map encStr)):=nd rfl
theorem Sl (kA:aD) (B1:List Pm) (Kf:List aD) (Kg:List Sm) (Nj:List aD):bL ⟨kA,B1,Kf,Kg,Nj⟩ = [.str kA, .slice .shared 2 (B1.map fm), .slice .shared 1 (Kf.map encStr), .slice .shared 13 (Kg.map bf), .slice .shared 1 (Nj.map encStr)]:=by simp only [bL]
theorem PR (x:Pg):(bS x).length=2:=nd rfl
theorem Nk (x:Pg):List.take 2 (bS x)=bS x:=nd rfl
theorem Nl (x:Pg):List.drop 2 (bS x) = []:=nd rfl
theorem IL (x:Pg):(bS x)[0]? = some (.slice .shared 1 (x.globals.map encStr)):=nd rfl
theorem IM (x:Pg):(bS x)[1]? = some (.slice .shared 5 (x.procs.map bL)):=nd rfl
theorem Sn (Ah:List aD) (F4:List Pc):bS ⟨Ah,F4⟩ = [.slice .shared 1 (Ah.map encStr), .slice .shared 5 (F4.map bL)]:=by simp only [bS]
attribute [go_sem] MZ Lw Lx FX FY FZ F0 PK Kb M5 M6 Ic Ie Ig Ih Sg PN M7 M8 Ii Ij Ik Il Io Ip Iq Si yZ M9 Na Ir Is Iu Iv Iw Ix Iy Iz IA IB F1 F2 F3 IC Sj PO Nf Ng ID IE Sk PQ Nh Ni IF IG II IJ IK Sl PR Nk Nl IL IM Sn
theorem vZ (s:aD):D.bI 0 0 (encStr s)=true:=rfl
theorem Kh (t:lA):D.bI 0 0 (ga t)=true:=rfl
mutual
theorem kl : ∀ x,D.bI 0 0 (bA x)=true
 | ⟨op,n,name,kids⟩=>by simp [bA,D.bI,D.ok,Tag.ok,Ki kids]
theorem Ki : ∀ l,D.gG 0 0 (pf l)=true
 | []=>rfl
 | x::l=>by simp [pf,D.gG,kl x,Ki l]
end
theorem D8 (a:Ar):D.bI 0 0 (c7 a)=true:=by simp [c7,D.bI,D.ok,Tag.ok,ff kl]
mutual
theorem mn : ∀ x,D.bI 0 0 (bf x)=true
 | ⟨id,kind,labels,name,proc,x,has,args,aZ,aQ⟩=>by simp [bf,D.bI,D.ok,Tag.ok,D9 aZ,D9 aQ,ff vZ,ff kl,ff D8]
theorem D9 : ∀ l,D.gG 0 0 (nY l)=true
 | []=>rfl
 | x::l=>by simp [nY,D.gG,mn x,D9 l]
end
theorem Ea (p:Pm):D.bI 0 0 (fm p)=true:=rfl
theorem tn (p:Pc):D.bI 0 0 (bL p)=true:=by simp [bL,D.bI,D.ok,Tag.ok,ff Ea,ff vZ,ff mn]
theorem km (p:Pg):D.bI 0 0 (bS p)=true:=by simp [bS,D.bI,D.ok,Tag.ok,ff vZ,ff tn]
theorem Nn (n m:Nat) (x:lA):D.fh n m (ga x)=ga x:=fu n m _ (Kh x)
theorem PS (n m:Nat) (x:Ex):D.fh n m (bA x)=bA x:=fu n m _ (kl x)
theorem PT (n m:Nat) (x:Ar):D.fh n m (c7 x)=c7 x:=fu n m _ (D8 x)
theorem PU (n m:Nat) (x:Sm):D.fh n m (bf x)=bf x:=fu n m _ (mn x)
theorem PV (n m:Nat) (x:Pm):D.fh n m (fm x)=fm x:=fu n m _ (Ea x)
theorem PW (n m:Nat) (x:Pc):D.fh n m (bL x)=bL x:=fu n m _ (tn x)
theorem PX (n m:Nat) (x:Pg):D.fh n m (bS x)=bS x:=fu n m _ (km x)
attribute [go_sem] Nn PS PT PU PV PW PX
theorem fi (l:List aD):D.gG 0 0 (l.map encStr)=true:=ff vZ l
theorem Kj (l:List Ex):D.gG 0 0 (l.map bA)=true:=ff kl l
theorem za (l:List Ar):D.gG 0 0 (l.map c7)=true:=ff D8 l
theorem oT (l:List Sm):D.gG 0 0 (l.map bf)=true:=ff mn l
theorem PY (l:List Pm):D.gG 0 0 (l.map fm)=true:=ff Ea l
theorem zb (l:List Pc):D.gG 0 0 (l.map bL)=true:=ff tn l
theorem F5 (n m:Nat) (l:List aD):D.gF n m (l.map encStr)=l.map encStr:=jv vZ n m l
theorem No (n m:Nat) (l:List lA):D.gF n m (l.map ga)=l.map ga:=jv Kh n m l
theorem PZ (n m:Nat) (l:List Ex):D.gF n m (l.map bA)=l.map bA:=jv kl n m l
theorem P0 (n m:Nat) (l:List Ar):D.gF n m (l.map c7)=l.map c7:=jv D8 n m l
theorem P1 (n m:Nat) (l:List Sm):D.gF n m (l.map bf)=l.map bf:=jv mn n m l
theorem P2 (n m:Nat) (l:List Pm):D.gF n m (l.map fm)=l.map fm:=jv Ea n m l
theorem Kk (n m:Nat) (l:List Pc):D.gF n m (l.map bL)=l.map bL:=jv tn n m l
theorem Np (x:Ex) (r:List D):bA x++r = .int .i64 x.op:: .int .i64 x.n:: .str x.name:: .slice .shared 4 (x.kids.map bA)::r:=by rw [fD];rfl
theorem Ly (d:D) (x:Ex):d::bA x = [d, .int .i64 x.op, .int .i64 x.n, .str x.name, .slice .shared 4 (x.kids.map bA)]:=by rw [fD]
attribute [go_sem] Np Ly
theorem P3:((0:Nat):Int)=0:=nd rfl
theorem P4:((1:Nat):Int)=1:=nd rfl
theorem P5:((2:Nat):Int)=2:=nd rfl
attribute [go_sem] P3 P4 P5 BX List.length_append List.map_append encStr ml Ui BY FW F5 No PZ P0 P1 P2 Kk
theorem mx (a b:Nat):(if(b:Int) > (a:Int)then(b:Int)else(a:Int))=((max a b:Nat):Int):=by split <;> omega
theorem dt {x:Int} (h1 : -9223372036854775808≤x) (h2:x<9223372036854775808):IntKind.wrap .i64 x=x:=by
 rw [IntKind.wrap_i64];omega
@[go_sem] theorem aH {n:Nat} (h:n<4611686018427387904):IntKind.wrap .i64 ((n:Int)+1)=((n+1:Nat):Int):=by
 rw [dt] <;> omega
def inc (n:Nat):Option Nat:=if n<4611686018427387904 then some (n+1)else none
def Sp (n:Int):Option Int:=if -4611686018427387904<n∧n<4611686018427387904 then some (n+1)else none
@[go_sem] theorem Re {n:Nat} (h:n+1<4611686018427387904):IntKind.wrap .i64 ((n:Int)+1)=((n+1:Nat):Int):=by
 rw [dt] <;> omega
@[go_sem] theorem Rf {n:Nat} (h:n<4611686018427387904):IntKind.wrap .i64 ((n:Int)+2)=((n+2:Nat):Int):=by
 rw [dt] <;> omega
def Nq {α:Type} (l:List α) (i:Nat):Option α:=if i<4611686018427387904 then l[i]? else none
def push {α:Type} (k:Nat) (l:List α) (x:α):Option (List α):=if(l.length+1)*k≤bH then some (l++ [x])else none
end Go.Abs

/-! Mir -/

namespace Go.Abs
mutual
def Ex.size:Ex→Nat
 | ⟨_,_,_,kids⟩=>1+Ex.aT kids
def Ex.aT:List Ex→Nat
 | []=>0
 | x::l=>1+x.size+Ex.aT l
end
mutual
def Ex.depth:Ex→Nat
 | ⟨_,_,_,kids⟩=>Ex.lB kids+1
def Ex.lB:List Ex→Nat
 | []=>0
 | x::l=>max x.depth (Ex.lB l)
end
def Nr (x:Ex):Option Int:=if x.size<4611686018427387904 then some (x.depth:Int)else none
theorem Ex.b6 {x:Ex} : ∀ {l:List Ex},x∈l→x.size<Ex.aT l
 | y::l,h=>by
  simp only [Ex.aT]
  rcases List.mem_cons.1 h with rfl | h
  ·omega
  ·have:=Ex.b6 h;omega
theorem Ex.cP : ∀ (l:List Ex),l.length≤Ex.aT l
 | []=>Nat.le_refl _
 | x::l=>by simp only [Ex.aT,List.length_cons];have:=Ex.cP l;omega
def Eb (t:lA):Int×Int:=
 if t.kind != 4 then(0,0)
 else if t.text == [124,124]then(17,1)
 else if t.text == [38,38]then(16,2)
 else if t.text == [61,61]then(14,3)
 else if t.text == [33,61]then(15,3)
 else if t.text == [60]then(10,4)
 else if t.text == [60,61]then(11,4)
 else if t.text == [62]then(12,4)
 else if t.text == [62,61]then(13,4)
 else if t.text == [43]then(8,5)
 else if t.text == [45]then(9,5)
 else if t.text == [42]then(5,6)
 else if t.text == [47]then(6,6)
 else if t.text == [37]then(7,6)
 else(0,0)
structure Rd where
 l:List lA
 i:Nat
 code:Int
 Ai:Int
 n:Nat
abbrev Rd.good (r:Rd):Bool:=r.code==0
def Rd.pg (r:Rd):Option lA:=(Nq r.l r.i).bind fun t=>if decide (0≤t.kind) && decide (t.kind≤4)then some t else none
def Rd.bad (c:Int) (r:Rd):Option Rd:=if r.good then r.pg.bind fun t=>some {r with code:=c,Ai:=t.pos}else some r
def Rd.is (text:aD) (r:Rd):Option Bool:=r.pg.bind fun t=>some ((t.kind==3 || t.kind==4) && t.text==text)
def Rd.take (text:aD) (r:Rd):Option (Bool×Rd):=
 if !r.good then some (false,r)else(r.is text).bind fun b=>if !b then some (false,r)else some (true,{r with i:=r.i+1})
def Rd.want (text:aD) (r:Rd):Option Rd:=(r.take text).bind fun p=>if !p.1 then p.2.bad 3 else some p.2
def Rd.name (room:Bool) (r:Rd):Option (aD×Rd):=
 r.pg.bind fun t=>if !r.good || t.kind != 1 then(r.bad 3).bind fun r=>some ([],r)else if !room then(r.bad 4).bind fun r=>some ([],r)else some (t.text,{r with i:=r.i+1})
def Rd.on (r:Rd):Rd:= {r with i:=r.i+1}
mutual
def Rd.one:Nat→Rd→Option (Ex×Rd)
 | 0,_=>none
 | n+1,r=>r.pg.bind fun t=>
  if !r.good then some (ml,r)
  else if t.kind==2 then some (⟨1,t.n,[],[]⟩,{r with i:=r.i+1})
  else if t.kind==1 then some (⟨2,0,t.text,[]⟩,{r with i:=r.i+1})
  else(r.take [40]).bind fun p=>
   if p.1 then(Rd.two n 1 p.2).bind fun x=>(x.2.want [41]).bind fun r=>some (x.1,r)
   else(p.2.take [45]).bind fun p=>
    if p.1 then(Rd.one n p.2).bind fun x=>some (⟨3,0,[],[x.1]⟩,x.2)
    else(p.2.take [33]).bind fun p=>
     if p.1 then(Rd.one n p.2).bind fun x=>some (⟨4,0,[],[x.1]⟩,x.2)
     else(p.2.bad 3).bind fun r=>some (ml,r)
def Rd.two:Nat→Int→Rd→Option (Ex×Rd)
 | 0,_,_=>none
 | n+1,least,r=>(Rd.one n r).bind fun x=>Rd.Ns n least x.1 x.2
def Rd.Ns:Nat→Int→Ex→Rd→Option (Ex×Rd)
 | 0,_,_,_=>none
 | n+1,least,x,r=>
  if r.good then r.pg.bind fun t=>
   if decide ((Eb t).2<least) || (Eb t).1==0 then some (x,r)
   else(Rd.two n ((Eb t).2+1) {r with i:=r.i+1}).bind fun y=>Rd.Ns n least ⟨(Eb t).1,0,[],[x,y.1]⟩ y.2
  else some (x,r)
end
def Rd.whole (n:Nat) (r:Rd):Option (Ex×Rd):=
 r.pg.bind fun t=>(Rd.two n 1 r).bind fun x=>
  if x.2.good then(Nr x.1).bind fun d=>if decide (d > 20)then some (x.1,{x.2 with code:=4,Ai:=t.pos})else some (x.1,x.2)
  else some (x.1,x.2)
def Rd.names:Nat→List aD→Int→Rd→Option (List aD×Rd)
 | 0,_,_,_=>none
 | n+1,l,Nt,r=>
  if r.good then(r.name (decide ((l.length:Int)<Nt))).bind fun p=>(push 17 l p.1).bind fun l=>(p.2.take [44]).bind fun q=>
   if !q.1 then(q.2.want [59]).bind fun r=>some (l,r)else Rd.names n l Nt q.2
  else some (l,r)
def Rd.ahead (sign:aD) (r:Rd):Option Bool:=
 if r.good then r.pg.bind fun t=>if t.kind==1 then(Nq r.l (r.i+1)).bind fun u=>some (u.kind==4 && u.text==sign)else some false
 else some false
def Rd.labels:Nat→List aD→Rd→Option (List aD×Rd)
 | 0,_,_=>none
 | n+1,l,r=>(r.ahead [58]).bind fun b=>if b then r.pg.bind fun t=>(push 17 l t.text).bind fun l=>Rd.labels n l {r with i:=r.i+2}else some (l,r)
def Rd.Nu (r:Rd):Option Bool:=
 r.pg.bind fun t=>some (if t.kind==1 then true else if t.kind != 3 then false
  else t.text == [105,102] || t.text == [119,104,105,108,101] || t.text == [98,114,101,97,107] || t.text == [99,111,110,116,105,110,117,101] || t.text == [114,101,116,117,114,110] || t.text == [103,111,116,111] || t.text == [114,101,97,100] || t.text == [112,114,105,110,116])
def Rd.Ec (m:Nat):Nat→List Ar→Rd→Option (List Ar×Rd)
 | 0,_,_=>none
 | n+1,l,r=>
  if r.good then(r.take [114,101,102]).bind fun p=>
   if p.1 then(p.2.name true).bind fun x=>(push 81 l ⟨true,x.1,ml⟩).bind fun l=>(x.2.take [44]).bind fun c=>if !c.1 then some (l,c.2)else Rd.Ec m n l c.2
   else(Rd.whole m p.2).bind fun x=>(push 81 l ⟨false,[],x.1⟩).bind fun l=>(x.2.take [44]).bind fun c=>if !c.1 then some (l,c.2)else Rd.Ec m n l c.2
  else some (l,r)
def Rd.other (sign:aD) (r:Rd):Option Bool:=if r.good then(r.is sign).bind fun b=>some !b else some false
def Rd.call (m:Nat) (name proc:aD) (r:Rd):Option (Sm×Rd):=
 (r.want [40]).bind fun r=>(r.other [41]).bind fun b=>
  if b then(Rd.Ec m m [] r).bind fun q=>(q.2.want [41]).bind fun r=>(r.want [59]).bind fun r=>some (⟨0,4,[],name,proc,ml,false,q.1,[],[]⟩,r)
  else(r.want [41]).bind fun r=>(r.want [59]).bind fun r=>some (⟨0,4,[],name,proc,ml,false,[],[],[]⟩,r)
def Rd.named (m:Nat) (r:Rd):Option (Sm×Rd):=
 (r.name true).bind fun x=>(x.2.is [40]).bind fun b=>
  if b then Rd.call m [] x.1 x.2
  else(x.2.want [61]).bind fun r=>(r.ahead [40]).bind fun b=>
   if b then(r.name true).bind fun y=>Rd.call m x.1 y.1 y.2
   else(Rd.whole m r).bind fun y=>(y.2.want [59]).bind fun r=>some (⟨0,1,[],x.1,[],y.1,false,[],[],[]⟩,r)
def Rd.plain (m:Nat) (word:aD) (r:Rd):Option (Sm×Rd):=
 if word == [98,114,101,97,107]then some (⟨0,7,[],[],[],ml,false,[],[],[]⟩,r)
 else if word == [99,111,110,116,105,110,117,101]then some (⟨0,8,[],[],[],ml,false,[],[],[]⟩,r)
 else if word == [114,101,116,117,114,110]then(r.is [59]).bind fun b=>
  if !b then(Rd.whole m r).bind fun x=>some (⟨0,9,[],[],[],x.1,true,[],[],[]⟩,x.2)else some (⟨0,9,[],[],[],ml,false,[],[],[]⟩,r)
 else if word == [103,111,116,111]then(r.name true).bind fun x=>some (⟨0,10,[],x.1,[],ml,false,[],[],[]⟩,x.2)
 else if word == [114,101,97,100]then(r.name true).bind fun x=>some (⟨0,2,[],x.1,[],ml,false,[],[],[]⟩,x.2)
 else if word == [112,114,105,110,116]then(Rd.whole m r).bind fun x=>some (⟨0,3,[],[],[],x.1,false,[],[],[]⟩,x.2)
 else some (BY,r)
def Rd.head (m:Nat) (r:Rd):Option (Ex×Rd):=(r.want [40]).bind fun r=>(Rd.whole m r).bind fun x=>(x.2.want [41]).bind fun r=>some (x.1,r)
mutual
def Rd.rows (m:Nat):Nat→Int→Bool→Rd→Option ((List Sm×List aD)×Rd)
 | 0,_,_,_=>none
 | n+1,nest,body,r=>Rd.Kl m n nest body [] r
def Rd.Kl (m:Nat):Nat→Int→Bool→List Sm→Rd→Option ((List Sm×List aD)×Rd)
 | 0,_,_,_,_=>none
 | n+1,nest,body,out,r=>
  if r.good then(Rd.labels m [] r).bind fun l=>(l.2.is [125]).bind fun b=>
   if b && (body || (l.1.length:Int)==0)then some ((out,l.1),{l.2 with i:=l.2.i+1})
   else(Rd.stmt m n nest l.2).bind fun s=>(push 209 out {s.1 with labels:=l.1}).bind fun out=>Rd.Kl m n nest body out s.2
  else some (([],[]),r)
def Rd.stmt (m:Nat):Nat→Int→Rd→Option (Sm×Rd)
 | 0,_,_=>none
 | n+1,nest,r=>r.Nu.bind fun b=>
  if !b then(r.bad 3).bind fun r=>some (BY,r)
  else(inc r.n).bind fun k=>
   if decide ((k:Int) > 200) || decide (nest > 12)then(({r with n:=k} : Rd).bad 4).bind fun r=>some (BY,r)
   else({r with n:=k} : Rd).pg.bind fun t=>
    if t.kind==1 then Rd.named m {r with n:=k}
    else if t.text == [105,102]then Rd.choice m n nest {r with n:=k,i:=r.i+1}
    else if t.text == [119,104,105,108,101]then(Rd.head m {r with n:=k,i:=r.i+1}).bind fun x=>(Rd.block m n nest x.2).bind fun b=>some (⟨0,6,[],[],[],x.1,false,[],b.1,[]⟩,b.2)
    else(Rd.plain m t.text {r with n:=k,i:=r.i+1}).bind fun s=>(s.2.want [59]).bind fun r=>some (s.1,r)
def Rd.block (m:Nat):Nat→Int→Rd→Option (List Sm×Rd)
 | 0,_,_=>none
 | n+1,nest,r=>(r.want [123]).bind fun r=>(Sp nest).bind fun k=>(Rd.rows m n k false r).bind fun p=>some (p.1.1,p.2)
def Rd.choice (m:Nat):Nat→Int→Rd→Option (Sm×Rd)
 | 0,_,_=>none
 | n+1,nest,r=>(Rd.head m r).bind fun x=>(Rd.block m n nest x.2).bind fun t=>(t.2.take [101,108,115,101]).bind fun q=>
  if q.1 then(Rd.block m n nest q.2).bind fun e=>some (⟨0,5,[],[],[],x.1,false,[],t.1,e.1⟩,e.2)
  else some (⟨0,5,[],[],[],x.1,false,[],t.1,[]⟩,q.2)
end
def Rd.params:Nat→List Pm→Rd→Option (List Pm×Rd)
 | 0,_,_=>none
 | n+1,l,r=>
  if r.good then(r.take [114,101,102]).bind fun q=>(q.2.name (decide ((l.length:Int)<8))).bind fun x=>(push 25 l ⟨x.1,q.1⟩).bind fun l=>(x.2.take [44]).bind fun c=>
   if !c.1 then some (l,c.2)else Rd.params n l c.2
  else some (l,r)
def Rd.vars (m:Nat):Nat→List aD→Rd→Option (List aD×Rd)
 | 0,_,_=>none
 | n+1,l,r=>(r.take [118,97,114]).bind fun q=>if q.1 then(Rd.names m l 16 q.2).bind fun x=>Rd.vars m n x.1 x.2 else some (l,q.2)
def Rd.Km (m:Nat) (name:aD) (ps:List Pm) (r:Rd):Option (Pc×Rd):=
 (Rd.vars m m [] r).bind fun v=>(Rd.rows m m 1 true v.2).bind fun b=>some (⟨name,ps,v.1,b.1.1,b.1.2⟩,b.2)
def Rd.proc (m:Nat) (r:Rd):Option (Pc×Rd):=
 (r.name true).bind fun x=>(x.2.want [40]).bind fun r=>(r.other [41]).bind fun b=>
  if b then(Rd.params m [] r).bind fun q=>(q.2.want [41]).bind fun r=>(r.want [123]).bind fun r=>Rd.Km m x.1 q.1 r
  else(r.want [41]).bind fun r=>(r.want [123]).bind fun r=>Rd.Km m x.1 [] r
def Rd.globals (m:Nat):Nat→List aD→Rd→Option (List aD×Rd)
 | 0,_,_=>none
 | n+1,l,r=>(r.take [103,108,111,98,97,108]).bind fun q=>if q.1 then(Rd.names m l 16 q.2).bind fun x=>Rd.globals m n x.1 x.2 else some (l,q.2)
def Rd.Nv (r:Rd):Option Bool:=if r.good then r.is [112,114,111,99]else some false
def Rd.F6 (r:Rd):Option Bool:=if r.good then r.pg.bind fun t=>some (t.kind != 0)else some false
def Rd.procs (m:Nat):Nat→List Pc→Rd→Option (List Pc×Rd)
 | 0,_,_=>none
 | n+1,l,r=>r.Nv.bind fun b=>
  if b then
   if(l.length:Int)==16 then(r.bad 4).bind fun r=>some (l,r)
   else(Rd.proc m {r with i:=r.i+1}).bind fun x=>(push 113 l x.1).bind fun l=>Rd.procs m n l x.2
  else r.F6.bind fun b=>if b then(r.bad 3).bind fun r=>some (l,r)else some (l,r)
def Rd.program (m:Nat) (r:Rd):Option (Pg×Rd):=(Rd.globals m m [] r).bind fun g=>(Rd.procs m m [] g.2).bind fun q=>some (⟨g.1,q.1⟩,q.2)
mutual
def Ex.beq:Ex→Ex→Bool
 | ⟨op,n,name,kids⟩,⟨Uj,n',Ed,Kn⟩=>if op != Uj || n != n' || !(name==Ed) || (kids.length:Int) != (Kn.length:Int)then false else Ex.lk kids Kn
def Ex.lk:List Ex→List Ex→Bool
 | [],_=>true
 | _::_,[]=>true
 | x::l,y::l'=>if !Ex.beq x y then false else Ex.lk l l'
end
end Go.Abs

/-! MirTree -/

namespace Go.Abs
def Ar.aT:List Ar→Nat
 | []=>0
 | a::l=>1+a.x.size+Ar.aT l
mutual
def Sm.size:Sm→Nat
 | ⟨_,_,labels,_,_,x,_,args,aZ,aQ⟩=>1+labels.length+x.size+Ar.aT args+Sm.aT aZ+Sm.aT aQ
def Sm.aT:List Sm→Nat
 | []=>0
 | s::l=>1+s.size+Sm.aT l
end
def Pc.size (f:Pc):Nat:=1+f.params.length+f.vars.length+f.fin.length+Sm.aT f.body
def Pc.aT:List Pc→Nat
 | []=>0
 | f::l=>1+f.size+Pc.aT l
def Pg.size (p:Pg):Nat:=1+p.globals.length+Pc.aT p.procs
mutual
def Sm.num (b:Bool) (n:Nat):Sm→Sm×Nat
 | ⟨id,kind,labels,name,proc,x,has,args,aZ,aQ⟩=>
  (⟨if b then((n+1:Nat):Int)else id,kind,labels,name,proc,x,has,args,(Sm.oh b (n+1) aZ).1,(Sm.oh b (Sm.oh b (n+1) aZ).2 aQ).1⟩,(Sm.oh b (Sm.oh b (n+1) aZ).2 aQ).2)
def Sm.oh (b:Bool) (n:Nat):List Sm→List Sm×Nat
 | []=>([],n)
 | s::l=>((Sm.num b n s).1::(Sm.oh b (Sm.num b n s).2 l).1,(Sm.oh b (Sm.num b n s).2 l).2)
end
def Pc.oh (n:Nat):List Pc→List Pc
 | []=> []
 | f::l=> {f with body:=(Sm.oh true n f.body).1}::Pc.oh (Sm.oh true n f.body).2 l
def Pg.number (p:Pg):Pg:= {p with procs:=Pc.oh 0 p.procs}
def Pg.Lz (p:Pg):Option Pg:=if p.size<1073741824 then some p.number else none
theorem Sm.cP : ∀ (l:List Sm),l.length≤Sm.aT l
 | []=>Nat.le_refl _
 | x::l=>by simp only [Sm.aT,List.length_cons];have:=Sm.cP l;omega
theorem Ar.cP : ∀ (l:List Ar),l.length≤Ar.aT l
 | []=>Nat.le_refl _
 | x::l=>by simp only [Ar.aT,List.length_cons];have:=Ar.cP l;omega
theorem Pc.cP : ∀ (l:List Pc),l.length≤Pc.aT l
 | []=>Nat.le_refl _
 | x::l=>by simp only [Pc.aT,List.length_cons];have:=Pc.cP l;omega
theorem Ar.b6 {x:Ar} : ∀ {l:List Ar},x∈l→x.x.size<Ar.aT l
 | y::l,h=>by
  simp only [Ar.aT]
  rcases List.mem_cons.1 h with rfl | h
  ·omega
  ·have:=Ar.b6 h;omega
theorem Sm.b6 {x:Sm} : ∀ {l:List Sm},x∈l→x.size<Sm.aT l
 | y::l,h=>by
  simp only [Sm.aT]
  rcases List.mem_cons.1 h with rfl | h
  ·omega
  ·have:=Sm.b6 h;omega
theorem Pc.b6 {x:Pc} : ∀ {l:List Pc},x∈l→x.size<Pc.aT l
 | y::l,h=>by
  simp only [Pc.aT]
  rcases List.mem_cons.1 h with rfl | h
  ·omega
  ·have:=Pc.b6 h;omega
end Go.Abs

/-! MirFlat -/

namespace Go.Abs
structure Im where
 s:Sm
 proc:Int
 up:Int
 next:Int
 loop:Int
mutual
def Sm.gk:Sm→Nat
 | ⟨_,_,_,_,_,_,_,_,aZ,aQ⟩=>1+Sm.fW aZ+Sm.fW aQ
def Sm.fW:List Sm→Nat
 | []=>0
 | s::l=>s.gk+Sm.fW l
end
mutual
def Im.one (proc up next loop:Int) (out:List Im):Sm→List Im
 | ⟨id,kind,labels,name,pc,x,has,args,aZ,aQ⟩=>
  Im.rows proc ((out.length:Int)+1) (if kind==6 then(out.length:Int)+1 else next) (if kind==6 then(out.length:Int)+1 else loop)
   (Im.rows proc ((out.length:Int)+1) (if kind==6 then(out.length:Int)+1 else next) (if kind==6 then(out.length:Int)+1 else loop) (out++ [⟨⟨id,kind,labels,name,pc,x,has,args,aZ,aQ⟩,proc,up,next,loop⟩]) aZ) aQ
def Im.rows (proc up next loop:Int) (out:List Im):List Sm→List Im
 | []=>out
 | s::l=>Im.rows proc up next loop (Im.one proc up (if l.length=0 then next else(out.length:Int)+1+(s.gk:Int)) loop out s) l
end
theorem Im.Nw (proc up next loop:Int) (out:List Im) (s:Sm):Im.one proc up next loop out s =
 Im.rows proc ((out.length:Int)+1) (if s.kind==6 then(out.length:Int)+1 else next) (if s.kind==6 then(out.length:Int)+1 else loop)
  (Im.rows proc ((out.length:Int)+1) (if s.kind==6 then(out.length:Int)+1 else next) (if s.kind==6 then(out.length:Int)+1 else loop) (out++ [⟨s,proc,up,next,loop⟩]) s.aZ) s.aQ:=by
 cases s;simp only [Im.one]
mutual
theorem LA (proc up next loop:Int) (out:List Im) : ∀ s:Sm,(Im.one proc up next loop out s).length=out.length+s.gk
 | ⟨id,kind,labels,name,pc,x,has,args,aZ,aQ⟩=>by
  simp only [Im.one,Sm.gk]
  rw [eI,eI]
  simp only [List.length_append,List.length_cons,List.length_nil];omega
theorem eI (proc up next loop:Int) (out:List Im) : ∀ l:List Sm,(Im.rows proc up next loop out l).length=out.length+Sm.fW l
 | []=>rfl
 | s::l=>by
  simp only [Im.rows,Sm.fW]
  rw [eI,LA];omega
end
mutual
theorem vd : ∀ s:Sm,s.gk≤s.size
 | ⟨_,_,labels,_,_,x,_,args,aZ,aQ⟩=>by
  have:=kS aZ;have:=kS aQ
  simp only [Sm.gk,Sm.size];omega
theorem kS : ∀ l:List Sm,Sm.fW l≤Sm.aT l
 | []=>Nat.le_refl _
 | s::l=>by
  have:=vd s;have:=kS l
  simp only [Sm.fW,Sm.aT];omega
end
structure Sh where
 L:List Im
 lo:List Int
 hi:List Int
def Sh.go (i:Nat) (h:Sh):List Pc→Sh
 | []=>h
 | f::l=>Sh.go (i+1) ⟨Im.rows i 0 (-1) 0 h.L f.body,h.lo++ [(h.L.length:Int)+1],h.hi++ [((Im.rows i 0 (-1) 0 h.L f.body).length:Int)+1]⟩ l
def Pg.dM (p:Pg):Sh:=Sh.go 0 ⟨[],[],[]⟩ p.procs
end Go.Abs

/-! Nums -/

namespace Go.Abs
def LB:Nat:=3
def F8:Nat:=4
def oI:Nat:=5
def EC:Nat:=6
def Ko:Nat:=7
def qC:Nat:=8
def j8:Nat:=9
def O6:Nat:=10
def L4:Nat:=11
def Rg:Nat:=12
def P6:Nat:=13
def L5:Nat:=14
def L6:Nat:=15
def kB:Nat:=16
def oi:Nat:=17
def j9:Nat:=18
def ka:Nat:=19
def O7:Nat:=20
def P7:Nat:=21
def O8:Nat:=22
def P8:Nat:=23
def rI:Nat:=24
def qD:Nat:=25
def fR:Nat:=26
def eo:Nat:=27
def gI:Nat:=28
def rJ:Nat:=29
def fI:Nat:=30
def kb:Nat:=31
def jP:Nat:=32
def qE:Nat:=33
def dY:Nat:=34
def kC:Nat:=35
def bE:Nat:=36
def iR:Nat:=37
def lI:Nat:=38
def oj:Nat:=39
def qF:Nat:=40
def om:Nat:=41
def jl:Nat:=42
def mq:Nat:=43
def fO:Nat:=44
def fX:Nat:=45
def mr:Nat:=46
def mw:Nat:=47
def k8:Nat:=48
def O9:Nat:=49
def Nx:Nat:=50
def P9:Nat:=51
def qG:Nat:=52
def my:Nat:=53
def gS:Nat:=54
def oU:Nat:=55
def gi:Nat:=56
def jw:Nat:=57
def jQ:Nat:=58
def gu:Nat:=59
def gj:Nat:=60
def gL:Nat:=61
def ph:Nat:=62
def eQ:Nat:=63
def kD:Nat:=64
def ei:Nat:=65
def iw:Nat:=66
def mz:Nat:=67
def v7:Nat:=68
def Kp:Nat:=69
def pj:Nat:=70
def pk:Nat:=71
def LC:Nat:=72
def iZ:Nat:=73
def mA:Nat:=74
def tp:Nat:=75
def rK:Nat:=76
def oo:Nat:=77
def ja:Nat:=78
def k9:Nat:=79
def fy:Nat:=80
def tq:Nat:=81
def vv:Nat:=82
def tr:Nat:=83
def uq:Nat:=84
def uc:Nat:=85
def qO:Nat:=86
def Hc:Nat:=87
def sH:Nat:=88
def ve:Nat:=89
def Hd:Nat:=90
def He:Nat:=91
def Kq:Nat:=92
def qH:Nat:=93
def kT:Nat:=94
def mB:Nat:=95
def oq:Nat:=96
def lC:Nat:=97
def vw:Nat:=98
def A8:Nat:=99
def BB:Nat:=100
def sI:Nat:=101
def wQ:Nat:=102
def F9:Nat:=103
def qI:Nat:=104
def qJ:Nat:=105
def wR:Nat:=106
end Go.Abs

/-! Codes0 -/

namespace Go.Abs
abbrev AI.o (t:Nat) (a:AO):AI:= .op (some t) none a
abbrev AI.g (t c:Nat) (b:Bool) (a:AO):AI:= .op (some t) (some (c,b)) a
abbrev AI.c (t f:Nat) (l:List X):AI:= .call (some t) none f l
abbrev AI.d (t c:Nat) (b:Bool) (f:Nat) (l:List X):AI:= .call (some t) (some (c,b)) f l
abbrev AI.m (t:Nat) (x:X):AI:= .op (some t) none (.mv x)
abbrev bU:X:= .s 0
abbrev bt:X:= .s 1
abbrev dC:X:= .s 2
abbrev cT:X:= .s 3
abbrev dZ:X:= .s 4
abbrev bW:X:= .s 5
abbrev da:X:= .s 6
abbrev ct:X:= .s 7
abbrev dd:X:= .s 8
abbrev dN:X:= .s 9
abbrev cQ:X:= .s 10
abbrev cO:X:= .s 11
abbrev cH:X:= .s 12
abbrev de:X:= .s 13
abbrev cY:X:= .s 14
abbrev dH:X:= .s 15
abbrev cR:X:= .s 16
abbrev dD:X:= .s 17
abbrev dO:X:= .s 18
abbrev ep:X:= .s 19
abbrev er:X:= .s 20
abbrev ew:X:= .s 21
abbrev eJ:X:= .s 22
abbrev ey:X:= .s 23
abbrev fv:X:= .s 24
abbrev fk:X:= .s 25
abbrev fP:X:= .s 26
abbrev fK:X:= .s 27
abbrev gB:X:= .s 28
abbrev gv:X:= .s 29
abbrev iE:X:= .s 30
abbrev gw:X:= .s 31
abbrev il:X:= .s 32
abbrev gM:X:= .s 33
abbrev jx:X:= .s 34
abbrev iF:X:= .s 35
abbrev jy:X:= .s 36
abbrev kn:X:= .s 37
abbrev ll:X:= .s 38
abbrev ko:X:= .s 39
abbrev lP:X:= .s 40
abbrev ln:X:= .s 41
abbrev mC:X:= .s 42
abbrev nk:X:= .s 43
abbrev nn:X:= .s 44
abbrev ou:X:= .s 45
abbrev ov:X:= .s 46
abbrev ow:X:= .s 47
abbrev ox:X:= .s 48
abbrev np:X:= .s 49
abbrev oy:X:= .s 50
abbrev mD:X:= .s 51
abbrev oz:X:= .s 52
abbrev oA:X:= .s 53
abbrev oB:X:= .s 54
abbrev po:X:= .s 55
abbrev pw:X:= .s 56
abbrev px:X:= .s 57
abbrev py:X:= .s 58
abbrev mE:X:= .s 59
abbrev rL:X:= .s 60
abbrev vf:X:= .s 61
abbrev tt:X:= .s 62
abbrev vg:X:= .s 63
abbrev rM:X:= .s 64
abbrev xb:X:= .s 65
abbrev Aj:X:= .s 66
abbrev xc:X:= .s 67
abbrev xd:X:= .s 68
abbrev Ak:X:= .s 69
abbrev Al:X:= .s 70
abbrev IN:X:= .s 71
abbrev Ee:X:= .s 72
abbrev IP:X:= .s 73
abbrev IQ:X:= .s 74
abbrev IS:X:= .s 75
abbrev Ef:X:= .s 76
abbrev IT:X:= .s 77
abbrev Am:X:= .s 78
abbrev Ny:X:= .s 79
abbrev Nz:X:= .s 80
abbrev NA:X:= .s 81
abbrev NB:X:= .s 82
abbrev NC:X:= .s 83
abbrev ND:X:= .s 84
abbrev NF:X:= .s 85
abbrev NG:X:= .s 86
abbrev NH:X:= .s 87
abbrev NK:X:= .s 88
abbrev NL:X:= .s 89
abbrev NM:X:= .s 90
abbrev NN:X:= .s 91
abbrev NO:X:= .s 92
abbrev Sq:X:= .s 93
abbrev Sr:X:= .s 94
abbrev Ss:X:= .s 95
abbrev Uk:AC:= .cond dd (.seq (.run [.o 2 (.mv (.k (.bool false)))]) .ret) .skip
abbrev Ul:AC:= .cond cO (.seq (.run [.o 2 (.mv (.k (.bool true)))]) .ret) .skip
abbrev Um:AC:= .seq (.run [.o 16 (.load bt true 2), .c 17 ka [cR],(.o 18 (.build [(.int .i64 0),(.int .i64 0)] [(0,(1,(.k (.int .i64 1))))])), .o 19 (.eqs false [0,0] dD dO), .m 2 ep]) .ret
abbrev Un:AC:= .cond jy (.seq (.run [.o 2 (.mv (.k (.bool true)))]) .ret) .skip
abbrev Uo:AC:= .seq (.block 3 (.seq (.run [.o 33 (.bV gv gw 6), .o 34 (.load gM true 6), .o 6 (.alloc [(.bool false),(.str []),(.int .i64 0),(.int .i64 0),(.str []),(.slice .full 0 [])]), .op none none (.store da jx 6)]) (.seq (.run [.o 35 (.aC da 0), .o 36 (.load iF false 1)]) Un))) (.run [.o 37 (.bin .add gw (.k (.int .i64 1))), .m 31 kn])
abbrev Up:AC:= .block 2 (.loop (.seq (.run [.o 32 (.bin .lss gw iE)]) (.seq (.cond il .skip (.exit 2)) Uo)))
abbrev Uq:AC:= .seq (.run [.o 25 (.bV ew ey 16), .o 26 (.load fk true 16), .o 4 (.alloc [(.int .i64 0),(.int .i64 0),(.slice .full 0 []),(.str []),(.str []),(.int .i64 0),(.int .i64 0),(.str []),(.slice .full 0 []),(.bool false),(.slice .full 0 []),(.slice .full 0 []),(.slice .full 0 []),(.int .i64 0),(.int .i64 0),(.bool false)]), .op none none (.store dZ fP 16)]) (.seq (.run [.o 27 (.aC dZ 0), .o 28 (.aC fK 10), .o 29 (.load gB false 1), .o 30 (.len gv), .o 31 (.mv (.k (.int .i64 0)))]) Up)
abbrev Ur:AC:= .seq (.cond fv .skip (.exit 0)) (.seq (.block 1 Uq) (.run [.o 38 (.bin .add ey (.k (.int .i64 1))), .m 23 ll]))
abbrev Us:AC:= .seq (.run [.o 20 (.load bt true 2), .c 21 rI [er], .o 22 (.len ew), .o 23 (.mv (.k (.int .i64 0)))]) (.block 0 (.loop (.seq (.run [.o 24 (.bin .lss ey eJ)]) Ur)))
abbrev Ut:AC:= .seq Us (.seq (.run [.o 39 (.load bt true 2), .c 40 ka [ko], .o 41 (.se lP 0 false 1), .o 42 (.bin .eql ln (.k (.int .i64 0))), .m 2 mC]) .ret)
abbrev Uu:AC:= .seq (.seq (.run [.o 12 (.load bt true 2), .c 13 j9 [cH], .o 14 (.se de 0 false 1), .o 15 (.bin .neq cY (.k (.int .i64 0)))]) (.cond dH Um .skip)) Ut
abbrev Uv:AC:= .seq (.run [.o 1 (.box bU), .o 2 (.mv (.k (.bool false)))]) (.seq (.seq (.run [.c 7 oi [], .o 8 (.un .not ct)]) Uk) (.seq (.seq (.run [.o 9 (.load bt true 2), .c 10 qC [dN], .o 11 (.un .not cQ)]) Ul) Uu))
abbrev Uw:AC:= .par [.o 26 (.aC bW 4), .o 27 (.load fP false 1), .o 28 (.aC bW 2), .o 29 (.load gB false 1), .o 30 (.aC bW 0), .o 31 (.load iE false 1), .m 32 cT, .c 33 eo [gw,il], .c 34 fR [gv,gM], .c 35 fR [fK,jx], .m 3 iF] [(4,0),(5,0),(6,0),(7,0),(2,0),(3,1),(8,0),(0,0),(1,2),(9,0),(10,0)]
abbrev Ux:AC:= .seq (.seq (.run [.m 36 da, .o 37 (.aC bW 1), .o 38 (.load kn false 1), .o 39 (.len ll), .o 40 (.bin .lss jy ko), .m 41 lP, .g 42 41 true (.mv cT), .g 43 41 true (.bin .leq mC (.k (.int .i64 20000))), .o 44 (.pick ln nk (.k (.bool false)))]) (.cond nn .skip (.exit 2))) (.seq (.block 3 (.run [.o 47 (.aC bW 1), .o 48 (.load ow false 1), .m 49 da, .o 50 (.bV ox np 2), .o 51 (.aC oy 0), .o 52 (.load mD false 1), .m 53 cT, .c 54 eo [oz,oA], .m 3 oB])) (.run [.m 45 da, .o 46 (.bin .add ou (.k (.int .i64 1))), .m 6 ov]))
abbrev Uy:AC:= .seq (.seq (.run [.o 6 (.mv (.k (.int .i64 0)))]) (.block 2 (.loop Ux))) (.run [.o 55 (.aC bW 3), .o 56 (.load po false 1), .m 57 cT, .c 58 gI [pw,px], .m 3 py])
abbrev Uz:AC:= .seq (.block 1 (.seq (.run [.o 21 (.aC bt 1), .o 22 (.load ew false 1), .m 23 dZ, .o 24 (.bV eJ ey 5), .o 25 (.load fv true 5), .o 5 (.alloc [(.str []),(.slice .full 0 []),(.slice .full 0 []),(.slice .full 0 []),(.slice .full 0 [])]), .op none none (.store bW fk 5)]) (.seq Uw Uy))) (.run [.m 19 dZ, .o 20 (.bin .add ep (.k (.int .i64 1))), .m 4 er])
abbrev UA:AC:= .seq (.seq (.run [.m 10 dZ, .o 11 (.aC bt 1), .o 12 (.load cO false 1), .o 13 (.len cH), .o 14 (.bin .lss cQ de), .m 15 cY, .g 16 15 true (.mv cT), .g 17 15 true (.bin .leq cR (.k (.int .i64 20000))), .o 18 (.pick dH dD (.k (.bool false)))]) (.cond dO .skip (.exit 0))) Uz
abbrev UB:AC:= .seq (.seq (.run [.o 4 (.mv (.k (.int .i64 0)))]) (.block 0 (.loop UA))) (.seq (.run [.m 59 cT, .o 60 (.bin .leq mE (.k (.int .i64 20000))), .m 2 rL]) .ret)
abbrev UC:AC:= .seq (.run [.o 1 (.box bU), .o 2 (.mv (.k (.bool false)))]) (.seq (.run [.o 7 (.aC bt 0), .o 8 (.load ct false 1), .c 9 fR [dd,(.k (.int .i64 0))], .m 3 dN]) UB)
abbrev UD:AC:= .seq (.run [(.o 16 (.build [(.int .i64 0),(.int .i64 0)] [(0,(1,(.k (.int .i64 1))))])), .op none none (.store dC cR 2)]) .ret
abbrev UE:AC:= .seq (.block 1 (.seq (.run [.o 22 (.bV dO er 5), .o 23 (.load eJ true 5), .o 5 (.alloc [(.str []),(.slice .full 0 []),(.slice .full 0 []),(.slice .full 0 []),(.slice .full 0 [])]), .op none none (.store bW ey 5)]) (.run [.m 24 cT, .o 25 (.aC bW 0), .o 26 (.load fk false 1), .o 27 (.dc [(.str [])] 1 1 [(0,fP)]), .o 28 (.app 1 16 fv fK), .m 3 gB]))) (.run [.o 29 (.bin .add er (.k (.int .i64 1))), .m 20 gv])
abbrev UF:AC:= .block 0 (.loop (.seq (.run [.o 21 (.bin .lss er ep)]) (.seq (.cond ew .skip (.exit 0)) UE)))
abbrev UG:AC:= .seq (.run [(.o 53 (.build [(.int .i64 0),(.int .i64 0)] [(0,(1,(.k (.int .i64 5))))])), .op none none (.store dC oA 2)]) .ret
abbrev UH:AC:= .seq (.run [(.o 73 (.build [(.int .i64 0),(.int .i64 0)] [(0,(1,(.k (.int .i64 5))))])), .op none none (.store dC IP 2)]) .ret
abbrev UI:AC:= .seq (.run [.o 89 (.aC cH 0), .o 90 (.aC NL 0), .o 91 (.load NM false 1),(.o 92 (.build [(.int .i64 0),(.int .i64 0)] [(0,(1,(.k (.int .i64 5)))),(1,(1,NN))])), .op none none (.store dC NO 2)]) .ret
abbrev UJ:AC:= .seq (.block 5 (.seq (.run [.o 80 (.bV Ef Am 17), .o 81 (.load Nz true 17), .o 12 (.alloc [(.int .i64 0),(.int .i64 0),(.slice .full 0 []),(.str []),(.str []),(.int .i64 0),(.int .i64 0),(.str []),(.slice .full 0 []),(.bool false),(.slice .full 0 []),(.slice .full 0 []),(.slice .full 0 []),(.int .i64 0),(.int .i64 0),(.int .i64 0),(.int .i64 0)]), .op none none (.store cH NA 17)]) (.seq (.run [.o 82 (.load bt true 2), .o 83 (.load dN true 5), .m 84 cT, .o 85 (.aC cH 0), .o 86 (.load NF true 13), .c 87 lI [NB,NC,ND,NG], .o 88 (.un .not NH)]) (.cond NK UI .skip)))) (.run [.o 93 (.bin .add Am (.k (.int .i64 1))), .m 78 Sq])
abbrev UK:AC:= .block 4 (.loop (.seq (.run [.o 79 (.bin .lss Am IT)]) (.seq (.cond Ny .skip (.exit 4)) UJ)))
abbrev UL:AC:= .seq (.seq (.run [.m 66 cQ, .c 67 kb [Aj], .m 68 xc, .g 69 68 false (.mv cQ), .g 70 68 false (.oL 35 [bt]), .d 71 68 false dY [Ak,Al], .o 72 (.pick xd (.k (.bool true)) IN)]) (.cond Ee UH .skip)) (.seq (.run [.m 74 ct, .m 75 dd, .c 76 iR [IQ,IS], .o 77 (.len Ef), .o 78 (.mv (.k (.int .i64 0)))]) UK)
abbrev UM:AC:= .seq (.block 3 (.seq (.run [.m 61 mE, .o 62 (.bV px mE 5), .o 63 (.load tt true 5), .o 9 (.alloc [(.str []),(.slice .full 0 []),(.slice .full 0 []),(.slice .full 0 []),(.slice .full 0 [])]), .m 8 vf, .op none none (.store dN vg 5)]) (.seq (.run [.o 64 (.load dN true 5), .c 65 qE [rM], .m 10 xb]) UL))) (.run [.o 94 (.bin .add mE (.k (.int .i64 1))), .m 59 Sr])
abbrev UN:AC:= .block 2 (.loop (.seq (.run [.o 60 (.bin .lss mE py)]) (.seq (.cond rL .skip (.exit 2)) UM)))
abbrev UO:AC:= .seq (.seq (.run [.o 56 (.aC bt 1), .o 57 (.load pw false 1), .o 58 (.len px), .o 59 (.mv (.k (.int .i64 0)))]) UN) (.seq (.run [.o 95 (.build [(.int .i64 0),(.int .i64 0)] []), .op none none (.store dC Ss 2)]) .ret)
abbrev UP:AC:= .seq (.seq (.run [.o 32 (.aC bt 0), .o 33 (.load il false 1), .c 34 kb [gM], .m 35 jx, .g 36 35 false (.mv cT), .d 37 35 false kb [jy], .o 38 (.pick iF (.k (.bool true)) kn), .m 39 ll, .g 40 39 false (.mv da), .g 41 39 false (.bin .lss lP (.k (.int .i64 0))), .o 42 (.pick ko (.k (.bool true)) ln), .m 43 mC, .g 44 43 false (.aC bt 1), .g 45 43 false (.load nn false 1), .g 46 43 false (.mv da), .g 47 43 false (.bV ou ov 5), .g 48 43 false (.aC ow 1), .g 49 43 false (.load ox false 1), .g 50 43 false (.len np), .g 51 43 false (.bin .gtr oy (.k (.int .i64 0))), .o 52 (.pick nk (.k (.bool true)) mD)]) (.cond oz UG .skip)) (.seq (.run [.o 54 (.load bt true 2), .c 55 jP [oB], .m 7 po]) UO)
abbrev UQ:AC:= .seq (.seq (.run [.o 17 (.aC bt 1), .o 18 (.load dD false 1), .o 19 (.len dO), .o 20 (.mv (.k (.int .i64 0)))]) UF) (.seq (.run [.m 30 cT,(.c 31 fI [iE,(.k (.str [109,97,105,110]))]), .m 6 gw]) UP)
abbrev UR:AC:= .seq (.seq (.run [.o 13 (.load bt true 2), .c 14 rJ [de], .o 15 (.un .not cY)]) (.cond dH UD .skip)) (.seq (.run [.o 3 (.mv (.k (.slice .full 0 [])))]) UQ)
abbrev US:AC:= .seq (.run [.o 1 (.box bU), .o 2 (.alloc [(.int .i64 0),(.int .i64 0)])]) UR
abbrev UT:AC:= .cond cR (.seq (.run [.o 4 (.mv (.k (.slice .full 0 [])))]) .ret) .skip
abbrev UU:AC:= .seq (.run [.o 43 (.bV ko ln 1), .o 44 (.load nk false 1), .m 12 nn]) (.seq (.run [.o 45 (.aC dC 0), .o 46 (.load ou false 1), .m 47 cH, .c 48 bE [ov,ow]]) (.cond ox (.run [.m 49 da, .m 50 cH, .o 51 (.dc [(.str [])] 1 1 [(0,oy)]), .o 52 (.app 1 16 np mD), .m 6 oz]) .skip))
abbrev UW:AC:= .seq (.cond mC .skip (.exit 4)) (.seq (.block 5 UU) (.run [.o 53 (.bin .add ln (.k (.int .i64 1))), .m 41 oA]))
abbrev UX:AC:= .seq (.run [.o 37 (.aC cQ 0), .o 38 (.load kn true 13), .c 39 mq [ll], .o 40 (.len ko), .o 41 (.mv (.k (.int .i64 0)))]) (.block 4 (.loop (.seq (.run [.o 42 (.bin .lss ln lP)]) UW)))
abbrev UY:AC:= .seq (.block 3 (.seq (.run [.o 35 (.bV gw gM 17), .o 36 (.load iF true 17), .o 10 (.alloc [(.int .i64 0),(.int .i64 0),(.slice .full 0 []),(.str []),(.str []),(.int .i64 0),(.int .i64 0),(.str []),(.slice .full 0 []),(.bool false),(.slice .full 0 []),(.slice .full 0 []),(.slice .full 0 []),(.int .i64 0),(.int .i64 0),(.int .i64 0),(.int .i64 0)]), .op none none (.store cQ jy 17)]) UX)) (.run [.o 54 (.bin .add gM (.k (.int .i64 1))), .m 33 oB])
abbrev UZ:AC:= .block 2 (.loop (.seq (.run [.o 34 (.bin .lss gM il)]) (.seq (.cond jx .skip (.exit 2)) UY)))
abbrev U0:AC:= .seq (.run [.o 25 (.bV ew ey 1), .o 26 (.load fk false 1), .m 8 fP]) (.seq (.run [.m 27 bW, .m 28 bW, .m 29 dd, .c 30 jl [gB,gv], .c 31 iR [fK,iE], .o 32 (.len gw), .o 33 (.mv (.k (.int .i64 0)))]) UZ)
abbrev U1:AC:= .seq (.cond fv .skip (.exit 0)) (.seq (.block 1 U0) (.run [.o 55 (.bin .add ey (.k (.int .i64 1))), .m 23 po]))
abbrev U2:AC:= .seq (.run [.m 19 bW, .m 20 bt, .c 21 qF [ep,er], .o 22 (.len ew), .o 23 (.mv (.k (.int .i64 0)))]) (.block 0 (.loop (.seq (.run [.o 24 (.bin .lss ey eJ)]) U1)))
abbrev U3:AC:= .seq (.run [.o 17 (.load dC true 2), .c 18 jP [dD], .m 5 dO]) (.seq (.run [.o 6 (.mv (.k (.slice .full 0 [])))]) (.seq U2 (.seq (.run [.m 56 da, .c 57 fO [pw]]) (.seq (.run [.m 58 da, .c 59 fX [py], .m 4 mE]) .ret))))
abbrev U4:AC:= .seq (.run [.o 2 (.box bU), .o 4 (.mv (.k (.slice .full 0 [])))]) (.seq (.seq (.run [.o 13 (.load dC true 2), .m 14 bt, .c 15 oj [de,cY], .o 16 (.un .not dH)]) UT) U3)
abbrev U5:AC:= .seq (.run [.o 14 (.load bt true 2), .o 15 (.load dC true 13), .c 16 mr [cY,dH], .m 17 cR, .g 18 17 true (.load bt true 2), .g 19 17 true (.load cT true 13), .d 20 17 true mr [dO,ep], .g 21 17 true (.un .not er), .o 22 (.pick dD ew (.k (.bool false))), .m 23 eJ, .g 24 23 true (.build [(.slice .full 0 []),(.slice .full 0 [])] []), .d 25 23 true ka [fv],(.g 26 23 true (.build [(.int .i64 0),(.int .i64 0)] [(0,(1,(.k (.int .i64 1))))])), .g 27 23 true (.eqs false [0,0] fk fP), .o 28 (.pick ey fK (.k (.bool false))), .m 0 gB]) .ret
abbrev U6:AC:= .seq (.run [.o 12 (.load dC true 13), .o 3 (.alloc [(.int .i64 0),(.int .i64 0),(.slice .full 0 []),(.str []),(.str []),(.int .i64 0),(.int .i64 0),(.str []),(.slice .full 0 []),(.bool false),(.slice .full 0 []),(.slice .full 0 []),(.slice .full 0 [])]), .op none none (.store cT cH 13)]) (.seq (.run [.o 13 (.aC cT 3), .op none none (.store de (.k (.str [118])) 1)]) U5)
abbrev U7:AC:= .seq (.run [.c 4 qD [], .o 1 (.alloc [(.slice .full 0 []),(.slice .full 0 [])]), .op none none (.store bt dZ 2)]) (.seq (.run [.o 5 (.aC bt 1), .o 6 (.load bW false 1), .o 7 (.bV da (.k (.int .i64 0)) 5), .o 8 (.aC ct 3), .o 9 (.load dd false 1), .o 10 (.bV dN (.k (.int .i64 1)) 13), .o 11 (.load cQ true 13), .o 2 (.alloc [(.int .i64 0),(.int .i64 0),(.slice .full 0 []),(.str []),(.str []),(.int .i64 0),(.int .i64 0),(.str []),(.slice .full 0 []),(.bool false),(.slice .full 0 []),(.slice .full 0 []),(.slice .full 0 [])]), .op none none (.store dC cO 13)]) U6)
abbrev U8:AC:= .seq (.run [.o 0 (.mv (.k (.bool false)))]) U7
abbrev U9:AC:= .seq (.run [(.o 9 (.build [(.int .i64 0),(.int .i64 0)] [(0,(1,(.k (.int .i64 1))))])), .op none none (.store dC dN 2)]) .ret
abbrev Va:AC:= .seq (.run [.o 31 (.aC dZ 0), .o 32 (.aC gw 0), .o 33 (.load il false 1),(.o 34 (.build [(.int .i64 0),(.int .i64 0)] [(0,(1,(.k (.int .i64 6)))),(1,(1,gM))])), .op none none (.store dC jx 2)]) .ret
abbrev Vb:AC:= .seq (.run [.o 18 (.bV cY cR 17), .o 19 (.load dO true 17), .o 4 (.alloc [(.int .i64 0),(.int .i64 0),(.slice .full 0 []),(.str []),(.str []),(.int .i64 0),(.int .i64 0),(.str []),(.slice .full 0 []),(.bool false),(.slice .full 0 []),(.slice .full 0 []),(.slice .full 0 []),(.int .i64 0),(.int .i64 0),(.int .i64 0),(.int .i64 0)]), .op none none (.store dZ ep 17)]) (.seq (.run [.o 20 (.aC dZ 0), .o 21 (.aC er 1), .o 22 (.load ew false 1), .o 23 (.bin .eql eJ (.k (.int .i64 4))), .m 24 ey, .g 25 24 true (.load bt true 2), .g 26 24 true (.aC dZ 0), .g 27 24 true (.load fP true 13), .d 28 24 true mw [fk,fK], .g 29 24 true (.un .not gB), .o 30 (.pick fv gv (.k (.bool false)))]) (.cond iE Va .skip))
abbrev Vc:AC:= .seq (.cond dD .skip (.exit 0)) (.seq (.block 1 Vb) (.run [.o 35 (.bin .add cR (.k (.int .i64 1))), .m 16 iF]))
abbrev Vd:AC:= .seq (.run [.o 10 (.load bt true 2), .c 11 jP [cQ], .o 12 (.fJ cO), .o 13 (.aC cH 2), .o 14 (.load de false 1), .o 15 (.len cY), .o 16 (.mv (.k (.int .i64 0)))]) (.block 0 (.loop (.seq (.run [.o 17 (.bin .lss cR dH)]) Vc)))
abbrev Ve:AC:= .seq (.seq (.run [.o 5 (.load bt true 2), .c 6 j8 [bW], .o 7 (.se da 0 false 1), .o 8 (.bin .neq ct (.k (.int .i64 0)))]) (.cond dd U9 .skip)) (.seq Vd (.seq (.run [.o 36 (.build [(.int .i64 0),(.int .i64 0)] []), .op none none (.store dC jy 2)]) .ret))
abbrev Vf:AC:= .seq (.run [.o 1 (.box bU), .o 2 (.alloc [(.int .i64 0),(.int .i64 0)])]) Ve
abbrev Vg:AC:= .seq (.run [(.o 12 (.build [(.int .i64 0),(.int .i64 0)] [(0,(1,(.k (.int .i64 1))))])), .op none none (.store dC cH 2)]) .ret
abbrev Vh:AC:= .par [.m 21 cT, .o 22 (.aC bW 0), .o 23 (.load eJ false 1), .o 24 (.load bt true 2), .o 25 (.aC bW 0), .o 26 (.load fk false 1), .c 27 kB [fv,fP], .op none none (.rq ew ey fK)] [(3,0),(4,0),(5,0),(6,0),(0,0),(1,0),(2,1),(7,0)]
abbrev Vi:AC:= .seq (.block 1 (.seq (.run [.o 19 (.bV dH dD 5), .o 20 (.load ep true 5), .o 5 (.alloc [(.str []),(.slice .full 0 []),(.slice .full 0 []),(.slice .full 0 []),(.slice .full 0 [])]), .op none none (.store bW er 5)]) Vh)) (.run [.o 28 (.bin .add dD (.k (.int .i64 1))), .m 17 gB])
abbrev Vj:AC:= .block 0 (.loop (.seq (.run [.o 18 (.bin .lss dD cR)]) (.seq (.cond dO .skip (.exit 0)) Vi)))
abbrev Vk:AC:= .seq (.run [.o 54 (.aC ct 0), .o 55 (.aC oB 0), .o 56 (.load po false 1),(.o 57 (.build [(.int .i64 0),(.int .i64 0)] [(0,(1,(.k (.int .i64 8)))),(1,(1,pw))])), .op none none (.store dC px 2)]) .ret
abbrev Vl:AC:= .seq (.run [.o 37 (.bV gM iF 17), .o 38 (.load kn true 17), .o 7 (.alloc [(.int .i64 0),(.int .i64 0),(.slice .full 0 []),(.str []),(.str []),(.int .i64 0),(.int .i64 0),(.str []),(.slice .full 0 []),(.bool false),(.slice .full 0 []),(.slice .full 0 []),(.slice .full 0 []),(.int .i64 0),(.int .i64 0),(.int .i64 0),(.int .i64 0)]), .op none none (.store ct ll 17)]) (.seq (.run [.o 39 (.aC ct 0), .o 40 (.aC ko 1), .o 41 (.load lP false 1), .o 42 (.bin .eql ln (.k (.int .i64 4))), .m 43 mC, .g 44 43 true (.aC ct 0), .g 45 43 true (.load nn true 13), .g 46 43 true (.mv cT), .g 47 43 true (.aC ct 0), .g 48 43 true (.aC ow 4), .g 49 43 true (.load ox false 1), .g 50 43 true (.pL ov np (.slice .full 0 [])), .d 51 43 true k8 [ou,oy], .g 52 43 true (.un .not mD), .o 53 (.pick nk oz (.k (.bool false)))]) (.cond oA Vk .skip))
abbrev Vm:AC:= .seq (.cond jy .skip (.exit 2)) (.seq (.block 3 Vl) (.run [.o 58 (.bin .add iF (.k (.int .i64 1))), .m 35 py]))
abbrev Vn:AC:= .seq (.run [.o 29 (.load bt true 2), .c 30 jP [gv], .o 31 (.fJ iE), .o 32 (.aC gw 2), .o 33 (.load il false 1), .o 34 (.len gM), .o 35 (.mv (.k (.int .i64 0)))]) (.block 2 (.loop (.seq (.run [.o 36 (.bin .lss iF jx)]) Vm)))
abbrev Vo:AC:= .seq (.seq (.run [.o 14 (.aC bt 1), .o 15 (.load cY false 1), .o 16 (.len dH), .o 17 (.mv (.k (.int .i64 0)))]) Vj) (.seq Vn (.seq (.run [.o 59 (.build [(.int .i64 0),(.int .i64 0)] []), .op none none (.store dC mE 2)]) .ret))
abbrev Vp:AC:= .seq (.seq (.run [.o 8 (.load bt true 2), .c 9 j9 [dd], .o 10 (.se dN 0 false 1), .o 11 (.bin .neq cQ (.k (.int .i64 0)))]) (.cond cO Vg .skip)) (.seq (.run [.op (some 13) none .oM, .m 3 de]) Vo)
abbrev Vq:AC:= .seq (.run [.o 1 (.box bU), .o 2 (.alloc [(.int .i64 0),(.int .i64 0)])]) Vp
abbrev Vr:AC:= .seq (.run [.m 13 cT, .o 14 (.load bW true 5), .c 15 qG [cY], .o 16 (.app 16 232 de dH), .m 3 cR]) (.seq (.run [.m 17 cT, .o 18 (.len dD), .o 19 (.bin .gtr dO (.k (.int .i64 200)))]) (.cond ep (.seq (.run [.m 20 cT, .m 2 er]) .ret) .skip))
abbrev Vs:AC:= .seq (.block 1 (.seq (.run [.o 11 (.bV ct dN 5), .o 12 (.load cO true 5), .o 5 (.alloc [(.str []),(.slice .full 0 []),(.slice .full 0 []),(.slice .full 0 []),(.slice .full 0 [])]), .op none none (.store bW cH 5)]) Vr)) (.run [.o 21 (.bin .add dN (.k (.int .i64 1))), .m 9 ew])
abbrev Vt:AC:= .block 0 (.loop (.seq (.run [.o 10 (.bin .lss dN dd)]) (.seq (.cond cQ .skip (.exit 0)) Vs)))
abbrev Vu:AC:= .seq (.seq (.run [.o 6 (.aC bt 1), .o 7 (.load da false 1), .o 8 (.len ct), .o 9 (.mv (.k (.int .i64 0)))]) Vt) (.seq (.run [.m 22 cT, .m 2 eJ]) .ret)
abbrev Vv:AC:= .seq (.run [.o 1 (.box bU), .o 2 (.mv (.k (.slice .full 0 [])))]) (.seq (.run [.o 3 (.mv (.k (.slice .full 0 [])))]) Vu)
abbrev Vw:AC:= .run [(.o 3 (.dc [(.str [])] 1 1 [(0,(.k (.str [118])))])), .c 4 my [(.k (.int .i64 2))],(.o 5 (.build [(.int .i64 0),(.int .i64 0),(.slice .full 0 []),(.str []),(.str []),(.int .i64 0),(.int .i64 0),(.str []),(.slice .full 0 []),(.bool false),(.slice .full 0 []),(.slice .full 0 []),(.slice .full 0 [])] [(0,(1,(.k (.int .i64 1)))),(1,(1,(.k (.int .i64 1)))),(3,(1,(.k (.str [118])))),(5,(4,dZ))])), .c 6 my [(.k (.int .i64 3))], .o 7 (.build [(.bool false),(.str []),(.int .i64 0),(.int .i64 0),(.str []),(.slice .full 0 [])] [(2,(4,da))]),(.o 8 (.build [(.bool false),(.str []),(.int .i64 0),(.int .i64 0),(.str []),(.slice .full 0 [])] [(0,(1,(.k (.bool true)))),(1,(1,(.k (.str [118]))))])), .o 9 (.dc [(.bool false),(.str []),(.int .i64 0),(.int .i64 0),(.str []),(.slice .full 0 [])] 6 2 [(0,ct),(1,dd)]),(.o 10 (.build [(.int .i64 0),(.int .i64 0),(.slice .full 0 []),(.str []),(.str []),(.int .i64 0),(.int .i64 0),(.str []),(.slice .full 0 []),(.bool false),(.slice .full 0 []),(.slice .full 0 []),(.slice .full 0 [])] [(0,(1,(.k (.int .i64 2)))),(1,(1,(.k (.int .i64 4)))),(3,(1,(.k (.str [103])))),(4,(1,(.k (.str [112])))),(10,(1,dN))])),(.c 11 gS [(.k (.str [118]))]),(.o 12 (.build [(.int .i64 0),(.int .i64 0),(.slice .full 0 []),(.str []),(.str []),(.int .i64 0),(.int .i64 0),(.str []),(.slice .full 0 []),(.bool false),(.slice .full 0 []),(.slice .full 0 []),(.slice .full 0 [])] [(0,(1,(.k (.int .i64 3)))),(1,(1,(.k (.int .i64 3)))),(5,(4,cO))])),(.c 13 gS [(.k (.str [103]))]),(.o 14 (.build [(.int .i64 0),(.int .i64 0),(.slice .full 0 []),(.str []),(.str []),(.int .i64 0),(.int .i64 0),(.str []),(.slice .full 0 []),(.bool false),(.slice .full 0 []),(.slice .full 0 []),(.slice .full 0 [])] [(0,(1,(.k (.int .i64 4)))),(1,(1,(.k (.int .i64 3)))),(5,(4,de))])), .o 15 (.dc [(.int .i64 0),(.int .i64 0),(.slice .full 0 []),(.str []),(.str []),(.int .i64 0),(.int .i64 0),(.str []),(.slice .full 0 []),(.bool false),(.slice .full 0 []),(.slice .full 0 []),(.slice .full 0 [])] 13 4 [(0,bW),(1,cQ),(2,cH),(3,cY)]),(.o 16 (.build [(.str []),(.slice .full 0 []),(.slice .full 0 []),(.slice .full 0 []),(.slice .full 0 [])] [(0,(1,(.k (.str [109,97,105,110])))),(2,(1,cT)),(3,(1,dH))])), .o 1 (.alloc [(.str []),(.slice .full 0 []),(.slice .full 0 []),(.slice .full 0 []),(.slice .full 0 [])]), .op none none (.store bt cR 5)]
abbrev Vx:AC:= .run [(.o 17 (.build [(.str []),(.bool false)] [(0,(1,(.k (.str [120]))))])),(.o 18 (.build [(.str []),(.bool false)] [(0,(1,(.k (.str [121])))),(1,(1,(.k (.bool true))))])), .o 19 (.dc [(.str []),(.bool false)] 2 2 [(0,dD),(1,dO)]),(.o 20 (.dc [(.str [])] 1 1 [(0,(.k (.str [101])))])),(.c 21 gS [(.k (.str [121]))]),(.c 22 gS [(.k (.str [120]))]), .c 23 oU [(.k (.int .i64 8)),ew,eJ],(.o 24 (.build [(.int .i64 0),(.int .i64 0),(.slice .full 0 []),(.str []),(.str []),(.int .i64 0),(.int .i64 0),(.str []),(.slice .full 0 []),(.bool false),(.slice .full 0 []),(.slice .full 0 []),(.slice .full 0 [])] [(0,(1,(.k (.int .i64 5)))),(1,(1,(.k (.int .i64 1)))),(3,(1,(.k (.str [121])))),(5,(4,ey))])),(.c 25 gS [(.k (.str [121]))]), .c 26 my [(.k (.int .i64 9))], .c 27 oU [(.k (.int .i64 12)),fk,fP],(.o 28 (.build [(.int .i64 0),(.int .i64 0),(.slice .full 0 []),(.str []),(.str []),(.int .i64 0),(.int .i64 0),(.str []),(.slice .full 0 []),(.bool false),(.slice .full 0 []),(.slice .full 0 []),(.slice .full 0 [])] [(0,(1,(.k (.int .i64 7)))),(1,(1,(.k (.int .i64 10)))),(3,(1,(.k (.str [101]))))])), .o 29 (.dc [(.int .i64 0),(.int .i64 0),(.slice .full 0 []),(.str []),(.str []),(.int .i64 0),(.int .i64 0),(.str []),(.slice .full 0 []),(.bool false),(.slice .full 0 []),(.slice .full 0 []),(.slice .full 0 [])] 13 1 [(0,gB)]),(.o 30 (.build [(.int .i64 0),(.int .i64 0),(.slice .full 0 []),(.str []),(.str []),(.int .i64 0),(.int .i64 0),(.str []),(.slice .full 0 []),(.bool false),(.slice .full 0 []),(.slice .full 0 []),(.slice .full 0 [])] [(0,(1,(.k (.int .i64 6)))),(1,(1,(.k (.int .i64 5)))),(5,(4,fK)),(11,(1,gv))])),(.c 31 gS [(.k (.str [121]))]),(.o 32 (.build [(.int .i64 0),(.int .i64 0),(.slice .full 0 []),(.str []),(.str []),(.int .i64 0),(.int .i64 0),(.str []),(.slice .full 0 []),(.bool false),(.slice .full 0 []),(.slice .full 0 []),(.slice .full 0 [])] [(0,(1,(.k (.int .i64 8)))),(1,(1,(.k (.int .i64 9)))),(9,(1,(.k (.bool true)))),(5,(4,gw))])), .o 33 (.dc [(.int .i64 0),(.int .i64 0),(.slice .full 0 []),(.str []),(.str []),(.int .i64 0),(.int .i64 0),(.str []),(.slice .full 0 []),(.bool false),(.slice .full 0 []),(.slice .full 0 []),(.slice .full 0 [])] 13 3 [(0,fv),(1,iE),(2,il)]),(.o 34 (.build [(.str []),(.slice .full 0 []),(.slice .full 0 []),(.slice .full 0 []),(.slice .full 0 [])] [(0,(1,(.k (.str [112])))),(1,(1,ep)),(4,(1,er)),(3,(1,gM))])), .o 2 (.alloc [(.str []),(.slice .full 0 []),(.slice .full 0 []),(.slice .full 0 []),(.slice .full 0 [])]), .op none none (.store dC jx 5)]
abbrev Vy:AC:= .seq (.run [(.o 35 (.dc [(.str [])] 1 1 [(0,(.k (.str [103])))])), .o 36 (.load bt true 5), .o 37 (.load dC true 5), .o 38 (.dc [(.str []),(.slice .full 0 []),(.slice .full 0 []),(.slice .full 0 []),(.slice .full 0 [])] 5 2 [(0,jy),(1,kn)]), .o 39 (.build [(.slice .full 0 []),(.slice .full 0 [])] [(0,(1,iF)),(1,(1,ll))]), .op none none (.store bU ko 2)]) .ret
abbrev Vz:AC:= .seq (.run [.o 0 (.alloc [(.slice .full 0 []),(.slice .full 0 [])])]) (.seq Vw (.seq Vx Vy))
abbrev VA:AC:= .seq (.seq (.run [.m 6 bW, .m 7 bU, .o 8 (.len ct), .o 9 (.bin .lss da dd), .m 10 dN, .g 11 10 true (.mv bt), .g 12 10 true (.bin .leq cO (.k (.int .i64 20000))), .o 13 (.pick cQ cH (.k (.bool false)))]) (.cond de .skip (.exit 0))) (.seq (.block 1 (.run [.m 16 bU, .m 17 bW, .o 18 (.bV cR dD 1), .o 19 (.load dO false 1), .m 20 bt, .c 21 eo [ep,er], .m 1 ew])) (.run [.m 14 bW, .o 15 (.bin .add cY (.k (.int .i64 1))), .m 5 dH]))
abbrev VB:AC:= .seq (.seq (.run [.o 5 (.mv (.k (.int .i64 0)))]) (.block 0 (.loop VA))) (.seq (.run [.m 22 bt, .m 4 eJ]) .ret)
abbrev VC:AC:= .seq (.run [.o 4 (.mv (.k (.int .i64 0)))]) VB
abbrev VD:AC:= .cond de (.seq (.run [.o 4 (.mv (.k (.int .i64 20001)))]) .ret) .skip
abbrev VE:AC:= .seq (.seq (.run [.m 5 bt, .o 6 (.bin .gtr bW (.k (.int .i64 20000))), .m 7 da, .g 8 7 false (.mv bU), .g 9 7 false (.o5 dd), .g 10 7 false (.mv bt), .g 11 7 false (.bin .sub (.k (.int .i64 20000)) cQ), .g 12 7 false (.bin .geq dN cO), .o 13 (.pick ct (.k (.bool true)) cH)]) VD) (.seq (.run [.m 14 bt, .o 15 (.bin .add cY (.k (.int .i64 1))), .m 16 bU, .o 17 (.o5 cR), .o 18 (.bin .add dH dD), .m 4 dO]) .ret)
abbrev VF:AC:= .seq (.run [.o 4 (.mv (.k (.int .i64 0)))]) VE
abbrev VG:AC:= .par [.o 22 (.aC da 4), .o 23 (.load eJ false 1), .o 24 (.aC da 3), .o 25 (.load fv false 1), .o 26 (.aC da 2), .o 27 (.load fP false 1), .o 28 (.aC da 5), .o 29 (.load gB true 4), .m 30 bt, .c 31 gi [gv,iE], .c 32 fR [fK,gw], .c 33 eo [fk,il], .c 34 eo [ey,gM], .m 1 jx] [(6,0),(7,0),(8,0),(9,0),(4,0),(5,1),(10,0),(2,0),(3,2),(11,0),(0,0),(1,3),(12,0),(13,0)]
abbrev VH:AC:= .par [.o 46 (.aC da 10), .o 47 (.load ov false 1), .m 48 ct, .o 49 (.bV ow ox 6), .o 50 (.aC np 1), .o 51 (.load oy false 1), .o 52 (.aC da 10), .o 53 (.load oz false 1), .m 54 ct, .o 55 (.bV oA oB 6), .o 56 (.aC po 2), .o 57 (.load pw true 4), .m 58 bt, .c 59 gi [px,py], .c 60 eo [mD,mE], .m 1 rL] [(6,0),(7,0),(8,0),(9,0),(10,0),(11,0),(12,0),(13,0),(0,0),(1,1),(2,0),(3,0),(4,0),(5,1),(14,0),(15,0)]
abbrev VI:AC:= .seq (.seq (.run [.m 35 ct, .o 36 (.aC da 10), .o 37 (.load jy false 1), .o 38 (.len kn), .o 39 (.bin .lss iF ll), .m 40 ko, .g 41 40 true (.mv bt), .g 42 40 true (.bin .leq ln (.k (.int .i64 20000))), .o 43 (.pick lP mC (.k (.bool false)))]) (.cond nk .skip (.exit 2))) (.seq (.block 3 VH) (.run [.m 44 ct, .o 45 (.bin .add nn (.k (.int .i64 1))), .m 7 ou]))
abbrev VJ:AC:= .par [.o 61 (.aC da 12), .o 62 (.load vf false 1), .o 63 (.aC da 11), .o 64 (.load vg false 1), .m 65 bt, .c 66 gI [rM,xb], .c 67 gI [tt,Aj], .m 1 xc] [(2,0),(3,0),(4,0),(5,0),(0,0),(1,1),(6,0),(7,0)]
abbrev VK:AC:= .seq (.seq (.run [.o 7 (.mv (.k (.int .i64 0)))]) (.block 2 (.loop VI))) VJ
abbrev VL:AC:= .seq (.block 1 (.seq (.run [.m 18 bU, .m 19 bW, .o 20 (.bV dO ep 13), .o 21 (.load er true 13), .o 6 (.alloc [(.int .i64 0),(.int .i64 0),(.slice .full 0 []),(.str []),(.str []),(.int .i64 0),(.int .i64 0),(.str []),(.slice .full 0 []),(.bool false),(.slice .full 0 []),(.slice .full 0 []),(.slice .full 0 [])]), .op none none (.store da ew 13)]) (.seq VG VK))) (.run [.m 16 bW, .o 17 (.bin .add cR (.k (.int .i64 1))), .m 5 dD])
abbrev VM:AC:= .seq (.seq (.run [.m 8 bW, .m 9 bU, .o 10 (.len dN), .o 11 (.bin .lss dd cQ), .m 12 cO, .g 13 12 true (.mv bt), .g 14 12 true (.bin .leq de (.k (.int .i64 20000))), .o 15 (.pick cH cY (.k (.bool false)))]) (.cond dH .skip (.exit 0))) VL
abbrev VN:AC:= .seq (.seq (.run [.o 5 (.mv (.k (.int .i64 0)))]) (.block 0 (.loop VM))) (.seq (.run [.m 68 bt, .m 4 xd]) .ret)
abbrev VO:AC:= .seq (.run [.o 4 (.mv (.k (.int .i64 0)))]) VN
abbrev VP:AC:= .cond ey (.seq (.run [.o 2 (.mv (.k (.bool false)))]) .ret) .skip
abbrev VQ:AC:= .run [.o 33 (.aC bW 1), .o 34 (.load gM false 1), .o 35 (.len jx), .o 36 (.bin .gtr iF (.k (.int .i64 8))), .m 37 jy, .g 38 37 false (.aC bW 2), .g 39 37 false (.load ll false 1), .g 40 37 false (.len ko), .g 41 37 false (.bin .gtr lP (.k (.int .i64 16))), .o 42 (.pick kn (.k (.bool true)) ln), .m 43 mC, .g 44 43 false (.aC bW 0), .g 45 43 false (.load nn false 1), .d 46 43 false jQ [ou], .g 47 43 false (.un .not ov), .o 48 (.pick nk (.k (.bool true)) ow), .m 49 ox, .g 50 49 false (.aC bW 2), .g 51 49 false (.load oy false 1), .d 52 49 false jw [mD], .g 53 49 false (.un .not oz), .o 54 (.pick np (.k (.bool true)) oA), .m 55 oB, .g 56 55 false (.aC bW 4), .g 57 55 false (.load pw false 1), .d 58 55 false jw [px], .g 59 55 false (.un .not py), .o 60 (.pick po (.k (.bool true)) mE)]
abbrev VR:AC:= .cond rL (.seq (.run [.o 2 (.mv (.k (.bool false)))]) .ret) .skip
abbrev VS:AC:= .cond IN (.seq (.run [.o 2 (.mv (.k (.bool false)))]) .ret) .skip
abbrev VT:AC:= .seq (.block 3 (.seq (.run [.o 66 (.bV tt rM 2), .o 67 (.load Aj true 2), .o 7 (.alloc [(.str []),(.bool false)]), .op none none (.store ct xc 2)]) (.seq (.run [.o 68 (.aC ct 0), .o 69 (.load xd false 1), .c 70 jQ [Ak], .o 71 (.un .not Al)]) VS))) (.run [.o 72 (.bin .add rM (.k (.int .i64 1))), .m 64 Ee])
abbrev VU:AC:= .block 2 (.loop (.seq (.run [.o 65 (.bin .lss rM vg)]) (.seq (.cond xb .skip (.exit 2)) VT)))
abbrev VV:AC:= .cond IT (.seq (.run [.o 2 (.mv (.k (.bool false)))]) .ret) .skip
abbrev VW:AC:= .seq (.seq (.run [.o 61 (.aC bW 1), .o 62 (.load vf false 1), .o 63 (.len tt), .o 64 (.mv (.k (.int .i64 0)))]) VU) (.seq (.run [.m 73 cT, .o 74 (.aC bW 3), .o 75 (.load IQ false 1), .c 76 gu [IP,IS,(.k (.int .i64 1))], .o 77 (.un .not Ef)]) VV)
abbrev VX:AC:= .seq (.block 1 (.seq (.run [.o 31 (.bV fK gv 5), .o 32 (.load gw true 5), .o 5 (.alloc [(.str []),(.slice .full 0 []),(.slice .full 0 []),(.slice .full 0 []),(.slice .full 0 [])]), .op none none (.store bW il 5)]) (.seq (.seq VQ VR) VW))) (.run [.o 78 (.bin .add gv (.k (.int .i64 1))), .m 29 Am])
abbrev VY:AC:= .block 0 (.loop (.seq (.run [.o 30 (.bin .lss gv gB)]) (.seq (.cond iE .skip (.exit 0)) VX)))
abbrev VZ:AC:= .seq (.seq (.run [.o 26 (.aC bt 1), .o 27 (.load fP false 1), .o 28 (.len fK), .o 29 (.mv (.k (.int .i64 0)))]) VY) (.seq (.run [.o 2 (.mv (.k (.bool true)))]) .ret)
abbrev V0:AC:= .seq (.seq (.run [.o 8 (.aC bt 0), .o 9 (.load dd false 1), .o 10 (.len dN), .o 11 (.bin .gtr cQ (.k (.int .i64 16))), .m 12 cO, .g 13 12 false (.aC bt 1), .g 14 12 false (.load de false 1), .g 15 12 false (.len cY), .g 16 12 false (.bin .gtr dH (.k (.int .i64 16))), .o 17 (.pick cH (.k (.bool true)) cR), .m 18 dD, .g 19 18 false (.aC bt 0), .g 20 18 false (.load ep false 1), .d 21 18 false jw [er], .g 22 18 false (.un .not ew), .o 23 (.pick dO (.k (.bool true)) eJ)]) VP) (.seq (.run [.o 24 (.build [(.int .i64 0)] []), .o 25 (.box fv), .m 3 fk]) VZ)
abbrev V1:AC:= .seq (.run [.o 1 (.box bU), .o 2 (.mv (.k (.bool false)))]) V0
abbrev V2:AC:= .block 1 (.seq (.run [.m 10 dd, .m 5 cQ]) (.seq (.run [.m 11 bt, .m 12 bU, .m 13 bW, .o 14 (.bV cH de 1), .o 15 (.load cY false 1), .o 16 (.bin .eql cO dH)]) (.cond cR (.seq (.run [.m 17 bW, .m 4 dD]) .ret) .skip)))
abbrev V3:AC:= .seq (.cond dN .skip (.exit 0)) (.seq V2 (.run [.o 18 (.bin .add dd (.k (.int .i64 1))), .m 8 dO]))
abbrev V4:AC:= .seq (.run [.m 6 bU, .o 7 (.len da), .o 8 (.mv (.k (.int .i64 0)))]) (.block 0 (.loop (.seq (.run [.o 9 (.bin .lss dd ct)]) V3)))
abbrev V5:AC:= .seq (.run [(.o 4 (.mv (.k (.int .i64 (-1)))))]) .ret
abbrev V6:AC:= .seq (.run [.o 4 (.mv (.k (.int .i64 0)))]) (.seq V4 V5)
abbrev V7:AC:= .cond cR (.seq (.run [.o 2 (.mv (.k (.bool true)))]) .ret) .skip
abbrev V8:AC:= .block 1 (.seq (.run [.m 9 ct, .o 10 (.bV bW ct 1), .o 11 (.load cQ false 1), .m 3 dN, .m 4 cO]) (.seq (.run [.m 12 bU, .m 13 cT, .o 14 (.zj 1 cH none (some de)), .m 15 dZ, .c 16 bE [cY,dH]]) V7))
abbrev V9:AC:= .seq (.cond dd .skip (.exit 0)) (.seq V8 (.run [.o 17 (.bin .add ct (.k (.int .i64 1))), .m 7 dD]))
abbrev Wa:AC:= .seq (.run [.m 5 bU, .o 6 (.len bW), .o 7 (.mv (.k (.int .i64 0)))]) (.block 0 (.loop (.seq (.run [.o 8 (.bin .lss ct da)]) V9)))
abbrev Wb:AC:= .seq Wa (.seq (.run [.o 2 (.mv (.k (.bool false)))]) .ret)
abbrev Wc:AC:= .seq (.run [.o 2 (.mv (.k (.bool false)))]) Wb
end Go.Abs

/-! Have0 -/

namespace Go.Abs
open Go.Proofs
theorem kp:Has Try.prog oI 43 [(2,none)] Uv:=⟨Try.f5,by kernel_rfl,by kernel_rfl⟩
theorem yF:Has Try.prog qC 61 [(2,none)] UC:=⟨Try.f8,by kernel_rfl,by kernel_rfl⟩
theorem p8:Has Try.prog j8 96 [(2,(some (true,2)))] US:=⟨Try.f9,by kernel_rfl,by kernel_rfl⟩
theorem oJ:Has Try.prog kB 60 [(4,none)] U4:=⟨Try.f16,by kernel_rfl,by kernel_rfl⟩
theorem v8:Has Try.prog oi 29 [(0,none)] U8:=⟨Try.f17,by kernel_rfl,by kernel_rfl⟩
theorem p9:Has Try.prog j9 37 [(2,(some (true,2)))] Vf:=⟨Try.f18,by kernel_rfl,by kernel_rfl⟩
theorem qa:Has Try.prog ka 60 [(2,(some (true,2)))] Vq:=⟨Try.f19,by kernel_rfl,by kernel_rfl⟩
theorem An:Has Try.prog rI 23 [(2,none)] Vv:=⟨Try.f24,by kernel_rfl,by kernel_rfl⟩
theorem yG:Has Try.prog qD 40 [(0,(some (true,2)))] Vz:=⟨Try.f25,by kernel_rfl,by kernel_rfl⟩
theorem sE:Has Try.prog fR 23 [(4,none)] VC:=⟨Try.f26,by kernel_rfl,by kernel_rfl⟩
theorem kU:Has Try.prog eo 19 [(4,none)] VF:=⟨Try.f27,by kernel_rfl,by kernel_rfl⟩
theorem mW:Has Try.prog gI 69 [(4,none)] VO:=⟨Try.f28,by kernel_rfl,by kernel_rfl⟩
theorem Ao:Has Try.prog rJ 79 [(2,none)] V1:=⟨Try.f29,by kernel_rfl,by kernel_rfl⟩
theorem pK:Has Try.prog fI 19 [(4,none)] V6:=⟨Try.f30,by kernel_rfl,by kernel_rfl⟩
theorem wa:Has Try.prog kb 18 [(2,none)] Wc:=⟨Try.f31,by kernel_rfl,by kernel_rfl⟩
end Go.Abs

/-! Codes1 -/

namespace Go.Abs
abbrev Wd:AC:= .par [.m 17 cT, .m 18 cT, .o 19 (.fJ dO), .o 20 (.aC ep 3), .o 21 (.load er false 1), .m 22 cT, .o 23 (.fJ eJ), .o 24 (.aC ey 2), .o 25 (.load fv false 1), .o 26 (.len fk), .o 27 (.bin .add fP (.k (.int .i64 1))), .o 28 (.dc [(.int .i64 0)] 1 1 [(0,fK)]), .o 29 (.app 1 8 ew gB), .o 30 (.fJ dD), .o 31 (.aC iE 3), .op none none (.store gw gv 1)] [(1,0),(2,0),(3,0),(4,0),(5,0),(6,0),(7,0),(8,0),(9,0),(10,0),(11,0),(12,0),(0,0),(13,0),(14,0),(15,0)]
abbrev Wf:AC:= .par [.m 38 cT, .m 39 cT, .o 40 (.fJ ko), .o 41 (.aC lP 4), .o 42 (.load ln false 1), .m 43 cT, .o 44 (.fJ nk), .o 45 (.aC nn 2), .o 46 (.load ou false 1), .o 47 (.len ov), .o 48 (.bin .add ow (.k (.int .i64 1))), .o 49 (.dc [(.int .i64 0)] 1 1 [(0,ox)]), .o 50 (.app 1 8 mC np), .o 51 (.fJ ll), .o 52 (.aC mD 4), .op none none (.store oz oy 1)] [(1,0),(2,0),(3,0),(4,0),(5,0),(6,0),(7,0),(8,0),(9,0),(10,0),(11,0),(12,0),(0,0),(13,0),(14,0),(15,0)]
abbrev Wg:AC:= .seq (.run [.m 32 cT, .o 33 (.aC bW 3), .o 34 (.load gM false 1), .m 35 dZ,(.o 36 (.build [(.int .i64 0),(.int .i64 0),(.slice .full 0 []),(.str []),(.str []),(.int .i64 0),(.int .i64 0),(.str []),(.slice .full 0 []),(.bool false),(.slice .full 0 []),(.slice .full 0 []),(.slice .full 0 []),(.int .i64 0),(.int .i64 0),(.int .i64 0),(.int .i64 0)] [(13,(1,iF)),(15,(1,(.k (.int .i64 (-1)))))])), .c 37 gj [il,jx,jy]]) Wf
abbrev Wh:AC:= .seq (.block 1 (.seq (.run [.m 14 cH, .o 15 (.bV cQ cH 5), .o 16 (.load dH true 5), .o 5 (.alloc [(.str []),(.slice .full 0 []),(.slice .full 0 []),(.slice .full 0 []),(.slice .full 0 [])]), .m 4 cY, .op none none (.store bW cR 5)]) (.seq Wd Wg))) (.run [.o 53 (.bin .add cH (.k (.int .i64 1))), .m 12 oA])
abbrev Wi:AC:= .block 0 (.loop (.seq (.run [.o 13 (.bin .lss cH cO)]) (.seq (.cond de .skip (.exit 0)) Wh)))
abbrev Wj:AC:= .seq (.seq (.run [.o 9 (.aC bt 1), .o 10 (.load dN false 1), .o 11 (.len cQ), .o 12 (.mv (.k (.int .i64 0)))]) Wi) (.seq (.run [.m 54 cT, .m 2 oB]) .ret)
abbrev Wl:AC:= .seq (.run [.o 1 (.box bU), .o 2 (.mv (.k .dR))]) (.seq (.run [.o 6 (.load bt true 2), .o 7 (.build [(.slice .full 0 []),(.slice .full 0 []),(.slice .full 0 []),(.slice .full 0 []),(.slice .full 0 [])] [(0,(2,da))]), .o 8 (.box ct), .m 3 dd]) Wj)
abbrev Wm:AC:= .seq (.block 1 (.seq (.run [.o 11 (.bV ct dN 2), .o 12 (.load cO true 2), .o 5 (.alloc [(.str []),(.bool false)]), .op none none (.store bW cH 2)]) (.run [.m 13 cT, .o 14 (.aC bW 0), .o 15 (.load cY false 1), .o 16 (.dc [(.str [])] 1 1 [(0,dH)]), .o 17 (.app 1 16 de cR), .m 3 dD]))) (.run [.o 18 (.bin .add dN (.k (.int .i64 1))), .m 9 dO])
abbrev Wn:AC:= .block 0 (.loop (.seq (.run [.o 10 (.bin .lss dN dd)]) (.seq (.cond cQ .skip (.exit 0)) Wm)))
abbrev Wo:AC:= .seq (.seq (.run [.o 6 (.aC bt 1), .o 7 (.load da false 1), .o 8 (.len ct), .o 9 (.mv (.k (.int .i64 0)))]) Wn) (.seq (.run [.m 19 cT, .o 20 (.aC bt 2), .o 21 (.load er false 1), .o 22 (.app 1 16 ep ew), .m 2 eJ]) .ret)
abbrev Wp:AC:= .seq (.run [.o 1 (.box bU), .o 2 (.mv (.k (.slice .full 0 [])))]) (.seq (.run [.o 3 (.mv (.k (.slice .full 0 [])))]) Wo)
abbrev Wq:AC:= .seq (.run [.o 4 (.mv (.k (.bool false)))]) (.seq (.run [.m 5 bU, .m 6 bt, .c 7 gL [bW,da], .o 8 (.bin .geq ct (.k (.int .i64 0))), .m 4 dd]) .ret)
abbrev Wr:AC:= .seq (.run [.o 3 (.mv (.k (.bool false)))]) (.seq (.run [.o 4 (.aC bt 0), .o 5 (.load dZ false 1), .m 6 bU, .c 7 bE [bW,da], .m 3 ct]) .ret)
abbrev Ws:AC:= .seq (.run [.o 4 (.mv (.k (.bool false)))]) (.seq (.run [.m 5 bU, .m 6 bt, .c 7 fI [bW,da], .o 8 (.bin .geq ct (.k (.int .i64 0))), .m 4 dd]) .ret)
abbrev Wt:AC:= .par [.m 5 bU, .o 6 (.fJ bW), .o 7 (.aC da 2), .o 8 (.load ct false 1), .m 9 bU, .o 10 (.fJ dN), .o 11 (.aC cQ 3), .o 12 (.load cO false 1), .m 13 bt, .o 14 (.bV cH de 1), .o 15 (.load cY false 1), .o 16 (.bin .sub dH (.k (.int .i64 1))), .m 17 bU, .o 18 (.fJ dD), .o 19 (.aC dO 4), .o 20 (.load ep false 1), .m 21 bt, .o 22 (.bV er ew 1), .o 23 (.load eJ false 1), .o 24 (.bin .sub ey (.k (.int .i64 1))), .o 25 (.zj 17 dd (some cR) (some fv)), .m 4 fk] [(0,0),(1,0),(2,0),(3,0),(4,0),(5,0),(6,0),(7,0),(8,0),(9,0),(10,0),(11,0),(12,0),(13,0),(14,0),(15,0),(16,0),(17,0),(18,0),(19,0),(20,0),(21,0)]
abbrev Wu:AC:= .seq (.run [.o 4 (.mv (.k (.slice .full 0 [])))]) (.seq Wt .ret)
abbrev Wv:AC:= .cond eJ (.seq (.run [.o 8 (.mv (.k (.bool false)))]) .ret) .skip
abbrev Ww:AC:= .seq (.run [.o 16 (.bV cH cY 1), .o 17 (.load cR false 1), .m 10 dD]) (.seq (.run [.o 18 (.load dZ true 2), .o 19 (.load bW true 5), .m 20 cQ, .c 21 ph [dO,ep,er], .o 22 (.bin .eql ew (.k (.int .i64 0)))]) Wv)
abbrev Wx:AC:= .seq (.cond dH .skip (.exit 0)) (.seq (.block 1 Ww) (.run [.o 23 (.bin .add cY (.k (.int .i64 1))), .m 14 ey]))
abbrev Wy:AC:= .seq (.run [.o 11 (.load ct true 13), .c 12 mq [cO], .o 13 (.len cH), .o 14 (.mv (.k (.int .i64 0)))]) (.block 0 (.loop (.seq (.run [.o 15 (.bin .lss cY de)]) Wx)))
abbrev Wz:AC:= .seq Wy (.seq (.run [.o 24 (.aC ct 1), .o 25 (.load fv false 1), .o 26 (.bin .neq fk (.k (.int .i64 4))), .m 27 fP, .g 28 27 false (.aC ct 4), .g 29 27 false (.load gB false 1), .g 30 27 false (.bin .neq gv (.k (.str [109,97,105,110]))), .g 31 27 false (.mv iE), .g 32 31 true (.mv dC), .g 33 31 true (.aC ct 4), .g 34 31 true (.load gM false 1), .d 35 31 true bE [il,jx], .g 36 27 false (.pick gw iF (.k (.bool false))), .o 37 (.pick fK (.k (.bool true)) jy), .m 8 kn]) .ret)
abbrev WA:AC:= .seq (.run [.o 4 (.box bU), .o 5 (.box bt), .o 7 (.box cT), .o 8 (.mv (.k (.bool false)))]) Wz
abbrev WB:AC:= .seq (.run [.o 2 (.box bU), .o 3 (.box bt), .o 4 (.mv (.k (.bool false)))]) (.seq (.run [.o 5 (.load dC true 2), .c 6 j8 [bW], .o 7 (.se da 0 false 1), .o 8 (.bin .eql ct (.k (.int .i64 0))), .m 9 dd, .g 10 9 true (.aC dC 1), .g 11 9 true (.load cQ false 1), .g 12 9 true (.oL 64 [cT]), .d 13 9 true eQ [cO,cH], .o 14 (.pick dN de (.k (.bool false))), .m 4 cY]) .ret)
abbrev WC:AC:= .seq (.run [.o 26 (.bV eJ fv 1), .o 27 (.load fP false 1), .m 8 fK]) (.seq (.run [.m 28 bW, .m 29 dd, .c 30 bE [gB,gv], .o 31 (.un .not iE)]) (.cond gw (.run [.m 32 bW, .m 33 dd, .o 34 (.dc [(.str [])] 1 1 [(0,gM)]), .o 35 (.app 1 16 il jx), .m 5 iF]) .skip))
abbrev WD:AC:= .seq (.cond fk .skip (.exit 2)) (.seq (.block 3 WC) (.run [.o 36 (.bin .add fv (.k (.int .i64 1))), .m 24 jy]))
abbrev WE:AC:= .seq (.run [.m 17 bU, .m 18 bW, .m 19 da, .o 20 (.bV dO ep 1), .o 21 (.load er false 1), .c 22 om [dD,ew], .o 23 (.len eJ), .o 24 (.mv (.k (.int .i64 0)))]) (.block 2 (.loop (.seq (.run [.o 25 (.bin .lss fv ey)]) WD)))
abbrev WG:AC:= .seq (.seq (.run [.m 11 da, .m 12 bW, .o 13 (.len cH), .o 14 (.bin .lss cO de)]) (.cond cY .skip (.exit 0))) (.seq (.block 1 WE) (.run [.m 15 da, .o 16 (.bin .add dH (.k (.int .i64 1))), .m 6 cR]))
abbrev Rh:AC:= .seq (.run [.m 39 bW, .m 4 ko]) .ret
abbrev WH:AC:= .seq (.seq (.run [.o 6 (.mv (.k (.int .i64 0)))]) (.block 0 (.loop WG))) (.seq (.run [.m 37 bW, .c 38 fO [kn]]) Rh)
abbrev WI:AC:= .seq (.run [.o 4 (.mv (.k (.slice .full 0 [])))]) (.seq (.run [.m 9 bt, .o 10 (.dc [(.str [])] 1 1 [(0,dN)]), .m 5 cQ]) WH)
abbrev WJ:AC:= .seq (.run [.o 16 (.bV cH cY 17), .o 17 (.load cR true 17), .o 7 (.alloc [(.int .i64 0),(.int .i64 0),(.slice .full 0 []),(.str []),(.str []),(.int .i64 0),(.int .i64 0),(.str []),(.slice .full 0 []),(.bool false),(.slice .full 0 []),(.slice .full 0 []),(.slice .full 0 []),(.int .i64 0),(.int .i64 0),(.int .i64 0),(.int .i64 0)]), .op none none (.store ct dD 17)]) (.seq (.run [.o 18 (.aC ct 0), .o 19 (.aC dO 1), .o 20 (.load ep false 1), .o 21 (.bin .eql er (.k (.int .i64 4)))]) (.cond ew (.run [.m 22 bW, .o 23 (.aC ct 0), .o 24 (.aC ey 4), .o 25 (.load fv false 1), .o 26 (.dc [(.str [])] 1 1 [(0,fk)]), .o 27 (.app 1 16 eJ fP), .m 5 fK]) .skip))
abbrev WK:AC:= .seq (.cond dH .skip (.exit 0)) (.seq (.block 1 WJ) (.run [.o 28 (.bin .add cY (.k (.int .i64 1))), .m 14 gB]))
abbrev WL:AC:= .seq (.run [.m 8 bU, .m 9 bU, .m 10 bt, .c 11 jl [dN,cQ], .c 12 iR [dd,cO], .o 13 (.len cH), .o 14 (.mv (.k (.int .i64 0)))]) (.block 0 (.loop (.seq (.run [.o 15 (.bin .lss cY de)]) WK)))
abbrev WM:AC:= .seq (.run [.o 4 (.mv (.k (.slice .full 0 [])))]) (.seq (.run [.o 5 (.mv (.k (.slice .full 0 [])))]) (.seq WL (.seq (.run [.m 29 bW, .c 30 fO [gv]]) (.seq (.run [.m 31 bW, .c 32 fX [gw], .m 4 il]) .ret))))
abbrev WN:AC:= .seq (.run [.o 3 (.box bt), .o 4 (.mv (.k (.int .i64 0)))]) (.seq (.run [.m 5 bU, .o 6 (.fJ bW), .o 7 (.aC da 0), .o 8 (.aC ct 1), .o 9 (.load dd false 1), .o 10 (.oL 66 [cT]), .c 11 ei [dN,cQ], .m 4 cO]) .ret)
abbrev WO:AC:= .seq (.seq (.run [.o 31 (.aC bW 0), .o 32 (.load gw false 1)]) (.cond il (.run [.m 33 cT, .o 34 (.aC bW 1), .o 35 (.load jx false 1), .o 36 (.dc [(.str [])] 1 1 [(0,iF)]), .o 37 (.app 1 16 gM jy), .m 3 kn]) .skip)) (.run [.m 38 cT, .o 39 (.aC bW 2), .o 40 (.load ko true 4), .c 41 mz [lP], .o 42 (.app 1 16 ll ln), .m 3 mC])
abbrev WQ:AC:= .seq (.block 1 (.seq (.run [.o 29 (.bV fk fK 6), .o 30 (.load gv true 6), .o 5 (.alloc [(.bool false),(.str []),(.int .i64 0),(.int .i64 0),(.str []),(.slice .full 0 [])]), .op none none (.store bW iE 6)]) WO)) (.run [.o 43 (.bin .add fK (.k (.int .i64 1))), .m 27 nk])
abbrev WR:AC:= .block 0 (.loop (.seq (.run [.o 28 (.bin .lss fK fP)]) (.seq (.cond gB .skip (.exit 0)) WQ)))
abbrev WS:AC:= .seq (.seq (.run [.o 24 (.aC bt 10), .o 25 (.load fv false 1), .o 26 (.len fk), .o 27 (.mv (.k (.int .i64 0)))]) WR) (.seq (.run [.m 44 cT, .m 2 nn]) .ret)
abbrev WT:AC:= .seq (.seq (.run [.o 6 (.aC bt 1), .o 7 (.load da false 1), .o 8 (.bin .neq ct (.k (.int .i64 10))), .m 9 dd, .g 10 9 true (.aC bt 3), .g 11 9 true (.load cQ false 1), .g 12 9 true (.bin .neq cO (.k (.str []))), .o 13 (.pick dN cH (.k (.bool false)))]) (.cond de (.run [.m 14 cT, .o 15 (.aC bt 3), .o 16 (.load dH false 1), .o 17 (.dc [(.str [])] 1 1 [(0,cR)]), .o 18 (.app 1 16 cY dD), .m 3 dO]) .skip)) (.seq (.run [.m 19 cT, .o 20 (.aC bt 5), .o 21 (.load er true 4), .c 22 mz [ew], .o 23 (.app 1 16 ep eJ), .m 3 ey]) WS)
abbrev WU:AC:= .seq (.run [.o 1 (.box bU), .o 2 (.mv (.k (.slice .full 0 [])))]) (.seq (.run [.o 3 (.mv (.k (.slice .full 0 [])))]) WT)
abbrev WV:AC:= .cond cY (.seq (.run [.o 4 (.mv (.k (.bool false)))]) .ret) .skip
abbrev WW:AC:= .par [.o 15 (.load cT true 13), .o 16 (.load dC true 2), .o 17 (.aC cT 4), .o 18 (.load dD false 1), .c 19 kB [cR,dO], .c 20 k8 [dH,ep], .m 4 er] [(1,0),(2,0),(3,0),(4,0),(0,1),(5,0),(6,0)]
abbrev WX:AC:= .seq (.seq (.run [.o 5 (.load dC true 2), .c 6 j9 [bW], .o 7 (.se da 0 false 1), .o 8 (.bin .neq ct (.k (.int .i64 0))), .m 9 dd, .g 10 9 false (.load dC true 2), .g 11 9 false (.load cT true 13), .d 12 9 false pj [cQ,cO], .g 13 9 false (.un .not cH), .o 14 (.pick dN (.k (.bool true)) de)]) WV) (.seq WW .ret)
abbrev WY:AC:= .seq (.run [.o 2 (.box bU), .o 3 (.box bt), .o 4 (.mv (.k (.bool false)))]) WX
abbrev WZ:AC:= .cond dN (.seq (.run [.o 4 (.mv (.k (.bool false)))]) .ret) .skip
abbrev W0:AC:= .seq (.run [.o 15 (.bV cO de 5), .o 16 (.load dH true 5), .o 6 (.alloc [(.str []),(.slice .full 0 []),(.slice .full 0 []),(.slice .full 0 []),(.slice .full 0 [])]), .op none none (.store da cR 5)]) (.seq (.run [.o 17 (.aC da 0), .o 18 (.load dD false 1), .o 19 (.aC cT 4), .o 20 (.load ep false 1), .o 21 (.bin .eql dO er)]) (.cond ew (.seq (.run [.o 22 (.aC da 1), .o 23 (.load eJ false 1), .o 24 (.aC cT 10), .o 25 (.load fv false 1), .c 26 pk [ey,fk], .m 4 fP]) .ret) .skip))
abbrev W1:AC:= .seq (.cond cY .skip (.exit 0)) (.seq (.block 1 W0) (.run [.o 27 (.bin .add de (.k (.int .i64 1))), .m 13 fK]))
abbrev W2:AC:= .seq (.run [.o 10 (.aC dC 1), .o 11 (.load cQ false 1), .o 12 (.len cO), .o 13 (.mv (.k (.int .i64 0)))]) (.block 0 (.loop (.seq (.run [.o 14 (.bin .lss de cH)]) W1)))
abbrev W3:AC:= .seq W2 (.seq (.run [.o 4 (.mv (.k (.bool false)))]) .ret)
abbrev W4:AC:= .seq (.seq (.run [.o 7 (.aC cT 1), .o 8 (.load ct false 1), .o 9 (.bin .neq dd (.k (.int .i64 4)))]) WZ) W3
abbrev W5:AC:= .seq (.run [.o 2 (.box bU), .o 3 (.box bt), .o 4 (.mv (.k (.bool false)))]) W4
abbrev W6:AC:= .cond jx (.seq (.run [.o 4 (.mv (.k (.bool false)))]) .ret) .skip
abbrev W7:AC:= .seq (.seq (.run [.m 18 bW, .o 19 (.aC ct 1), .o 20 (.load ep false 1), .c 21 bE [dO,er], .m 22 ew, .g 23 22 false (.aC ct 1), .g 24 22 false (.load ey false 1), .g 25 22 false (.aC dC 3), .g 26 22 false (.load fk false 1), .g 27 22 false (.bin .eql fv fP), .o 28 (.pick eJ (.k (.bool true)) fK), .m 29 gB, .g 30 29 false (.mv bt), .g 31 29 false (.aC ct 1), .g 32 29 false (.load gw false 1), .d 33 29 false bE [iE,il], .o 34 (.pick gv (.k (.bool true)) gM)]) W6) (.run [.m 35 bW, .o 36 (.aC ct 1), .o 37 (.load jy false 1), .o 38 (.dc [(.str [])] 1 1 [(0,kn)]), .o 39 (.app 1 16 iF ll), .m 5 ko])
abbrev W8:AC:= .block 1 (.seq (.run [.o 13 (.bV dN cO 6), .o 14 (.load de true 6), .o 7 (.alloc [(.bool false),(.str []),(.int .i64 0),(.int .i64 0),(.str []),(.slice .full 0 [])]), .op none none (.store ct cY 6)]) (.seq (.seq (.run [.o 15 (.aC ct 0), .o 16 (.load dH false 1), .o 17 (.un .not cR)]) (.cond dD (.exit 1) .skip)) W7))
abbrev W9:AC:= .seq (.cond cH .skip (.exit 0)) (.seq W8 (.run [.o 40 (.bin .add cO (.k (.int .i64 1))), .m 11 lP]))
abbrev Xa:AC:= .seq (.run [.o 8 (.aC dC 10), .o 9 (.load dd false 1), .o 10 (.len dN), .o 11 (.mv (.k (.int .i64 0)))]) (.block 0 (.loop (.seq (.run [.o 12 (.bin .lss cO cQ)]) W9)))
abbrev Xb:AC:= .seq Xa (.seq (.run [.o 4 (.mv (.k (.bool true)))]) .ret)
abbrev Xc:AC:= .seq (.run [.o 2 (.box bU), .o 4 (.mv (.k (.bool false)))]) (.seq (.run [.o 5 (.mv (.k (.slice .full 0 [])))]) Xb)
abbrev Xd:AC:= .seq (.run [.o 1 (.box bU), .o 2 (.mv (.k (.slice .full 0 [])))]) (.seq (.run [.o 3 (.aC bt 3), .o 4 (.load cT false 1),(.c 5 iZ [dZ,(.k (.int .i64 1)),(.k (.int .i64 0)),(.k (.bool false)),(.k (.slice .full 0 []))]), .m 2 bW]) .ret)
abbrev Xe:AC:= .seq (.run [.m 3 bU,(.o 4 (.build [(.int .i64 0),(.int .i64 0),(.str []),(.slice .full 0 [])] [(0,(1,(.k (.int .i64 1)))),(1,(1,cT))])), .op none none (.store dC dZ 4)]) .ret
abbrev Xf:AC:= .seq (.run [.o 2 (.alloc [(.int .i64 0),(.int .i64 0),(.str []),(.slice .full 0 [])])]) Xe
abbrev Xg:AC:= .seq (.run [.m 3 bU,(.o 4 (.build [(.int .i64 0),(.int .i64 0),(.str []),(.slice .full 0 [])] [(0,(1,(.k (.int .i64 2)))),(2,(1,cT))])), .op none none (.store dC dZ 4)]) .ret
abbrev Xh:AC:= .seq (.run [.o 2 (.alloc [(.int .i64 0),(.int .i64 0),(.str []),(.slice .full 0 [])])]) Xg
abbrev Xi:AC:= .seq (.run [.o 4 (.box bt), .o 5 (.box dC), .o 6 (.alloc [(.int .i64 0),(.int .i64 0),(.str []),(.slice .full 0 [])])]) (.seq (.run [.m 7 bU, .o 8 (.load dZ true 4), .o 9 (.load bW true 4), .o 10 (.dc [(.int .i64 0),(.int .i64 0),(.str []),(.slice .full 0 [])] 4 2 [(0,dd),(1,dN)]), .o 11 (.build [(.int .i64 0),(.int .i64 0),(.str []),(.slice .full 0 [])] [(0,(1,ct)),(3,(1,cQ))]), .op none none (.store da cO 4)]) .ret)
abbrev Xj:AC:= .seq (.seq (.run [.m 10 bW, .o 11 (.aC dC 3), .o 12 (.load cO false 1), .o 13 (.len cH), .o 14 (.bin .lss cQ de), .m 15 cY, .g 16 15 true (.mv bt), .g 17 15 true (.bin .leq cR (.k (.int .i64 20000))), .o 18 (.pick dH dD (.k (.bool false)))]) (.cond dO .skip (.exit 0))) (.seq (.block 1 (.run [.o 21 (.aC dC 3), .o 22 (.load ew false 1), .m 23 bW, .o 24 (.bV eJ ey 4), .o 25 (.load fv true 4), .m 26 bt, .c 27 gi [fk,fP], .m 1 fK])) (.run [.m 19 bW, .o 20 (.bin .add ep (.k (.int .i64 1))), .m 5 er]))
abbrev Xk:AC:= .seq (.seq (.run [.o 5 (.mv (.k (.int .i64 0)))]) (.block 0 (.loop Xj))) (.seq (.run [.m 28 bt, .m 4 gB]) .ret)
abbrev Xl:AC:= .seq (.run [.o 2 (.box bU), .o 4 (.mv (.k (.int .i64 0)))]) (.seq (.run [.o 6 (.aC dC 2), .o 7 (.load da false 1), .m 8 bt, .c 9 eo [ct,dd], .m 1 dN]) Xk)
abbrev Xm:AC:= .cond de (.seq (.run [.o 2 (.mv (.k (.bool false)))]) .ret) .skip
abbrev Xn:AC:= .seq (.block 1 (.seq (.run [.o 9 (.bV bW ct 1), .o 10 (.load dN false 1), .m 4 cQ]) (.seq (.run [.m 11 dZ, .c 12 jQ [cO], .o 13 (.un .not cH)]) Xm))) (.run [.o 14 (.bin .add ct (.k (.int .i64 1))), .m 7 cY])
abbrev Xo:AC:= .block 0 (.loop (.seq (.run [.o 8 (.bin .lss ct da)]) (.seq (.cond dd .skip (.exit 0)) Xn)))
abbrev Xp:AC:= .seq (.seq (.run [.m 5 bU, .o 6 (.len bW), .o 7 (.mv (.k (.int .i64 0)))]) Xo) (.seq (.run [.o 2 (.mv (.k (.bool true)))]) .ret)
abbrev Xq:AC:= .seq (.run [.o 2 (.mv (.k (.bool false)))]) Xp
abbrev Xr:AC:= .cond cR (.seq (.run [.o 2 (.mv (.k (.bool false)))]) .ret) .skip
abbrev Xs:AC:= .seq (.seq (.run [.m 3 bU, .o 4 (.o5 cT), .o 5 (.bin .lss dZ (.k (.int .i64 1))), .m 6 bW, .g 7 6 false (.mv bU), .g 8 6 false (.o5 ct), .g 9 6 false (.bin .gtr dd (.k (.int .i64 8))), .o 10 (.pick da (.k (.bool true)) dN), .m 11 cQ, .g 12 11 false (.mv bU), .g 13 11 false (.sL cH (.k (.int .i64 0))), .d 14 11 false mA [de], .g 15 11 false (.un .not cY), .o 16 (.pick cO (.k (.bool true)) dH)]) Xr) (.seq (.run [.m 17 bU, .c 18 tp [dD,(.k (.int .i64 0))], .m 19 bU, .o 20 (.o5 ep), .o 21 (.bin .eql dO er), .m 22 ew, .g 23 22 true (.mv bU), .d 24 22 true rK [ey], .g 25 22 true (.un .not fv), .o 26 (.pick eJ fk (.k (.bool false))), .m 2 fP]) .ret)
abbrev Xt:AC:= .seq (.run [.o 2 (.mv (.k (.bool false)))]) Xs
abbrev Xu:AC:= .cond dH (.seq (.run [.o 6 (.mv (.k (.bool false)))]) .ret) .skip
abbrev Xv:AC:= .par [.m 29 bU, .o 30 (.fJ gv), .o 31 (.aC iE 0), .o 32 (.load gw false 1), .o 33 (.bin .gtr il (.k (.int .i64 200))), .m 34 gM, .g 35 34 false (.aC dd 0), .g 36 34 false (.load iF false 1), .g 37 34 false (.mv bU), .g 38 34 false (.fJ kn), .g 39 34 false (.aC ll 0), .g 40 34 false (.load ko false 1), .g 41 34 false (.bin .neq jy lP), .o 42 (.pick jx (.k (.bool true)) ln), .m 43 mC, .g 44 43 false (.aC dd 2), .g 45 43 false (.load nn false 1), .d 46 43 false jw [ou], .g 47 43 false (.un .not ov), .o 48 (.pick nk (.k (.bool true)) ow), .m 49 ox, .g 50 49 false (.load dd true 13), .d 51 49 false oo [oy], .g 52 49 false (.un .not mD), .o 53 (.pick np (.k (.bool true)) oz)] [(0,0),(1,0),(2,0),(3,0),(4,0),(5,0),(6,0),(7,0),(8,0),(9,0),(10,0),(11,0),(12,0),(13,0),(14,0),(15,0),(16,0),(17,0),(18,0),(19,0),(20,0),(21,0),(22,0),(23,0),(24,0)]
abbrev Xw:AC:= .cond oA (.seq (.run [.o 6 (.mv (.k (.bool false)))]) .ret) .skip
abbrev Xx:AC:= .cond Ak (.seq (.run [.o 6 (.mv (.k (.bool false)))]) .ret) .skip
abbrev Xy:AC:= .seq (.seq Xv Xw) (.seq (.run [.m 54 bU, .o 55 (.aC dd 11), .o 56 (.load po false 1), .m 57 dC, .o 58 (.bin .add px (.k (.int .i64 1))), .c 59 gu [oB,pw,py], .o 60 (.un .not mE), .m 61 rL, .g 62 61 false (.mv bU), .g 63 61 false (.aC dd 12), .g 64 61 false (.load vg false 1), .g 65 61 false (.mv dC), .g 66 61 false (.bin .add xb (.k (.int .i64 1))), .d 67 61 false gu [tt,rM,Aj], .g 68 61 false (.un .not xc), .o 69 (.pick vf (.k (.bool true)) xd)]) Xx)
abbrev Xz:AC:= .seq (.run [.o 20 (.bV cR dO 13), .o 21 (.load er true 13), .o 8 (.alloc [(.int .i64 0),(.int .i64 0),(.slice .full 0 []),(.str []),(.str []),(.int .i64 0),(.int .i64 0),(.str []),(.slice .full 0 []),(.bool false),(.slice .full 0 []),(.slice .full 0 []),(.slice .full 0 [])]), .op none none (.store dd ew 13)]) (.seq (.run [.m 22 bU, .o 23 (.fJ eJ), .o 24 (.aC ey 0), .o 25 (.load fv false 1), .o 26 (.bin .add fk (.k (.int .i64 1))), .o 27 (.fJ eJ), .o 28 (.aC fK 0), .op none none (.store gB fP 1)]) Xy)
abbrev XA:AC:= .seq (.cond ep .skip (.exit 0)) (.seq (.block 1 Xz) (.run [.o 70 (.bin .add dO (.k (.int .i64 1))), .m 18 Al]))
abbrev XB:AC:= .seq (.run [.m 16 bt, .o 17 (.len cR), .o 18 (.mv (.k (.int .i64 0)))]) (.block 0 (.loop (.seq (.run [.o 19 (.bin .lss dO dD)]) XA)))
abbrev XC:AC:= .seq XB (.seq (.run [.o 6 (.mv (.k (.bool true)))]) .ret)
abbrev XD:AC:= .seq (.seq (.run [.m 9 dC, .o 10 (.bin .gtr dN (.k (.int .i64 12))), .m 11 cQ, .g 12 11 true (.mv bt), .g 13 11 true (.len cH), .g 14 11 true (.bin .gtr de (.k (.int .i64 0))), .o 15 (.pick cO cY (.k (.bool false)))]) Xu) XC
abbrev XE:AC:= .seq (.run [.o 6 (.mv (.k (.bool false)))]) XD
abbrev XF:AC:= .par [.m 37 bU, .m 38 bU, .o 39 (.fJ ll), .o 40 (.aC ko 2), .o 41 (.load lP false 1), .o 42 (.load dN true 17), .o 43 (.dc [(.int .i64 0),(.int .i64 0),(.slice .full 0 []),(.str []),(.str []),(.int .i64 0),(.int .i64 0),(.str []),(.slice .full 0 []),(.bool false),(.slice .full 0 []),(.slice .full 0 []),(.slice .full 0 []),(.int .i64 0),(.int .i64 0),(.int .i64 0),(.int .i64 0)] 17 1 [(0,mC)]), .o 44 (.app 17 240 ln nk), .o 45 (.fJ kn), .o 46 (.aC ou 2), .op none none (.store ov nn 1)] [(1,0),(2,0),(3,0),(4,0),(5,0),(6,0),(7,0),(0,0),(8,0),(9,0),(10,0)]
abbrev XG:AC:= .run [.o 47 (.aC bW 13), .o 48 (.load ow false 1), .m 49 dd, .o 50 (.aC dN 15), .o 51 (.load oy false 1), .o 52 (.aC bW 16), .o 53 (.load oz false 1), .o 54 (.build [(.int .i64 0),(.int .i64 0),(.slice .full 0 []),(.str []),(.str []),(.int .i64 0),(.int .i64 0),(.str []),(.slice .full 0 []),(.bool false),(.slice .full 0 []),(.slice .full 0 []),(.slice .full 0 []),(.int .i64 0),(.int .i64 0),(.int .i64 0),(.int .i64 0)] [(13,(1,ox)),(14,(1,np)),(15,(1,mD)),(16,(1,oA))]), .o 10 (.alloc [(.int .i64 0),(.int .i64 0),(.slice .full 0 []),(.str []),(.str []),(.int .i64 0),(.int .i64 0),(.str []),(.slice .full 0 []),(.bool false),(.slice .full 0 []),(.slice .full 0 []),(.slice .full 0 []),(.int .i64 0),(.int .i64 0),(.int .i64 0),(.int .i64 0)]), .op none none (.store cQ oB 17)]
abbrev XH:AC:= .seq (.seq (.run [.o 55 (.aC ct 1), .o 56 (.load po false 1), .o 57 (.bin .eql pw (.k (.int .i64 6)))]) (.cond px (.run [.m 58 dd, .m 59 dd, .o 60 (.aC cQ 15), .op none none (.store rL py 1), .o 61 (.aC cQ 16), .op none none (.store vf mE 1)]) .skip)) (.seq (.run [.m 62 bU, .o 63 (.aC ct 11), .o 64 (.load vg false 1), .o 65 (.load cQ true 17), .c 66 gj [tt,rM,xb]]) (.run [.m 67 bU, .o 68 (.aC ct 12), .o 69 (.load xd false 1), .o 70 (.load cQ true 17), .c 71 gj [xc,Ak,Al]]))
abbrev XI:AC:= .seq (.seq (.run [.m 27 da, .o 28 (.bin .add fK (.k (.int .i64 1))), .m 29 bt, .o 30 (.len gv), .o 31 (.bin .lss gB iE)]) (.cond gw (.run [.m 32 dd, .o 33 (.load ct true 13), .c 34 ja [gM], .o 35 (.bin .add il jx), .o 36 (.aC dN 15), .op none none (.store jy iF 1)]) .skip)) (.seq XF (.seq XG XH))
abbrev XJ:AC:= .seq (.run [.m 15 de, .o 16 (.bV cO de 13), .o 17 (.load cR true 13), .o 7 (.alloc [(.int .i64 0),(.int .i64 0),(.slice .full 0 []),(.str []),(.str []),(.int .i64 0),(.int .i64 0),(.str []),(.slice .full 0 []),(.bool false),(.slice .full 0 []),(.slice .full 0 []),(.slice .full 0 [])]), .m 6 dH, .op none none (.store ct dD 13)]) (.seq (.run [.m 18 bU, .o 19 (.fJ dO), .o 20 (.aC ep 2), .o 21 (.load er false 1), .o 22 (.len ew), .o 23 (.bin .add eJ (.k (.int .i64 1))), .m 8 ey]) (.seq (.run [.o 24 (.load bW true 17), .o 9 (.alloc [(.int .i64 0),(.int .i64 0),(.slice .full 0 []),(.str []),(.str []),(.int .i64 0),(.int .i64 0),(.str []),(.slice .full 0 []),(.bool false),(.slice .full 0 []),(.slice .full 0 []),(.slice .full 0 []),(.int .i64 0),(.int .i64 0),(.int .i64 0),(.int .i64 0)]), .op none none (.store dN fv 17)]) (.seq (.run [.o 25 (.load ct true 13), .o 26 (.aC dN 0), .op none none (.store fP fk 13)]) XI)))
abbrev XK:AC:= .seq (.cond cY .skip (.exit 0)) (.seq (.block 1 XJ) (.run [.o 72 (.bin .add de (.k (.int .i64 1))), .m 13 Ee]))
abbrev XL:AC:= .seq (.run [.m 11 bt, .o 12 (.len cO), .o 13 (.mv (.k (.int .i64 0)))]) (.block 0 (.loop (.seq (.run [.o 14 (.bin .lss de cH)]) XK)))
abbrev XM:AC:= .seq (.run [.o 5 (.box dC)]) XL
abbrev XN:AC:= .block 1 (.seq (.run [.m 10 dd, .m 5 cQ]) (.seq (.run [.m 11 bt, .m 12 bU, .m 13 bW, .o 14 (.bV cH de 1), .o 15 (.load cY false 1),(.fM (some 16) none 11 [dH])]) (.cond cR (.seq (.run [.m 17 bW, .m 4 dD]) .ret) .skip)))
abbrev XO:AC:= .seq (.cond dN .skip (.exit 0)) (.seq XN (.run [.o 18 (.bin .add dd (.k (.int .i64 1))), .m 8 dO]))
abbrev XP:AC:= .seq (.run [.m 6 bU, .o 7 (.len da), .o 8 (.mv (.k (.int .i64 0)))]) (.block 0 (.loop (.seq (.run [.o 9 (.bin .lss dd ct)]) XO)))
abbrev XQ:AC:= .seq (.run [(.o 4 (.mv (.k (.int .i64 (-1)))))]) .ret
abbrev XR:AC:= .seq (.run [.o 4 (.mv (.k (.int .i64 0)))]) (.seq XP XQ)
abbrev XS:AC:= .cond ey (.seq (.run [.o 6 (.mv (.k (.int .i64 3)))]) .ret) .skip
abbrev XT:AC:= .cond fK (.seq (.run [.o 6 (.mv (.k (.int .i64 2)))]) .ret) .skip
abbrev XU:AC:= .seq (.seq (.run [.o 16 (.aC dd 0), .o 17 (.load cR false 1), .m 18 dC, .o 19 (.bin .eql dD dO), .m 20 ep, .g 21 20 true (.aC dd 1), .g 22 20 true (.load ew false 1), .o 23 (.pick er eJ (.k (.bool false)))]) XS) (.seq (.run [.o 24 (.aC dd 0), .o 25 (.load fv false 1), .m 26 dC, .o 27 (.bin .eql fk fP)]) XT)
abbrev XV:AC:= .seq (.block 1 (.seq (.run [.o 14 (.bV cQ cH 2), .o 15 (.load cY true 2), .o 8 (.alloc [(.str []),(.bool false)]), .op none none (.store dd dH 2)]) XU)) (.run [.o 28 (.bin .add cH (.k (.int .i64 1))), .m 12 gB])
abbrev XW:AC:= .block 0 (.loop (.seq (.run [.o 13 (.bin .lss cH cO)]) (.seq (.cond de .skip (.exit 0)) XV)))
abbrev XX:AC:= .cond il (.seq (.run [.o 6 (.mv (.k (.int .i64 4)))]) .ret) .skip
abbrev XY:AC:= .cond jy (.seq (.run [.o 6 (.mv (.k (.int .i64 1)))]) .ret) .skip
abbrev XZ:AC:= .seq (.seq (.run [.o 33 (.aC cT 0), .o 34 (.load gM false 1), .m 35 dC, .c 36 bE [jx,iF]]) XY) (.seq (.run [.o 6 (.mv (.k (.int .i64 0)))]) .ret)
abbrev X0:AC:= .seq (.seq (.run [.o 9 (.aC dZ 1), .o 10 (.load dN false 1), .o 11 (.len cQ), .o 12 (.mv (.k (.int .i64 0)))]) XW) (.seq (.seq (.run [.o 29 (.aC dZ 2), .o 30 (.load gv false 1), .m 31 dC, .c 32 bE [iE,gw]]) XX) XZ)
abbrev X1:AC:= .seq (.run [.o 3 (.box bU), .o 4 (.box bt), .o 6 (.mv (.k (.int .i64 0)))]) X0
abbrev X2:AC:= .seq (.run [.o 4 (.mv (.k (.bool false)))]) (.seq (.run [.m 5 bU, .m 6 bt, .c 7 ei [bW,da], .o 8 (.bin .geq ct (.k (.int .i64 0))), .m 4 dd]) .ret)
abbrev X3:AC:= .seq (.run [.o 2 (.box bU), .o 3 (.mv (.k (.bool false)))]) (.seq (.run [.o 4 (.aC dC 0), .o 5 (.load dZ false 1), .o 6 (.load bt false 1), .o 7 (.bin .eql bW da), .m 3 ct]) .ret)
abbrev X4:AC:= .block 1 (.seq (.run [.m 10 dd, .m 5 cQ]) (.seq (.run [.m 11 bt, .m 12 bU, .m 13 bW, .o 14 (.bV cH de 5), .o 15 (.load cY true 5),(.fM (some 16) none 11 [dH])]) (.cond cR (.seq (.run [.m 17 bW, .m 4 dD]) .ret) .skip)))
abbrev X5:AC:= .seq (.cond dN .skip (.exit 0)) (.seq X4 (.run [.o 18 (.bin .add dd (.k (.int .i64 1))), .m 8 dO]))
abbrev X6:AC:= .seq (.run [.m 6 bU, .o 7 (.len da), .o 8 (.mv (.k (.int .i64 0)))]) (.block 0 (.loop (.seq (.run [.o 9 (.bin .lss dd ct)]) X5)))
abbrev X7:AC:= .seq (.run [(.o 4 (.mv (.k (.int .i64 (-1)))))]) .ret
abbrev X8:AC:= .seq (.run [.o 4 (.mv (.k (.int .i64 0)))]) (.seq X6 X7)
abbrev X9:AC:= .seq (.run [.o 2 (.box bU), .o 3 (.mv (.k (.bool false)))]) (.seq (.run [.o 4 (.aC dC 0), .o 5 (.load dZ false 1), .o 6 (.load bt false 1), .o 7 (.bin .eql bW da), .m 3 ct]) .ret)
abbrev Ya:AC:= .cond bW (.seq (.run [.o 2 (.mv (.k (.slice .full 0 [])))]) .ret) .skip
abbrev Yb:AC:= .seq (.seq (.run [.o 3 (.load bt true 4), .c 4 k9 [cT], .o 5 (.un .not dZ)]) Ya) (.seq (.run [.o 6 (.load bt true 4),(.c 7 fy [da,(.k (.slice .full 0 []))]), .m 2 ct]) .ret)
abbrev Yc:AC:= .seq (.run [.o 1 (.box bU), .o 2 (.mv (.k (.slice .full 0 [])))]) Yb
abbrev Yd:AC:= .seq (.run [.o 2 (.box bU), .o 3 (.box bt), .o 4 (.mv (.k (.bool false)))]) (.seq (.run [.o 5 (.load dC true 2), .c 6 j8 [bW], .o 7 (.se da 0 false 1), .o 8 (.bin .eql ct (.k (.int .i64 0))), .m 9 dd, .g 10 9 true (.load dC true 2), .g 11 9 true (.load cT true 13), .d 12 9 true mw [cQ,cO], .o 13 (.pick dN cH (.k (.bool false))), .m 4 de]) .ret)
abbrev Ye:AC:= .cond cO (.seq (.run [.o 4 (.mv (.k (.bool false)))]) .ret) .skip
abbrev Yf:AC:= .par [.o 19 (.aC da 1), .o 20 (.load ep false 1), .m 21 bt, .m 22 bW, .o 23 (.bV ew eJ 6), .o 24 (.aC ey 0), .o 25 (.load fv false 1), .o 26 (.xE true er fk)] [(0,0),(1,0),(2,0),(3,0),(4,0),(5,0),(6,0),(7,0)]
abbrev Yg:AC:= .cond fP (.seq (.run [.o 4 (.mv (.k (.bool false)))]) .ret) .skip
abbrev Yh:AC:= .seq (.block 1 (.seq (.run [.m 16 cY, .o 17 (.bV cH cY 2), .o 18 (.load dD true 2), .o 6 (.alloc [(.str []),(.bool false)]), .m 5 cR, .op none none (.store da dO 2)]) (.seq Yf Yg))) (.run [.o 27 (.bin .add cY (.k (.int .i64 1))), .m 14 fK])
abbrev Yi:AC:= .block 0 (.loop (.seq (.run [.o 15 (.bin .lss cY de)]) (.seq (.cond dH .skip (.exit 0)) Yh)))
abbrev Yj:AC:= .seq (.seq (.run [.m 12 bU, .o 13 (.len cH), .o 14 (.mv (.k (.int .i64 0)))]) Yi) (.seq (.run [.o 4 (.mv (.k (.bool true)))]) .ret)
abbrev Yk:AC:= .seq (.run [.o 4 (.mv (.k (.bool false)))]) (.seq (.seq (.run [.m 7 bU, .o 8 (.len ct), .m 9 bt, .o 10 (.len dN), .o 11 (.bin .neq dd cQ)]) Ye) Yj)
abbrev Yl:AC:= .run [.m 23 dZ, .m 24 bU, .m 25 cO, .o 26 (.bV fv fk 13), .o 27 (.load fP true 13), .m 28 bt, .m 29 dC, .m 30 cT, .o 31 (.build [(.int .i64 0),(.int .i64 0),(.slice .full 0 []),(.str []),(.str []),(.int .i64 0),(.int .i64 0),(.str []),(.slice .full 0 []),(.bool false),(.slice .full 0 []),(.slice .full 0 []),(.slice .full 0 []),(.int .i64 0),(.int .i64 0),(.bool false)] [(0,(13,fK)),(13,(1,gB)),(14,(1,gv)),(15,(1,iE))]), .o 32 (.dc [(.int .i64 0),(.int .i64 0),(.slice .full 0 []),(.str []),(.str []),(.int .i64 0),(.int .i64 0),(.str []),(.slice .full 0 []),(.bool false),(.slice .full 0 []),(.slice .full 0 []),(.slice .full 0 []),(.int .i64 0),(.int .i64 0),(.bool false)] 16 1 [(0,gw)]), .o 33 (.app 16 232 ey il), .m 4 gM]
abbrev Ym:AC:= .par [.m 36 bU, .m 37 cO, .o 38 (.bV jy kn 13), .o 39 (.aC ll 11), .o 40 (.load ko false 1), .m 41 bt, .o 42 (.bin .add ln (.k (.int .i64 1))), .m 43 bU, .m 44 cO, .o 45 (.bV nk nn 13), .o 46 (.aC ou 0), .o 47 (.load ov false 1), .m 48 dZ, .c 49 iZ [lP,mC,ow,(.k (.bool false)),ox], .m 4 np] [(0,0),(1,0),(2,0),(3,0),(4,0),(5,0),(6,0),(7,0),(8,0),(9,0),(10,0),(11,0),(12,0),(13,0),(14,0)]
abbrev Yn:AC:= .par [.m 50 bU, .m 51 cO, .o 52 (.bV oy mD 13), .o 53 (.aC oz 12), .o 54 (.load oA false 1), .m 55 bt, .o 56 (.bin .add po (.k (.int .i64 1))), .m 57 bU, .m 58 cO, .o 59 (.bV px py 13), .o 60 (.aC mE 0), .o 61 (.load rL false 1), .m 62 dZ, .c 63 iZ [oB,pw,vf,(.k (.bool true)),tt], .m 4 vg] [(0,0),(1,0),(2,0),(3,0),(4,0),(5,0),(6,0),(7,0),(8,0),(9,0),(10,0),(11,0),(12,0),(13,0),(14,0)]
abbrev Yo:AC:= .seq Yl (.seq (.run [.m 34 bt, .o 35 (.bin .leq jx (.k (.int .i64 12)))]) (.cond iF (.seq Ym Yn) .skip))
abbrev Yp:AC:= .seq (.seq (.run [.m 12 cO, .m 13 bU, .o 14 (.len de), .o 15 (.bin .lss cH cY), .m 16 dH, .g 17 16 true (.mv dZ), .g 18 16 true (.len dD), .g 19 16 true (.bin .leq dO (.k (.int .i64 200))), .o 20 (.pick cR ep (.k (.bool false)))]) (.cond er .skip (.exit 0))) (.seq (.block 1 Yo) (.run [.m 21 cO, .o 22 (.bin .add ew (.k (.int .i64 1))), .m 11 eJ]))
abbrev Yq:AC:= .seq (.seq (.run [.o 11 (.mv (.k (.int .i64 0)))]) (.block 0 (.loop Yp))) (.seq (.run [.m 64 dZ, .m 10 rM]) .ret)
abbrev Yr:AC:= .seq (.run [.o 10 (.mv (.k (.slice .full 0 [])))]) Yq
abbrev Ys:AC:= .seq (.run [.o 2 (.mv (.k (.bool false)))]) (.seq (.run [.m 3 bU, .o 4 (.bin .geq cT (.k (.int .u8 97))), .m 5 dZ, .g 6 5 true (.mv bU), .g 7 5 true (.bin .leq da (.k (.int .u8 122))), .o 8 (.pick bW ct (.k (.bool false))), .m 2 dd]) .ret)
abbrev Yt:AC:= .seq (.seq (.run [.m 5 bt, .m 6 bU, .o 7 (.o5 da), .o 8 (.bin .lss bW ct), .m 9 dd, .g 10 9 true (.mv bU), .g 11 9 true (.mv bt), .g 12 9 true (.sL cQ cO), .d 13 9 true mA [cH], .g 14 9 true (.mv de), .g 15 14 false (.mv bU), .g 16 14 false (.mv bt), .g 17 14 false (.sL dH cR), .d 18 14 false qH [dD], .g 19 9 true (.pick cY (.k (.bool true)) dO), .o 20 (.pick dN ep (.k (.bool false)))]) (.cond er .skip (.exit 0))) (.block 1 (.run [.m 21 bt, .o 22 (.bin .add ew (.k (.int .i64 1))), .m 1 eJ]))
abbrev Yu:AC:= .seq (.run [.o 4 (.mv (.k (.int .i64 0)))]) (.seq (.block 0 (.loop Yt)) (.seq (.run [.m 23 bt, .m 4 ey]) .ret))
abbrev Yv:AC:= .seq (.run [.o 16 (.bin .eql cT (.k (.str [114,101,97,100]))), .m 4 cR]) (.cond dZ .skip (.run [.o 17 (.bin .eql cT (.k (.str [112,114,105,110,116]))), .m 4 dD]))
abbrev Yw:AC:= .cond dZ .skip (.seq (.run [.o 15 (.bin .eql cT (.k (.str [103,111,116,111]))), .m 4 dH]) (.cond dZ .skip Yv))
abbrev Yx:AC:= .cond dZ .skip (.seq (.run [.o 14 (.bin .eql cT (.k (.str [114,101,116,117,114,110]))), .m 4 cY]) Yw)
abbrev Yy:AC:= .cond dZ .skip (.seq (.run [.o 13 (.bin .eql cT (.k (.str [99,111,110,116,105,110,117,101]))), .m 4 de]) Yx)
abbrev Yz:AC:= .cond dZ .skip (.seq (.run [.o 12 (.bin .eql cT (.k (.str [98,114,101,97,107]))), .m 4 cH]) Yy)
abbrev YA:AC:= .cond dZ .skip (.seq (.run [.o 11 (.bin .eql cT (.k (.str [119,104,105,108,101]))), .m 4 cO]) Yz)
abbrev YB:AC:= .cond dZ .skip (.seq (.run [.o 10 (.bin .eql cT (.k (.str [101,108,115,101]))), .m 4 cQ]) YA)
abbrev YC:AC:= .cond dZ .skip (.seq (.run [.o 9 (.bin .eql cT (.k (.str [105,102]))), .m 4 dN]) YB)
abbrev YD:AC:= .cond dZ .skip (.seq (.run [.o 8 (.bin .eql cT (.k (.str [114,101,102]))), .m 4 dd]) YC)
abbrev YE:AC:= .cond dZ .skip (.seq (.run [.o 7 (.bin .eql cT (.k (.str [118,97,114]))), .m 4 ct]) YD)
abbrev YF:AC:= .cond dZ .skip (.seq (.run [.o 6 (.bin .eql cT (.k (.str [112,114,111,99]))), .m 4 da]) YE)
abbrev YG:AC:= .cond dZ (.seq (.run [.o 2 (.mv (.k (.bool true)))]) .ret) .skip
abbrev YH:AC:= .seq (.seq (.run [.o 5 (.bin .eql cT (.k (.str [103,108,111,98,97,108]))), .m 4 bW]) YF) YG
abbrev YI:AC:= .seq (.seq (.run [.m 3 bU]) (.block 0 YH)) (.seq (.run [.o 2 (.mv (.k (.bool false)))]) .ret)
abbrev YJ:AC:= .seq (.run [.o 2 (.mv (.k (.bool false)))]) YI
abbrev YK:AC:= .par [.o 10 (.aC bt 9), .o 11 (.load cQ false 1), .o 3 (.mv (.k (.bool false))), .o 4 (.mv (.k (.bool false))), .o 5 (.mv (.k (.bool false))), .m 6 cO, .o 7 (.mv (.k (.bool false))), .o 8 (.mv (.k (.bool false)))] [(0,0),(1,0),(2,0),(3,0),(4,0),(5,0),(6,0),(7,0)]
abbrev YL:AC:= .seq (.run [.o 20 (.bin .eql cR (.k (.int .i64 2))), .m 19 er]) (.cond ep .skip (.run [.o 21 (.bin .eql cR (.k (.int .i64 10))), .m 19 ew]))
abbrev YM:AC:= .seq (.run [.o 38 (.bin .eql cR (.k (.int .i64 7))), .m 37 ll]) (.cond kn .skip (.run [.o 39 (.bin .eql cR (.k (.int .i64 8))), .m 37 ko]))
abbrev YN:AC:= .cond kn .skip (.seq (.run [.o 2 (.mv (.k (.bool false)))]) .ret)
abbrev YO:AC:= .seq (.run [.o 34 (.bin .eql cR (.k (.int .i64 9))), .m 33 jx]) (.cond gM (.run [.o 35 (.aC bt 9), .o 36 (.load iF false 1), .m 5 jy, .o 6 (.mv (.k (.bool false)))]) (.seq YM YN))
abbrev YP:AC:= .seq (.run [.o 32 (.bin .eql cR (.k (.int .i64 6))), .m 31 il]) (.cond gw (.run [.o 5 (.mv (.k (.bool true))), .o 7 (.mv (.k (.bool true)))]) YO)
abbrev YQ:AC:= .seq (.run [.o 30 (.bin .eql cR (.k (.int .i64 5))), .m 29 iE]) (.cond gv (.run [.o 5 (.mv (.k (.bool true))), .o 7 (.mv (.k (.bool true))), .o 8 (.mv (.k (.bool true)))]) YP)
abbrev YR:AC:= .seq (.run [.o 25 (.bin .eql cR (.k (.int .i64 4))), .m 24 fk]) (.cond fv (.run [.o 26 (.aC bt 3), .o 27 (.load fP false 1), .o 28 (.bin .neq fK (.k (.str []))), .m 3 gB, .o 4 (.mv (.k (.bool true)))]) YQ)
abbrev YS:AC:= .seq (.run [.o 23 (.bin .eql cR (.k (.int .i64 3))), .m 22 ey]) (.cond eJ (.run [.o 5 (.mv (.k (.bool true)))]) YR)
abbrev YT:AC:= .seq YL (.cond ep (.run [.o 3 (.mv (.k (.bool true)))]) YS)
abbrev YU:AC:= .seq (.run [.o 18 (.bin .eql cR (.k (.int .i64 1))), .m 17 dO]) (.cond dD (.run [.o 3 (.mv (.k (.bool true))), .o 5 (.mv (.k (.bool true)))]) YT)
abbrev YV:AC:= .run [.m 40 da, .m 41 lP, .g 42 41 false (.mv ct), .g 43 41 false (.un .not mC), .g 44 41 false (.mv nk), .g 45 44 true (.aC bt 11), .g 46 44 true (.load ou false 1), .g 47 44 true (.len ov), .g 48 44 true (.bin .gtr ow (.k (.int .i64 0))), .g 49 41 false (.pick nn ox (.k (.bool false))), .o 50 (.pick ln (.k (.bool true)) np), .m 51 oy, .g 52 51 false (.mv dd), .g 53 51 false (.un .not oz), .g 54 51 false (.mv oA), .g 55 54 true (.aC bt 12), .g 56 54 true (.load po false 1), .g 57 54 true (.len pw), .g 58 54 true (.bin .gtr px (.k (.int .i64 0))), .g 59 51 false (.pick oB py (.k (.bool false))), .o 60 (.pick mD (.k (.bool true)) mE), .m 61 rL, .g 62 61 false (.mv dN), .g 63 61 false (.un .not tt), .g 64 61 false (.mv vg), .g 65 64 true (.aC bt 10), .g 66 64 true (.load xb false 1), .g 67 64 true (.len Aj), .g 68 64 true (.bin .gtr xc (.k (.int .i64 0))), .g 69 61 false (.pick rM xd (.k (.bool false))), .o 70 (.pick vf (.k (.bool true)) Ak)]
abbrev YW:AC:= .cond Al (.seq (.run [.o 2 (.mv (.k (.bool false)))]) .ret) .skip
abbrev YX:AC:= .cond NL (.seq (.run [.o 2 (.mv (.k (.bool false)))]) .ret) .skip
abbrev Ri:AC:= .seq (.seq (.run [.o 71 (.aC bt 3), .o 72 (.load IN false 1), .m 73 cT, .c 74 kT [Ee,IP], .o 75 (.un .not IQ), .m 76 IS, .g 77 76 false (.aC bt 4), .g 78 76 false (.load IT false 1), .g 79 76 false (.mv dZ), .d 80 76 false kT [Am,Ny], .g 81 76 false (.un .not Nz), .o 82 (.pick Ef (.k (.bool true)) NA), .m 83 NB, .g 84 83 false (.aC bt 5), .g 85 83 false (.load ND true 4), .g 86 83 false (.mv bW), .d 87 83 false mB [NF,NG], .g 88 83 false (.un .not NH), .o 89 (.pick NC (.k (.bool true)) NK)]) YX) (.seq (.run [.o 90 (.aC bt 10), .o 91 (.load NM false 1), .c 92 oq [NN], .m 2 NO]) .ret)
abbrev Rj:AC:= .seq (.seq YV YW) Ri
abbrev NP:AC:= .seq (.seq (.run [.o 15 (.aC bt 1), .o 16 (.load dH false 1)]) (.block 0 YU)) Rj
abbrev Rk:AC:= .seq (.run [.o 12 (.aC bt 1), .o 13 (.load cH false 1), .o 14 (.bin .eql de (.k (.int .i64 4))), .m 9 cY]) NP
abbrev Rl:AC:= .seq YK Rk
abbrev YY:AC:= .seq (.run [.o 1 (.box bU), .o 2 (.mv (.k (.bool false)))]) Rl
end Go.Abs

/-! Have1 -/

namespace Go.Abs
open Go.Proofs
theorem Ap:Has Try.prog jP 55 [(2,none)] Wl:=⟨Try.f32,by kernel_rfl,by kernel_rfl⟩
theorem yH:Has Try.prog qE 23 [(2,none)] Wp:=⟨Try.f33,by kernel_rfl,by kernel_rfl⟩
theorem mF:Has Try.prog dY 9 [(4,none)] Wq:=⟨Try.f34,by kernel_rfl,by kernel_rfl⟩
theorem ur:Has Try.prog kC 8 [(3,none)] Wr:=⟨Try.f35,by kernel_rfl,by kernel_rfl⟩
theorem oC:Has Try.prog bE 9 [(4,none)] Ws:=⟨Try.f36,by kernel_rfl,by kernel_rfl⟩
theorem uu:Has Try.prog iR 26 [(4,none)] Wu:=⟨Try.f37,by kernel_rfl,by kernel_rfl⟩
theorem wb:Has Try.prog lI 38 [(8,none)] WA:=⟨Try.f38,by kernel_rfl,by kernel_rfl⟩
theorem qb:Has Try.prog oj 15 [(4,none)] WB:=⟨Try.f39,by kernel_rfl,by kernel_rfl⟩
theorem yI:Has Try.prog qF 40 [(4,none)] WI:=⟨Try.f40,by kernel_rfl,by kernel_rfl⟩
theorem wc:Has Try.prog om 33 [(4,none)] WM:=⟨Try.f41,by kernel_rfl,by kernel_rfl⟩
theorem sF:Has Try.prog jl 12 [(4,none)] WN:=⟨Try.f42,by kernel_rfl,by kernel_rfl⟩
theorem xe:Has Try.prog mq 45 [(2,none)] WU:=⟨Try.f43,by kernel_rfl,by kernel_rfl⟩
theorem q5:Has Try.prog mr 21 [(4,none)] WY:=⟨Try.f46,by kernel_rfl,by kernel_rfl⟩
theorem q6:Has Try.prog mw 28 [(4,none)] W5:=⟨Try.f47,by kernel_rfl,by kernel_rfl⟩
theorem vh:Has Try.prog k8 41 [(4,none)] Xc:=⟨Try.f48,by kernel_rfl,by kernel_rfl⟩
theorem yJ:Has Try.prog qG 6 [(2,none)] Xd:=⟨Try.f52,by kernel_rfl,by kernel_rfl⟩
theorem Aq:Has Try.prog my 5 [(2,(some (true,4)))] Xf:=⟨Try.f53,by kernel_rfl,by kernel_rfl⟩
theorem yK:Has Try.prog gS 5 [(2,(some (true,4)))] Xh:=⟨Try.f54,by kernel_rfl,by kernel_rfl⟩
theorem As:Has Try.prog oU 12 [(6,(some (true,4)))] Xi:=⟨Try.f55,by kernel_rfl,by kernel_rfl⟩
theorem tu:Has Try.prog gi 29 [(4,none)] Xl:=⟨Try.f56,by kernel_rfl,by kernel_rfl⟩
theorem xf:Has Try.prog jw 15 [(2,none)] Xq:=⟨Try.f57,by kernel_rfl,by kernel_rfl⟩
theorem jz:Has Try.prog jQ 27 [(2,none)] Xt:=⟨Try.f58,by kernel_rfl,by kernel_rfl⟩
theorem mH:Has Try.prog gu 71 [(6,none)] XE:=⟨Try.f59,by kernel_rfl,by kernel_rfl⟩
theorem tv:Has Try.prog gj 73 [] XM:=⟨Try.f60,by kernel_rfl,by kernel_rfl⟩
theorem nZ:Has Try.prog gL 19 [(4,none)] XR:=⟨Try.f61,by kernel_rfl,by kernel_rfl⟩
theorem xg:Has Try.prog ph 37 [(6,none)] X1:=⟨Try.f62,by kernel_rfl,by kernel_rfl⟩
theorem lQ:Has Try.prog eQ 9 [(4,none)] X2:=⟨Try.f63,by kernel_rfl,by kernel_rfl⟩
theorem uv:Has Try.prog kD 8 [(3,none)] X3:=⟨Try.f64,by kernel_rfl,by kernel_rfl⟩
theorem mP:Has Try.prog ei 19 [(4,none)] X8:=⟨Try.f65,by kernel_rfl,by kernel_rfl⟩
theorem q7:Has Try.prog iw 8 [(3,none)] X9:=⟨Try.f66,by kernel_rfl,by kernel_rfl⟩
theorem q8:Has Try.prog mz 8 [(2,none)] Yc:=⟨Try.f67,by kernel_rfl,by kernel_rfl⟩
theorem xh:Has Try.prog pj 14 [(4,none)] Yd:=⟨Try.f70,by kernel_rfl,by kernel_rfl⟩
theorem q9:Has Try.prog pk 28 [(4,none)] Yk:=⟨Try.f71,by kernel_rfl,by kernel_rfl⟩
theorem sr:Has Try.prog iZ 65 [(10,none)] Yr:=⟨Try.f73,by kernel_rfl,by kernel_rfl⟩
theorem xi:Has Try.prog mA 9 [(2,none)] Ys:=⟨Try.f74,by kernel_rfl,by kernel_rfl⟩
theorem BD:Has Try.prog tp 24 [(4,none)] Yu:=⟨Try.f75,by kernel_rfl,by kernel_rfl⟩
theorem Au:Has Try.prog rK 18 [(2,none)] YJ:=⟨Try.f76,by kernel_rfl,by kernel_rfl⟩
theorem we:Has Try.prog oo 93 [(2,none)] YY:=⟨Try.f77,by kernel_rfl,by kernel_rfl⟩
end Go.Abs

/-! Codes2 -/

namespace Go.Abs
abbrev YZ:AC:= .seq (.block 1 (.seq (.run [.o 13 (.bV dN cO 13), .o 14 (.load de true 13), .o 5 (.alloc [(.int .i64 0),(.int .i64 0),(.slice .full 0 []),(.str []),(.str []),(.int .i64 0),(.int .i64 0),(.str []),(.slice .full 0 []),(.bool false),(.slice .full 0 []),(.slice .full 0 []),(.slice .full 0 [])]), .op none none (.store bW cY 13)]) (.run [.m 15 cT, .o 16 (.load bW true 13), .c 17 ja [cR], .o 18 (.bin .add dH dD), .m 3 dO]))) (.run [.o 19 (.bin .add cO (.k (.int .i64 1))), .m 11 ep])
abbrev Y0:AC:= .block 0 (.loop (.seq (.run [.o 12 (.bin .lss cO cQ)]) (.seq (.cond cH .skip (.exit 0)) YZ)))
abbrev Y1:AC:= .seq (.block 3 (.seq (.run [.o 25 (.bV ew ey 13), .o 26 (.load fk true 13), .o 7 (.alloc [(.int .i64 0),(.int .i64 0),(.slice .full 0 []),(.str []),(.str []),(.int .i64 0),(.int .i64 0),(.str []),(.slice .full 0 []),(.bool false),(.slice .full 0 []),(.slice .full 0 []),(.slice .full 0 [])]), .op none none (.store ct fP 13)]) (.run [.m 27 cT, .o 28 (.load ct true 13), .c 29 ja [gB], .o 30 (.bin .add fK gv), .m 3 iE]))) (.run [.o 31 (.bin .add ey (.k (.int .i64 1))), .m 23 gw])
abbrev Y2:AC:= .block 2 (.loop (.seq (.run [.o 24 (.bin .lss ey eJ)]) (.seq (.cond fv .skip (.exit 2)) Y1)))
abbrev Y3:AC:= .seq (.seq (.run [.o 20 (.aC bt 12), .o 21 (.load er false 1), .o 22 (.len ew), .o 23 (.mv (.k (.int .i64 0)))]) Y2) (.seq (.run [.m 32 cT, .m 2 il]) .ret)
abbrev Y4:AC:= .seq (.seq (.run [.o 8 (.aC bt 11), .o 9 (.load dd false 1), .o 10 (.len dN), .o 11 (.mv (.k (.int .i64 0)))]) Y0) Y3
abbrev Y5:AC:= .seq (.run [.o 1 (.box bU), .o 2 (.mv (.k (.int .i64 0)))]) (.seq (.run [.o 3 (.mv (.k (.int .i64 1)))]) Y4)
abbrev Y6:AC:= .seq (.run [.o 1 (.box bU), .o 2 (.mv (.k (.bool false)))]) (.seq (.run [.o 3 (.load bt true 4), .c 4 lC [cT,(.k (.int .i64 20))], .m 2 dZ]) .ret)
abbrev Y7:AC:= .seq (.block 1 (.seq (.run [.o 27 (.bV ey fk 4), .o 28 (.load fK true 4), .o 6 (.alloc [(.int .i64 0),(.int .i64 0),(.str []),(.slice .full 0 [])]), .op none none (.store da gB 4)]) (.run [.o 29 (.load da true 4), .m 30 bt, .c 31 fy [gv,iE], .m 1 gw]))) (.run [.o 32 (.bin .add fk (.k (.int .i64 1))), .m 25 il])
abbrev Y8:AC:= .block 0 (.loop (.seq (.run [.o 26 (.bin .lss fk fv)]) (.seq (.cond fP .skip (.exit 0)) Y7)))
abbrev Y9:AC:= .seq (.seq (.run [.o 22 (.aC dC 3), .o 23 (.load eJ false 1), .o 24 (.len ey), .o 25 (.mv (.k (.int .i64 0)))]) Y8) (.seq (.run [.m 33 bt, .m 4 gM]) .ret)
abbrev Za:AC:= .seq (.seq (.run [.o 7 (.aC dC 0), .o 8 (.load ct false 1), .o 9 (.bin .eql dd (.k (.int .i64 2))), .m 10 dN, .g 11 10 true (.mv bt), .g 12 10 true (.aC dC 2), .g 13 10 true (.load cH false 1), .d 14 10 true bE [cO,de], .g 15 10 true (.un .not cY), .o 16 (.pick cQ dH (.k (.bool false)))]) (.cond cR (.run [.m 17 bt, .o 18 (.aC dC 2), .o 19 (.load dO false 1), .o 20 (.dc [(.str [])] 1 1 [(0,ep)]), .o 21 (.app 1 16 dD er), .m 1 ew]) .skip)) Y9
abbrev Zb:AC:= .seq (.run [.o 2 (.box bU), .o 4 (.mv (.k (.slice .full 0 [])))]) Za
abbrev Zc:AC:= .seq (.run [.o 2 (.mv (.k (.bool false)))]) (.seq (.run [.m 3 bU, .o 4 (.bin .geq cT (.k (.int .u8 48))), .m 5 dZ, .g 6 5 true (.mv bU), .g 7 5 true (.bin .leq da (.k (.int .u8 57))), .o 8 (.pick bW ct (.k (.bool false))), .m 2 dd]) .ret)
abbrev Zd:AC:= .seq (.run [.o 4 (.mv (.k (.bool false)))]) (.seq (.run [.m 5 bt, .m 6 bW, .g 7 6 true (.mv bU), .d 8 6 true jQ [ct], .o 9 (.pick da dd (.k (.bool false))), .m 10 dN, .g 11 10 false (.mv bt), .g 12 10 false (.un .not cO), .g 13 10 false (.mv cH), .g 14 13 true (.mv bU), .g 15 13 true (.bin .eql cY (.k (.str []))), .g 16 10 false (.pick de dH (.k (.bool false))), .o 17 (.pick cQ (.k (.bool true)) cR), .m 4 dD]) .ret)
abbrev Ze:AC:= .seq (.run [.o 2 (.box bU), .o 4 (.mv (.k (.bool false)))]) (.seq (.run [.m 5 bt, .m 6 bW, .g 7 6 true (.load dC true 4), .d 8 6 true k9 [ct], .o 9 (.pick da dd (.k (.bool false))), .m 10 dN, .g 11 10 false (.mv bt), .g 12 10 false (.un .not cO), .g 13 10 false (.mv cH), .g 14 13 true (.load dC true 4), .d 15 13 true qI [cY], .g 16 10 false (.pick de dH (.k (.bool false))), .o 17 (.pick cQ (.k (.bool true)) cR), .m 4 dD]) .ret)
abbrev Zf:AC:= .cond fk (.seq (.run [.o 2 (.mv (.k (.bool false)))]) .ret) .skip
abbrev Zg:AC:= .seq (.run [.o 9 (.bV bW ct 6), .o 10 (.load dN true 6), .o 4 (.alloc [(.bool false),(.str []),(.int .i64 0),(.int .i64 0),(.str []),(.slice .full 0 [])]), .op none none (.store dZ cQ 6)]) (.seq (.run [.o 11 (.aC dZ 1), .o 12 (.load cO false 1), .o 13 (.aC dZ 0), .o 14 (.load de false 1), .c 15 kT [cH,cY], .o 16 (.un .not dH), .m 17 cR, .g 18 17 false (.aC dZ 2), .g 19 17 false (.load dO true 4), .g 20 17 false (.aC dZ 0), .g 21 17 false (.load er false 1), .g 22 17 false (.un .not ew), .d 23 17 false mB [ep,eJ], .g 24 17 false (.un .not ey), .o 25 (.pick dD (.k (.bool true)) fv)]) Zf)
abbrev Sv:AC:= .seq (.cond dd .skip (.exit 0)) (.seq (.block 1 Zg) (.run [.o 26 (.bin .add ct (.k (.int .i64 1))), .m 7 fP]))
abbrev Sw:AC:= .seq (.run [.m 5 bU, .o 6 (.len bW), .o 7 (.mv (.k (.int .i64 0)))]) (.block 0 (.loop (.seq (.run [.o 8 (.bin .lss ct da)]) Sv)))
abbrev Sx:AC:= .seq Sw (.seq (.run [.o 2 (.mv (.k (.bool true)))]) .ret)
abbrev Sy:AC:= .seq (.run [.o 2 (.mv (.k (.bool false)))]) Sx
abbrev Sz:AC:= .par [.m 7 bt, .o 8 (.bin .lss ct (.k (.int .i64 1))), .m 9 dd, .g 10 9 false (.aC dC 3), .g 11 9 false (.load cQ false 1), .g 12 9 false (.len cO), .g 13 9 false (.aC dC 0), .g 14 9 false (.load de false 1), .d 15 9 false qJ [cY], .g 16 9 false (.bin .neq cH dH), .o 17 (.pick dN (.k (.bool true)) cR)] [(0,0),(1,0),(2,0),(6,0),(7,0),(8,0),(3,0),(4,1),(5,0),(9,0),(10,0)]
abbrev SA:AC:= .cond dD (.seq (.run [.o 4 (.mv (.k (.bool false)))]) .ret) .skip
abbrev SB:AC:= .cond iE (.seq (.run [.o 32 (.aC dC 1), .o 33 (.load il false 1), .o 34 (.bin .eql gM (.k (.int .i64 0))), .m 35 jx, .g 36 35 true (.aC dC 2), .g 37 35 true (.load jy false 1), .d 38 35 true jQ [kn], .o 39 (.pick iF ll (.k (.bool false))), .m 4 ko]) .ret) .skip
abbrev SC:AC:= .cond er (.seq (.run [.o 22 (.aC dC 1), .o 23 (.load eJ false 1), .o 24 (.bin .geq ey (.k (.int .i64 0))), .m 25 fv, .g 26 25 true (.aC dC 2), .g 27 25 true (.load fP false 1), .g 28 25 true (.bin .eql fK (.k (.str []))), .o 29 (.pick fk gB (.k (.bool false))), .m 4 gv]) .ret) (.seq (.run [.o 31 (.bin .eql ep (.k (.int .i64 2))), .m 30 gw]) SB)
abbrev SD:AC:= .block 0 (.seq (.run [.o 21 (.bin .eql ep (.k (.int .i64 1))), .m 20 ew]) SC)
abbrev SE:AC:= .cond ow (.seq (.run [.o 4 (.mv (.k (.bool false)))]) .ret) .skip
abbrev SF:AC:= .cond mE (.seq (.run [.o 4 (.mv (.k (.bool false)))]) .ret) .skip
abbrev SG:AC:= .seq (.run [.o 53 (.bV np mD 4), .o 54 (.load oA true 4), .o 6 (.alloc [(.int .i64 0),(.int .i64 0),(.str []),(.slice .full 0 [])]), .op none none (.store da oB 4)]) (.seq (.run [.o 55 (.load da true 4), .m 56 bt, .o 57 (.bin .sub pw (.k (.int .i64 1))), .c 58 lC [po,px], .o 59 (.un .not py)]) SF)
abbrev SH:AC:= .seq (.cond oz .skip (.exit 1)) (.seq (.block 2 SG) (.run [.o 60 (.bin .add mD (.k (.int .i64 1))), .m 51 rL]))
abbrev SI:AC:= .seq (.run [.o 48 (.aC dC 3), .o 49 (.load ox false 1), .o 50 (.len np), .o 51 (.mv (.k (.int .i64 0)))]) (.block 1 (.loop (.seq (.run [.o 52 (.bin .lss mD oy)]) SH)))
abbrev SJ:AC:= .seq SI (.seq (.run [.o 4 (.mv (.k (.bool true)))]) .ret)
abbrev SK:AC:= .seq (.seq (.run [.o 40 (.aC dC 1), .o 41 (.load lP false 1), .o 42 (.bin .neq ln (.k (.int .i64 0))), .m 43 mC, .g 44 43 false (.aC dC 2), .g 45 43 false (.load nn false 1), .g 46 43 false (.bin .neq ou (.k (.str []))), .o 47 (.pick nk (.k (.bool true)) ov)]) SE) SJ
abbrev SL:AC:= .seq (.run [.o 2 (.box bU), .o 4 (.mv (.k (.bool false)))]) (.seq (.seq Sz SA) (.seq (.seq (.run [.o 18 (.aC dC 0), .o 19 (.load dO false 1)]) SD) SK))
abbrev SM:AC:= .seq (.run [.o 1 (.box bU), .o 2 (.mv (.k (.bool false)))]) (.seq (.run [.o 3 (.aC bt 0), .o 4 (.load cT false 1), .o 5 (.bin .eql dZ (.k (.int .i64 0))), .m 6 bW, .g 7 6 true (.aC bt 1), .g 8 6 true (.load ct false 1), .g 9 6 true (.bin .eql dd (.k (.int .i64 0))), .o 10 (.pick da dN (.k (.bool false))), .m 11 cQ, .g 12 11 true (.aC bt 2), .g 13 11 true (.load cH false 1), .g 14 11 true (.bin .eql de (.k (.str []))), .o 15 (.pick cO cY (.k (.bool false))), .m 16 dH, .g 17 16 true (.aC bt 3), .g 18 16 true (.load dD false 1), .g 19 16 true (.len dO), .g 20 16 true (.bin .eql ep (.k (.int .i64 0))), .o 21 (.pick cR er (.k (.bool false))), .m 2 ew]) .ret)
abbrev SN:AC:= .cond dD (.seq (.run [.o 2 (.mv (.k (.int .i64 2)))]) .ret) .skip
abbrev SO:AC:= .cond cQ (.seq (.run [.o 2 (.mv (.k (.int .i64 1)))]) .ret) (.seq (.run [.m 18 bU, .o 19 (.bin .geq dO (.k (.int .i64 5))), .m 20 ep, .g 21 20 true (.mv bU), .g 22 20 true (.bin .leq ew (.k (.int .i64 17))), .o 23 (.pick er eJ (.k (.bool false))), .m 17 ey]) SN)
abbrev SP:AC:= .cond cT (.seq (.run [.o 2 (.mv (.k (.int .i64 0)))]) .ret) (.seq (.run [.m 11 bU, .o 12 (.bin .eql cO (.k (.int .i64 3))), .m 13 cH, .g 14 13 false (.mv bU), .g 15 13 false (.bin .eql cY (.k (.int .i64 4))), .o 16 (.pick de (.k (.bool true)) dH), .m 10 cR]) SO)
abbrev SQ:AC:= .block 0 (.seq (.run [.m 4 bU, .o 5 (.bin .eql dZ (.k (.int .i64 1))), .m 6 bW, .g 7 6 false (.mv bU), .g 8 6 false (.bin .eql ct (.k (.int .i64 2))), .o 9 (.pick da (.k (.bool true)) dd), .m 3 dN]) SP)
abbrev SR:AC:= .seq (.run [(.o 2 (.mv (.k (.int .i64 (-1)))))]) .ret
abbrev SS:AC:= .seq (.run [.o 2 (.mv (.k (.int .i64 0)))]) (.seq SQ SR)
end Go.Abs

/-! Have2 -/

namespace Go.Abs
open Go.Proofs
theorem yL:Has Try.prog ja 33 [(2,none)] Y5:=⟨Try.f78,by kernel_rfl,by kernel_rfl⟩
theorem vi:Has Try.prog k9 5 [(2,none)] Y6:=⟨Try.f79,by kernel_rfl,by kernel_rfl⟩
theorem mI:Has Try.prog fy 34 [(4,none)] Zb:=⟨Try.f80,by kernel_rfl,by kernel_rfl⟩
theorem yM:Has Try.prog qH 9 [(2,none)] Zc:=⟨Try.f93,by kernel_rfl,by kernel_rfl⟩
theorem xj:Has Try.prog kT 18 [(4,none)] Zd:=⟨Try.f94,by kernel_rfl,by kernel_rfl⟩
theorem xk:Has Try.prog mB 18 [(4,none)] Ze:=⟨Try.f95,by kernel_rfl,by kernel_rfl⟩
theorem wg:Has Try.prog oq 27 [(2,none)] Sy:=⟨Try.f96,by kernel_rfl,by kernel_rfl⟩
theorem su:Has Try.prog lC 61 [(4,none)] SL:=⟨Try.f97,by kernel_rfl,by kernel_rfl⟩
theorem yN:Has Try.prog qI 22 [(2,none)] SM:=⟨Try.f104,by kernel_rfl,by kernel_rfl⟩
theorem yO:Has Try.prog qJ 24 [(2,none)] SS:=⟨Try.f105,by kernel_rfl,by kernel_rfl⟩
end Go.Abs

/-! Have3 -/



/-! Frz -/

namespace Go.Abs
theorem aI.sK {P:Program} {f:Nat} {args:List D} {s0 s:St} {o off n m:Nat} {row:List D} (h:aI P f args s0 (.ptr o off) s) (ho:s.au[o]? = some row) (hn:s0.au.length≤n) (hno:n≤o) (hm:s0.av.length≤m) :
 aI P f args s0 (.cL (D.fh n m row) off) (s.cut n m):=by
 intro M0 w0 eD r0 iu SU ha
 refine(h M0 w0 eD r0 iu SU ha).mono ?_
 rintro en w ⟨M,d,v0,s',rfl,⟨rfl,rfl⟩,e,r,hv⟩
 have qS:=hv.sT
 have od:v0 = .pointer (some ⟨M.mu o,off,none⟩):=hv.na.1
 have Eg:o<s'.au.length:=(List.getElem?_eq_some_iff.1 ho).1
 obtain⟨vs,T,hh,dE,⟨jN,_⟩,lx⟩:=r.obj o row ho
 replace hh:=hh.cells qS
 let M':Map:= {M with G:=fun b q=>if b=M.mu o then vs[q]? else M.G b q}
 have Zh : ∀ q,M.G (M.mu o) q=none:=r.hZ o Eg
 have le:Le M s' M' s':=⟨fun b q v hq=>by
  show(if b=M.mu o then vs[q]? else M.G b q)=some v
  by_cases hb:b=M.mu o
  ·subst hb;rw [Zh]at hq;cases hq
  ·rw [if_neg hb];exact hq,Nat.le_refl _,fun _ _=>rfl,Nat.le_refl _,fun t n' _ e=>⟨n',e,Nat.le_refl _,fun _=>rfl⟩⟩
 have hD : ∀ q,q<(s'.cut n m).au.length→q<s'.au.length∧q≠o:=fun q h=>by rw [lM]at h;omega
 have qc:w0.heap.size≤M.mu o:=e.l8 o (by omega) Eg
 have ec:=e.cut hn hm
 have NQ:Le M (s'.cut n m) M' (s'.cut n m):=⟨le.G,Nat.le_refl _,fun _ _=>rfl,Nat.le_refl _,fun t n' _ e=>⟨n',e,Nat.le_refl _,fun _=>rfl⟩⟩
 have rc:=r.cut n m
 have nN : ∀ b,b≠M.mu o→∀ q,M'.G b q=M.G b q:=fun b hb q=>if_neg hb
 refine⟨M',_,v0,_,rfl,⟨rfl,rfl⟩,⟨ec.le.trans NQ,ec.kept,ec.l8,ec.l9,fun b q dQ=> ?_,ec.size,ec.os,ec.tape,ec.output⟩,⟨fun b q v hq=> ?_,fun q ds hq=> ?_,fun q hq qs=> ?_,rc.inj,fun t n' Fb=> ?_,rc.dI,rc.eA⟩, ?_⟩
 ·by_cases hb:b=M.mu o
  ·subst hb;exact .inl qc
  ·rw [nN b hb]at dQ;exact ec.n8 b q dQ
 ·have mT:(if b=M.mu o then vs[q]? else M.G b q)=some v:=hq
  by_cases hb:b=M.mu o
  ·rw [if_pos hb]at mT
   rw [hb,gR hh]
   exact⟨mT,jN v (Array.mem_of_getElem? mT)⟩
  ·rw [if_neg hb]at mT
   exact r.comm b q v mT
 ·obtain⟨dV,T',h3,h4,h5,h6⟩:=rc.obj q ds hq
  exact⟨dV,T',h3,h4,h5,fun i d v e1 e2=>(h6 i d v e1 e2).mono NQ⟩
 ·obtain⟨h3,h4⟩:=hD q hq
  show M'.G (M.mu q) qs=none
  rw [nN _ (fun e=>h4 (r.inj q o h3 Eg e))]
  exact r.hZ q h3 qs
 ·rcases rc.tok t n' Fb with h3 | ⟨b,cap,z,dV,T',h3,h4,h5,h6,h7⟩
  ·exact .inl h3
  ·refine .inr ⟨b,cap,z,dV,T',h3,h4,h5,h6,fun qs u9=> ?_,h7.2⟩
   rw [nN _ (fun e=>r.dI t b cap z o (pd ⟨n',Fb⟩) h3 Eg e.symm)]
   exact h7.1 qs u9
 ·rw [od]
  have:=RD.cL (M:=M') (s:=s'.cut n m) (D.fh n m row) off (M.mu o) 0 (fun i d e1=> ?_) (fun i d u e1 eu=> ?_)
  ·simpa using this
  ·rw [jZ,List.getElem?_map,Option.map_eq_some_iff]at e1
   obtain⟨d0,e1,rfl⟩:=e1
   have hi:=(List.getElem?_eq_some_iff.1 e1).1
   refine⟨vs[i]'(by omega), ?_⟩
   show(if M.mu o=M.mu o then vs[0+i]? else _)=_
   rw [if_pos rfl,Nat.zero_add]
   exact Array.getElem?_eq_getElem _
  ·rw [jZ,List.getElem?_map,Option.map_eq_some_iff]at e1
   obtain⟨d0,e1,rfl⟩:=e1
   have B2:(if M.mu o=M.mu o then vs[0+i]? else M.G (M.mu o) (0+i))=some u:=eu
   rw [if_pos rfl,Nat.zero_add]at B2
   exact((lx i d0 u e1 B2).fg n m).mono NQ
theorem aI.Zi {P:Program} {f:FuncId} {res:List (Nat×Option (Bool×Nat))} {body:AC} {args:List D} {s:St} {d:D} {s':St} {nt:Nat} (n m:Nat) (hn:s.au.length≤n) (hm:s.av.length≤m) (h0:Has P f nt res body) (hl:Nat.ble args.length nt=true)
 (h : ∀ (B:fc) (Q:Exit→Tm→St→Prop),B.s=s→ni n m res d s'=Q→ik P B nt body Q (ky 0 args) s):aI P f args s d s':=by
 obtain⟨fn,hf,hc⟩:=h0
 refine dr.J0 (dr.intro (Q:=fun d1 s1=>Wk d1 d∧fH s1.au s'.au∧s1.av=s'.av) hf hc (Nat.le_of_ble_eq_true hl) fun B hB=>(gq (h B _ hB rfl)).mono fun e tm s1 hr=> ?_) fun d1 s1 ⟨h1,h2,h3⟩=>⟨d,s',h1,h2,h3,rfl,rfl⟩
 subst hB
 cases e with
 | normal=>obtain⟨l,h1,h2,h3,h4⟩:=hr;exact⟨l,h1,_,_,hn,hm,h2,h3,h4⟩
 | ret=>obtain⟨l,h1,h2,h3,h4⟩:=hr;exact⟨l,h1,_,_,hn,hm,h2,h3,h4⟩
 | exit id=>exact hr.elim
 | goto l=>exact hr.elim
 | panic ch=>exact hr.elim
 | outgrown=>exact hr.elim
end Go.Abs

/-! MirLex -/

namespace Go.Abs
def tw (c:UInt8):Bool:=decide ((c.toNat:Int)≥97) && decide ((c.toNat:Int)≤122)
def wh (c:UInt8):Bool:=decide ((c.toNat:Int)≥48) && decide ((c.toNat:Int)≤57)
def Zj (c:UInt8):Bool:=(c.toNat:Int)==32 || (c.toNat:Int)==9 || (c.toNat:Int)==10 || (c.toNat:Int)==13
def kV:aD→Nat
 | []=>0
 | c::r=>if tw c || wh c then kV r+1 else 0
def NR:aD→Nat
 | []=>0
 | c::r=>if wh c then NR r+1 else 0
def Ei:aD→Nat
 | []=>0
 | c::r=>if(c.toNat:Int) != 10 then Ei r+1 else 0
def isWord (s:aD):Bool:=
 s == [103,108,111,98,97,108] || s == [112,114,111,99] || s == [118,97,114] || s == [114,101,102] || s == [105,102] || s == [101,108,115,101] || s == [119,104,105,108,101] || s == [98,114,101,97,107] || s == [99,111,110,116,105,110,117,101] || s == [114,101,116,117,114,110] || s == [103,111,116,111] || s == [114,101,97,100] || s == [112,114,105,110,116]
def Qa (s:aD):Bool:=s == [61,61] || s == [33,61] || s == [60,61] || s == [62,61] || s == [38,38] || s == [124,124]
def Kr (c:UInt8):Bool:=
 (c.toNat:Int)==40 || (c.toNat:Int)==41 || (c.toNat:Int)==123 || (c.toNat:Int)==125 || (c.toNat:Int)==44 || (c.toNat:Int)==59 || (c.toNat:Int)==58 || (c.toNat:Int)==61 ||
 (c.toNat:Int)==33 || (c.toNat:Int)==60 || (c.toNat:Int)==62 || (c.toNat:Int)==43 || (c.toNat:Int)==45 || (c.toNat:Int)==42 || (c.toNat:Int)==47 || (c.toNat:Int)==37
def Ks:aD→Nat
 | []=>0
 | [c]=>if Kr c then 1 else 0
 | c::d::_=>if Qa [c,d]then 2 else if Kr c then 1 else 0
def Ej:Int→aD→Option Int
 | n,[]=>some n
 | n,c::r=>if n > (9223372036854775807 - ((c.toNat:Int) - 48)) / 10 then none else Ej (n*10+((c.toNat:Int) - 48)) r
def SV (pos:Nat):aD→lA ⊕ Int
 | []=> .inr 2
 | c::r=>
  if tw c then
   let s:=(c::r).take (kV (c::r))
   if s.length > 8 then .inr 4 else .inl ⟨if isWord s then 3 else 1,s,0,pos⟩
  else if wh c then
   let s:=(c::r).take (NR (c::r))
   if s.length > 1∧(c.toNat:Int)=48 then .inr 2 else
   match Ej 0 s with
   | some n=> .inl ⟨2,s,n,pos⟩
   | none=> .inr 4
  else
   if Ks (c::r)=0 then .inr 2 else .inl ⟨4,(c::r).take (Ks (c::r)),0,pos⟩
def Ek:Nat→Nat→aD→List lA→List lA×Int×Int
 | 0,_,_,_=>([],0,0)
 | _+1,pos,[],out=>(out++ [⟨0,[],0,pos⟩],0,0)
 | n+1,pos,c::r,out=>
  if Zj c then Ek n (pos+1) r out
  else if(c.toNat:Int)==35 then Ek n (pos+Ei (c::r)) ((c::r).drop (Ei (c::r))) out
  else match SV pos (c::r)with
   | .inr e=>([],e,pos)
   | .inl t=>if out.length=2000 then([],4,pos)else Ek n (pos+t.text.length) ((c::r).drop t.text.length) (out++ [t])
def ra (text:aD):List lA×Int×Int:=if text.length > 100000 then([],4,0)else Ek (text.length+1) 0 text []
end Go.Abs

/-! MirMay -/

namespace Go.Abs
def ud:aD→Bool
 | []=>true
 | c::r=>if !(tw c) && !(wh c)then false else ud r
def isName:aD→Bool
 | []=>false
 | c::r=>if decide (((r.length+1:Nat):Int) > 8) || !(tw c)then false else if ud r then !(isWord (c::r))else false
def lD (op:Int):Int:=if op==1 || op==2 then 0 else if op==3 || op==4 then 1 else if decide (op≥5) && decide (op≤17)then 2 else -1
mutual
def Ex.form:Ex→Bool
 | ⟨op,n,name,kids⟩=>
  if lD op != (kids.length:Int) || (op != 1 && n != 0) || decide (n<0) || !((op==2) == !(name == [])) || (!(name == []) && !(isName name))then false else Ex.nI kids
def Ex.nI:List Ex→Bool
 | []=>true
 | x::l=>if !(Ex.form x)then false else Ex.nI l
end
mutual
def Ex.texts:Ex→Prop
 | ⟨_,_,name,kids⟩=>name.length<4611686018427387904∧Ex.pz kids
def Ex.pz:List Ex→Prop
 | []=>True
 | x::l=>x.texts∧Ex.pz l
end
theorem Ex.wi {x:Ex} : ∀ {l:List Ex},Ex.pz l→x∈l→x.texts
 | y::l,h,m=>by
  rcases List.mem_cons.1 m with rfl | m
  ·exact h.1
  ·exact Ex.wi h.2 m
theorem Ex.Ga {op n:Int} {name:aD} {kids:List Ex} (h:Ex.texts ⟨op,n,name,kids⟩) {y:Ex} (m:y∈kids):y.texts:=Ex.wi h.2 m
def Ex.may (x:Ex):Bool:=decide (((min x.depth 21:Nat):Int)≤20) && x.form
def Ex.none (x:Ex):Bool:=x.op==0 && x.n==0 && x.name == [] && (x.kids.length:Int)==0
def df:List aD→Bool
 | []=>true
 | s::l=>if !(isName s)then false else df l
def Ar.may (a:Ar):Bool:=if a.ref then isName a.name && a.x.none else a.name == [] && a.x.may
def Ar.ef:List Ar→Bool
 | []=>true
 | a::l=>if !(a.may)then false else Ar.ef l
def Sm.El (s:Sm):Bool:=s.kind==1 || s.kind==3 || s.kind==5 || s.kind==6 || (s.kind==9 && s.has)
def Sm.hasName (s:Sm):Bool:=s.kind==1 || s.kind==2 || s.kind==10
def Sm.rb (s:Sm):Bool:=s.kind==4
def Sm.one (s:Sm):Bool:=
 if decide (s.kind<1) || decide (s.kind > 10) || !(df s.labels) || (s.El && !(s.x.may)) || (!(s.El) && !(s.x.none)) || (s.has && s.kind != 9)then false
 else if(s.hasName && !(isName s.name)) || (!(s.hasName) && !(s.name == []) && !(s.rb && isName s.name))then false
 else if !(s.rb == !(s.proc == [])) || (s.rb && !(isName s.proc)) || (!(s.rb) && decide ((s.args.length:Int) > 0))then false
 else if !(Ar.ef s.args)then false
 else((s.aZ.length:Int)==0 || s.kind==5 || s.kind==6) && ((s.aQ.length:Int)==0 || s.kind==5)
structure It where
 s:Sm
 deep:Int
 bC:Int
 aQ:Bool
mutual
def fz (deep bC:Int) (aQ:Bool) (out:List It):Sm→List It
 | ⟨id,kind,labels,name,proc,x,has,args,aZ,e⟩=>
  if decide (deep≤12)then cq (deep+1) id true (cq (deep+1) id false (out++ [⟨⟨id,kind,labels,name,proc,x,has,args,aZ,e⟩,deep,bC,aQ⟩]) aZ) e
  else out++ [⟨⟨id,kind,labels,name,proc,x,has,args,aZ,e⟩,deep,bC,aQ⟩]
def cq (deep bC:Int) (aQ:Bool) (out:List It):List Sm→List It
 | []=>out
 | s::l=>if decide ((out.length:Int)≤200)then cq deep bC aQ (fz deep bC aQ out s) l else out
end
def Pc.flat (f:Pc):List It:=cq 1 0 false [] f.body
def allM (out:List It):List Pc→List It
 | []=>out
 | f::l=>if decide (((out++f.flat).length:Int) > 200)then out++f.flat else allM (out++f.flat) l
def Pg.all (p:Pg):List It:=allM [] p.procs
def Pm.ef:List Pm→Bool
 | []=>true
 | a::l=>if !(isName a.name)then false else Pm.ef l
def Pc.lJ:List Pc→Bool
 | []=>true
 | f::l=>
  if !(isName f.name) || decide ((f.params.length:Int) > 8) || decide ((f.vars.length:Int) > 16) || !(df f.vars) || !(df f.fin)then false
  else if !(Pm.ef f.params)then false else Pc.lJ l
def It.ef (n:Nat):List It→Bool
 | []=>true
 | i::l=>if i.s.id != ((n+1:Nat):Int) || decide (i.deep > 12) || !(i.s.one)then false else It.ef (n+1) l
def Pg.may (p:Pg):Bool:=
 if decide ((p.globals.length:Int) > 16) || decide ((p.procs.length:Int) > 16) || !(df p.globals)then false
 else if !(Pc.lJ p.procs)then false
 else if decide ((p.all.length:Int) > 200)then false else It.ef 0 p.all
end Go.Abs

/-! Prs -/

namespace Go.Abs
open Go.Proofs
@[go_sem] def aau (r:Rd):List D:= [.slice .shared 4 (r.l.map ga), .int .i64 r.i, .int .i64 r.code, .int .i64 r.Ai, .int .i64 r.n]
end Go.Abs

/-! Lex1 -/

namespace Go.Abs
set_option maxRecDepth 8000
open Go.Proofs
theorem nq (c:UInt8) (s:St):aI Try.prog mA [.int .u8 (c.toNat:Int)] s (.bool (tw c)) s:=by
 refine aI.pure ?_ rfl rfl s
 generalize h:tw c=b
 unfold tw at h
 unfold S0
 refine aI.go xi rfl fun B Q hB hQ=> ?_
 have⟨hD,hJ,hP,hY⟩:=cf
 repeat' (first
 | simp only [go_sem,hD,hJ,hP,hY]
 | (with_reducible first | refine cD fun hc=> ?_ | refine cE fun hc=> ?_ | refine cG (fun hc=> ?_) fun hc=> ?_) <;> (try simp only [hc,bs, ↓reduceIte]at h) <;> try simp only [hc]
 | (with_reducible refine aJ hQ ?_;exact ju)
 | (cases h;done))
theorem xl (c:UInt8) (s:St):aI Try.prog qH [.int .u8 (c.toNat:Int)] s (.bool (wh c)) s:=by
 refine aI.pure ?_ rfl rfl s
 generalize h:wh c=b
 unfold wh at h
 unfold S0
 refine aI.go yM rfl fun B Q hB hQ=> ?_
 have⟨hD,hJ,hP,hY⟩:=cf
 repeat' (first
 | simp only [go_sem,hD,hJ,hP,hY]
 | (with_reducible first | refine cD fun hc=> ?_ | refine cE fun hc=> ?_ | refine cG (fun hc=> ?_) fun hc=> ?_) <;> (try simp only [hc,bs, ↓reduceIte]at h) <;> try simp only [hc]
 | (with_reducible refine aJ hQ ?_;exact ju)
 | (cases h;done))
theorem NS (t:aD) (s:St):aI Try.prog rK [.str t] s (.bool (isWord t)) s:=by
 refine aI.pure ?_ rfl rfl s
 generalize h:isWord t=b
 unfold isWord at h
 unfold S0
 refine aI.go Au rfl fun B Q hB hQ=> ?_
 have⟨hD,hJ,hP,hY⟩:=cf
 repeat' (first
 | simp only [go_sem,hD,hJ,hP,hY]
 | (with_reducible first | refine cD fun hc=> ?_ | refine cE fun hc=> ?_ | refine cG (fun hc=> ?_) fun hc=> ?_) <;> (try simp only [hc,bs, ↓reduceIte]at h) <;> try simp only [hc]
 | (with_reducible refine aJ hQ ?_;exact ju)
 | (cases h;done))
theorem Qb {text:aD} {pos:Nat} (hl:text.length<4611686018427387904) (s:St):aI Try.prog tp [.str text, .int .i64 (pos:Int)] s (.int .i64 ((pos+kV (text.drop pos):Nat):Int)) s:=by
 refine aI.pure ?_ rfl rfl s
 unfold S0
 refine aI.go BD rfl fun B Q hB hQ=> ?_
 have⟨hD,hJ,hP,hY⟩:=cf
 repeat' (first
 | simp only [go_sem,hD,hJ,hP,hY]
 | (with_reducible first | refine cD fun hc=> ?_ | refine cE fun hc=> ?_ | refine cG (fun hc=> ?_) fun hc=> ?_) <;> (try simp only [hc,bs, ↓reduceIte]at h) <;> try simp only [hc]
 | (with_reducible refine aJ hQ ?_;exact ju)
 | (cases h;done))
 refine dF 0 0 (bp.ind (ι:=aD×Nat) (fun i=>text.drop i.2=i.1∧i.2+kV i.1=pos+kV (text.drop pos)) (fun i=>i.1.length)
  (fun i=> [(0, .str text),(1, .int .i64 (i.2:Int))]) (fun i=>⟨[],[]⟩) ?_ (text.drop pos,pos) ⟨rfl,rfl⟩)
 rintro⟨rest,k⟩ ⟨h1,h2⟩ IH
 dsimp only at h1 h2
 cases rest with
 | nil=>
  have hD:=drop_nil h1
  simp only [kV,Nat.add_zero]at h2
  rw [← h2]at hQ
  repeat' (first
 | simp only [go_sem,hD,hJ,hP,hY]
 | (with_reducible first | refine cD fun hc=> ?_ | refine cE fun hc=> ?_ | refine cG (fun hc=> ?_) fun hc=> ?_) <;> (try simp only [hc,bs, ↓reduceIte]at h) <;> try simp only [hc]
 | (with_reducible refine aJ hQ ?_;exact ju)
 | (cases h;done))
 | cons c rest=>
  obtain⟨hJ,g2,hD,g4⟩:=drop_cons h1
  have hP:k<4611686018427387904:=by omega
  cases hb:(tw c || wh c)
  ·simp only [kV,hb,Bool.false_eq_true, ↓reduceIte,Nat.add_zero]at h2
   rw [← h2]at hQ
   simp only [Bool.or_eq_false_iff]at hb
   repeat' (first
 | simp only [go_sem,hD,hJ,hP,hY,hb.1,hb.2]
 | (with_reducible refine CU (nq _ _) ?_)
 | (with_reducible refine CU (xl _ _) ?_)
 | (with_reducible first | refine cD fun hc=> ?_ | refine cE fun hc=> ?_ | refine cG (fun hc=> ?_) fun hc=> ?_) <;> (try simp only [hc,bs, ↓reduceIte]at h) <;> try simp only [hc]
 | (with_reducible refine aJ hQ ?_;(try cases h);simp only [az,aB,dv,dw,go_sem,hD,hJ,hP,hY,hb.1,hb.2];try exact lz)
 | (cases h;done))
  ·simp only [kV,hb, ↓reduceIte]at h2
   cases vR:tw c
   ·rw [vR,Bool.false_or]at hb
    repeat' (first
 | simp only [go_sem,hD,hJ,hP,hY,hb,vR]
 | (with_reducible refine CU (nq _ _) ?_)
 | (with_reducible refine CU (xl _ _) ?_)
 | (with_reducible first | refine cD fun hc=> ?_ | refine cE fun hc=> ?_ | refine cG (fun hc=> ?_) fun hc=> ?_) <;> (try simp only [hc,bs, ↓reduceIte]at h) <;> try simp only [hc]
 | (with_reducible refine aJ hQ ?_;(try cases h);simp only [az,aB,dv,dw,go_sem,hD,hJ,hP,hY,hb,vR];try exact lz)
 | (cases h;done))
    refine dF 0 0 (IH (rest,k+1) ⟨g2,by dsimp only;omega⟩ (Nat.lt_succ_self _))
   ·repeat' (first
 | simp only [go_sem,hD,hJ,hP,hY,vR]
 | (with_reducible refine CU (nq _ _) ?_)
 | (with_reducible refine CU (xl _ _) ?_)
 | (with_reducible first | refine cD fun hc=> ?_ | refine cE fun hc=> ?_ | refine cG (fun hc=> ?_) fun hc=> ?_) <;> (try simp only [hc,bs, ↓reduceIte]at h) <;> try simp only [hc]
 | (with_reducible refine aJ hQ ?_;(try cases h);simp only [az,aB,dv,dw,go_sem,hD,hJ,hP,hY,vR];try exact lz)
 | (cases h;done))
    refine dF 0 0 (IH (rest,k+1) ⟨g2,by dsimp only;omega⟩ (Nat.lt_succ_self _))
def Zk (s:aD):Int×Bool:=match Ej 0 s with | some n=>(n,true) | none=>(0,false)
end Go.Abs

/-! Lex2 -/

namespace Go.Abs
open Go.Proofs
def SW (f:Int×Int):List D:= [.int .i64 f.1, .int .i64 f.2]
def Qc (text:aD) (out:List lA) (pos:Nat):Tm:= [(0, .str text),(3, .ptr 0 0),(4, .slice (.tok 0) 4 (out.map ga)),(5, .ptr 1 0),(6, .int .i64 (pos:Int))]
def Qd (out:List lA):St:=⟨[[.int .i64 0, .int .i64 0],[.junk, .junk, .junk, .junk]],[some out.length]⟩
attribute [go_sem] Qc Qd SW
end Go.Abs

/-! RefLex1 -/

namespace Go.Abs
open Go.Proofs
def Tz (s:aD):Bool:=
 [103,108,111,98,97,108] == s || [112,114,111,99] == s || [118,97,114] == s || [114,101,102] == s || [105,102] == s || [101,108,115,101] == s || [119,104,105,108,101] == s || [98,114,101,97,107] == s || [99,111,110,116,105,110,117,101] == s || [114,101,116,117,114,110] == s || [103,111,116,111] == s || [114,101,97,100] == s || [112,114,105,110,116] == s
end Go.Abs

/-! Prs2 -/

namespace Go.Abs
open Go.Proofs
def OpR (p:Int×Int):Prop:=0≤p.2∧p.2≤6
end Go.Abs

/-! Ref1 -/

namespace Go.Abs
open Go.Proofs
@[go_sem] def aav (z:D) (r:Rd):List D:= [.slice .shared 4 (r.l.map ga), .int .i64 r.i, .int .i64 r.code, .int .i64 r.Ai,z]
class Cell (z:D):Prop where
 ok:D.ok 0 0 z=true
 fg : ∀ n m,D.fg n m z=z
instance (n:Int):Cell (.int .i64 n):=⟨rfl,fun _ _=>rfl⟩
instance:Cell .junk:=⟨rfl,fun _ _=>rfl⟩
theorem LD (z:D) [h:Cell z] (n m:Nat):D.fg n m z=z:=h.fg n m
attribute [go_sem] LD
def Rd.isO (text:aD) (r:Rd):Option Bool:=if r.good then r.is text else some false
end Go.Abs

/-! Ref2 -/

namespace Go.Abs
open Go.Proofs
def NT (s:aD):Int×Int:=
 if [42] == s then(6,5)else if [47] == s then(6,6)else if [37] == s then(6,7)else if [43] == s then(5,8)else if [45] == s then(5,9)
 else if [60] == s then(4,10)else if [60,61] == s then(4,11)else if [62] == s then(4,12)else if [62,61] == s then(4,13)
 else if [61,61] == s then(3,14)else if [33,61] == s then(3,15)else if [38,38] == s then(2,16)else if [124,124] == s then(1,17)else(0,0)
def BZ (p:Int×Int):Prop:=(p.2==0)=(p.1==0)
end Go.Abs

/-! Ref3 -/

namespace Go.Abs
open Go.Proofs
end Go.Abs

/-! RefMay1 -/

namespace Go.Abs
open Go.Proofs
end Go.Abs

/-! RefMay2 -/

namespace Go.Abs
open Go.Proofs
structure Sm.oD (s:Sm):Prop where
 Zl : ∀ t∈s.labels,t.length<4611686018427387904
 SX:s.labels.length<4611686018427387904
 name:s.name.length<4611686018427387904
 proc:s.proc.length<4611686018427387904
 x:s.x.size<4611686018427387904
 xt:s.x.texts
 SY:s.args.length<4611686018427387904
 arg : ∀ a∈s.args,a.x.size<4611686018427387904∧a.x.texts∧a.name.length<4611686018427387904
section
variable {v:Sm} {B:fc} {Q:Exit→Tm→St→Prop} {p:Bool}
end
theorem aI.Zn {P:Program} {f:FuncId} {nt:Nat} {res:List (Nat×Option (Bool×Nat))} {body:AC} {args:List D} {s:St} {d:D} {s':St} (h0:Has P f nt res body) (hl:Nat.ble args.length nt=true)
 (h : ∀ (B:fc) (Q:Exit→Tm→St→Prop),B.s=s→ni s.au.length s.av.length res d s'=Q→Sem P B nt body Q (ky 0 args) s):aI P f args s d s':=by
 obtain⟨fn,hf,hc⟩:=h0
 exact aI.intro ⟨fn,hf,hc⟩ (Nat.le_of_ble_eq_true hl) fun B hB=>h B _ hB rfl
end Go.Abs

/-! Flat1 -/

namespace Go.Abs
set_option maxRecDepth 8000
open Go.Proofs
def dW (i:Im):List D:= [.int .i64 i.s.id, .int .i64 i.s.kind, .slice .shared 1 (i.s.labels.map encStr), .str i.s.name, .str i.s.proc,
 .int .i64 i.s.x.op, .int .i64 i.s.x.n, .str i.s.x.name, .slice .shared 4 (i.s.x.kids.map bA), .bool i.s.has, .slice .shared 6 (i.s.args.map c7), .slice .shared 13 (i.s.aZ.map bf), .slice .shared 13 (i.s.aQ.map bf), .int .i64 i.proc, .int .i64 i.up, .int .i64 i.next, .int .i64 i.loop]
def iS (n:Int):List D:= [.int .i64 n]
theorem IU (i:Im):D.bI 0 0 (dW i)=true:=by simp [dW,D.bI,D.ok,Tag.ok,fi,Kj,za,oT]
theorem zc (l:List Im):D.gG 0 0 (l.map dW)=true:=ff IU l
theorem Kt (n m:Nat) (l:List Im):D.gF n m (l.map dW)=l.map dW:=jv IU n m l
theorem Qe (n m:Nat) (i:Im):D.fh n m (dW i)=dW i:=fu n m _ (IU i)
theorem Qf (x:Im):(dW x).length=17:=nd rfl
theorem LF (x:Im):List.take 17 (dW x)=dW x:=nd rfl
theorem NU (x:Im):List.drop 17 (dW x) = []:=nd rfl
theorem NV (x:Im):List.take 13 (dW x)=bf x.s:=by simp only [dW,cr];rfl
theorem IV (x:Im):(dW x)[0]? = some (.int .i64 x.s.id):=nd rfl
theorem IW (x:Im):(dW x)[1]? = some (.int .i64 x.s.kind):=nd rfl
theorem IX (x:Im):(dW x)[4]? = some (.str x.s.proc):=nd rfl
theorem Gb (x:Im):(dW x)[13]? = some (.int .i64 x.proc):=nd rfl
theorem Gc (x:Im):(dW x)[14]? = some (.int .i64 x.up):=nd rfl
theorem Gd (x:Im):(dW x)[15]? = some (.int .i64 x.next):=nd rfl
theorem Ge (x:Im):(dW x)[16]? = some (.int .i64 x.loop):=nd rfl
theorem Em (s:Sm) (a b c d:Int):dW ⟨s,a,b,c,d⟩ = [.int .i64 s.id, .int .i64 s.kind, .slice .shared 1 (s.labels.map encStr), .str s.name, .str s.proc,
 .int .i64 s.x.op, .int .i64 s.x.n, .str s.x.name, .slice .shared 4 (s.x.kids.map bA), .bool s.has, .slice .shared 6 (s.args.map c7), .slice .shared 13 (s.aZ.map bf), .slice .shared 13 (s.aQ.map bf), .int .i64 a, .int .i64 b, .int .i64 c, .int .i64 d]:=nd rfl
theorem Ku (n:Int):D.bI 0 0 (iS n)=true:=rfl
theorem tx (l:List Int):D.gG 0 0 (l.map iS)=true:=ff Ku l
theorem Gf (n m:Nat) (l:List Int):D.gF n m (l.map iS)=l.map iS:=jv Ku n m l
attribute [go_sem] Kt Qe Qf LF NU NV IV IW IX Gb Gc Gd Ge Gf iS
theorem NW : ∀ n,n<1000000000→∀ v:Sm,v.size≤n→aI Try.prog ja [.agg (bf v)] S0 (.int .i64 (v.gk:Int)) S0:=by
 intro n
 induction n with
 | zero=>intro _ v h;obtain⟨_,_,_,_,_,_,_,_,_,_⟩:=v;simp only [Sm.size]at h;omega
 | succ n ih=>
 intro hn v hv
 have dE:Sm.aT v.aZ≤n∧Sm.aT v.aQ≤n∧v.gk=1+Sm.fW v.aZ+Sm.fW v.aQ:=by
  obtain⟨_,_,_,_,_,_,_,_,_,_⟩:=v
  simp only [Sm.size]at hv;exact⟨by dsimp only;omega,by dsimp only;omega,rfl⟩
 obtain⟨h1,h2,h3⟩:=dE
 have c1:=kS v.aZ
 have c2:=kS v.aQ
 have l1:=Sm.cP v.aZ
 have l2:=Sm.cP v.aQ
 have hk : ∀ y,y∈v.aZ∨y∈v.aQ→∀ s,aI Try.prog ja [.agg (bf y)] s (.int .i64 (y.gk:Int)) s:=fun y hy s=>
  (ih (by omega) y (by rcases hy with hy | hy <;> (have:=Sm.b6 hy;omega))).pure (by simp only [D.bI,D.ok,mn];rfl) rfl s
 rw [h3]
 unfold S0
 refine aI.go yL rfl fun B Q hB hQ=> ?_
 have⟨hD,hJ,hP,hY⟩:=cf
 repeat' (first
 | simp only [go_sem,hD,hJ,hP,hY]
 | (with_reducible refine aJ hQ ?_;simp only [az,aB,Option.some.injEq,exists_eq_left',go_sem,hD,hJ,hP,hY];repeat' (first | exact Ok.out | with_reducible refine aO ?_ ?_ | (simp;done))))
 refine dF 1 0 (bp.ind (ι:=List Sm×Nat×Nat) (fun i=>v.aZ.drop i.2.1=i.1∧i.2.2+Sm.fW i.1=1+Sm.fW v.aZ) (fun i=>i.1.length)
  (fun i=> [(1, .ptr 0 0),(3, .int .i64 (i.2.2:Int)),(9, .slice .shared 13 (v.aZ.map bf)),(10, .int .i64 (v.aZ.length:Int)),(11, .int .i64 (i.2.1:Int))]) (fun i=>⟨[bf v],[]⟩) ?_ (v.aZ,0,1) ⟨rfl,rfl⟩)
 rintro⟨rest,k,c⟩ ⟨g1,g2⟩ IH
 dsimp only at g1 g2
 cases rest with
 | cons y rest=>
  obtain⟨hJ,g3,hD,g4⟩:=drop_cons g1
  have hy:=hk y (.inl (List.mem_of_getElem? hJ))
  simp only [Sm.fW]at g2
  have Zo:=vd y
  have JK:=Sm.b6 (List.mem_of_getElem? hJ)
  have w1:IntKind.wrap .i64 ((k:Int)+1)=((k+1:Nat):Int):=by rw [dt] <;> omega
  have w2:IntKind.wrap .i64 ((c:Int)+(y.gk:Int))=((c+y.gk:Nat):Int):=by rw [dt] <;> omega
  repeat' (first
 | simp only [go_sem,hD,hJ,hP,hY,w1,w2]
 | (with_reducible refine CU (hy _) ?_)
 | (with_reducible refine aJ hQ ?_;simp only [az,aB,Option.some.injEq,exists_eq_left',go_sem,hD,hJ,hP,hY];repeat' (first | exact Ok.out | with_reducible refine aO ?_ ?_ | (simp;done))))
  refine dF 1 0 (IH (rest,k+1,c+y.gk) ⟨g3,by dsimp only;omega⟩ (Nat.lt_succ_self _))
 | nil=>
  have hD:=drop_nil g1
  simp only [Sm.fW,Nat.add_zero]at g2
  subst g2
  repeat' (first
 | simp only [go_sem,hD,hJ,hP,hY]
 | (with_reducible refine aJ hQ ?_;simp only [az,aB,Option.some.injEq,exists_eq_left',go_sem,hD,hJ,hP,hY];repeat' (first | exact Ok.out | with_reducible refine aO ?_ ?_ | (simp;done))))
  refine dF 1 0 (bp.ind (ι:=List Sm×Nat×Nat) (fun i=>v.aQ.drop i.2.1=i.1∧i.2.2+Sm.fW i.1=1+Sm.fW v.aZ+Sm.fW v.aQ) (fun i=>i.1.length)
   (fun i=> [(1, .ptr 0 0),(3, .int .i64 (i.2.2:Int)),(21, .slice .shared 13 (v.aQ.map bf)),(22, .int .i64 (v.aQ.length:Int)),(23, .int .i64 (i.2.1:Int))]) (fun i=>⟨[bf v],[]⟩) ?_ (v.aQ,0,1+Sm.fW v.aZ) ⟨rfl,rfl⟩)
  rintro⟨rest,k,c⟩ ⟨g1,g2⟩ IH
  dsimp only at g1 g2
  cases rest with
  | cons y rest=>
   obtain⟨hJ,g3,hD,g4⟩:=drop_cons g1
   have hy:=hk y (.inr (List.mem_of_getElem? hJ))
   simp only [Sm.fW]at g2
   have Zo:=vd y
   have JK:=Sm.b6 (List.mem_of_getElem? hJ)
   have w1:IntKind.wrap .i64 ((k:Int)+1)=((k+1:Nat):Int):=by rw [dt] <;> omega
   have w2:IntKind.wrap .i64 ((c:Int)+(y.gk:Int))=((c+y.gk:Nat):Int):=by rw [dt] <;> omega
   repeat' (first
 | simp only [go_sem,hD,hJ,hP,hY,w1,w2]
 | (with_reducible refine CU (hy _) ?_)
 | (with_reducible refine aJ hQ ?_;simp only [az,aB,Option.some.injEq,exists_eq_left',go_sem,hD,hJ,hP,hY];repeat' (first | exact Ok.out | with_reducible refine aO ?_ ?_ | (simp;done))))
   refine dF 1 0 (IH (rest,k+1,c+y.gk) ⟨g3,by dsimp only;omega⟩ (Nat.lt_succ_self _))
  | nil=>
   have hD:=drop_nil g1
   simp only [Sm.fW,Nat.add_zero]at g2
   subst g2
   repeat' (first
 | simp only [go_sem,hD,hJ,hP,hY]
 | (with_reducible refine aJ hQ ?_;simp only [az,aB,Option.some.injEq,exists_eq_left',go_sem,hD,hJ,hP,hY];repeat' (first | exact Ok.out | with_reducible refine aO ?_ ?_ | (simp;done))))
theorem NY {v:Sm} (h:v.size<1000000000) (s:St):aI Try.prog ja [.agg (bf v)] s (.int .i64 (v.gk:Int)) s:=
 (NW v.size h v (Nat.le_refl _)).pure (by simp only [D.bI,D.ok,mn];rfl) rfl s
end Go.Abs

/-! Flat2 -/

namespace Go.Abs
set_option maxRecDepth 8000
open Go.Proofs
abbrev fA (g ps:D) (L:List Im) (lo hi:List Int):List D:= [g,ps, .slice (.tok 0) 17 (L.map dW), .slice (.tok 1) 1 (lo.map iS), .slice (.tok 2) 1 (hi.map iS)]
abbrev IY (proc up next loop:Int):List D:= [.int .i64 0, .int .i64 0, .slice .full 0 [], .str [], .str [], .int .i64 0, .int .i64 0, .str [], .slice .full 0 [], .bool false, .slice .full 0 [], .slice .full 0 [], .slice .full 0 [], .int .i64 proc, .int .i64 up, .int .i64 next, .int .i64 loop]
theorem aI.Qg {P:Program} {f:Nat} {args:List D} {g ps:D} {L L':List Im} {lo hi xM fU:List Int} {a b c a' b' c':Option Nat}
 (h:aI P f (.ptr 0 0::args) ⟨[fA g ps L lo hi],[a,b,c]⟩ (.tuple []) ⟨[fA g ps L' xM fU],[a',b',c']⟩)
 (ha:D.bI 0 0 args=true) (hg:D.ok 0 0 g=true) (hp:D.ok 0 0 ps=true)
 {s:St} {o:Nat} (ho:s.au[o]? = some (fA g ps L lo hi)) (ht:s.av = [a,b,c]):aI P f (.ptr o 0::args) s (.tuple []) ⟨s.au.set o (fA g ps L' xM fU),[a',b',c']⟩:=by
 have hr : ∀ (L:List Im) (lo hi:List Int),D.e7 [o] [0,1,2] (fA g ps L lo hi)=fA g ps L lo hi:=fun L lo hi=>by
  simp [D.e7,D.cJ,Tag.cJ,nj _ _ _ hg,nj _ _ _ hp,jJ _ _ _ (zc L),jJ _ _ _ (tx lo),jJ _ _ _ (tx hi)]
 have hk : ∀ (L:List Im) (lo hi:List Int),D.bI 1 3 (fA g ps L lo hi)=true:=fun L lo hi=>by
  simp [D.bI,D.ok,Tag.ok,w7 (Nat.zero_le 1) (Nat.zero_le 3) _ hg,w7 (Nat.zero_le 1) (Nat.zero_le 3) _ hp,lN (Nat.zero_le 1) (Nat.zero_le 3) _ (zc L),lN (Nat.zero_le 1) (Nat.zero_le 3) _ (tx lo),lN (Nat.zero_le 1) (Nat.zero_le 3) _ (tx hi)]
 refine dr.frame [o] [0,1,2] h (by simp) (by decide) (by simpa using (List.getElem?_eq_some_iff.1 ho).1) (by rw [ht];simp) rfl (fun i o' ds e1 e2=> ?_) rfl (fun i t' e1=> ?_)
  (by simp [D.e7,D.cJ,e8 _ _ _ ha])
  (by simp [D.bI,D.ok,gA (Nat.zero_le 1) (Nat.zero_le 3) _ ha]) ?_
 ·cases i with
  | zero=>simp only [List.getElem?_cons_zero,Option.some.injEq]at e1 e2;subst e1;subst e2;exact⟨by rw [hr];exact ho,hk L lo hi⟩
  | succ i=>simp at e1
 ·rw [ht]
  match i,e1 with
  | 0,e1=>simp at e1;subst e1;rfl
  | 1,e1=>simp at e1;subst e1;rfl
  | 2,e1=>simp at e1;subst e1;rfl
  | i+3,e1=>simp at e1
 ·rintro _ _ ⟨rfl,rfl⟩
  refine⟨by simp [D.back,D.cJ,D.e7], ?_⟩
  have:=hr L' xM fU
  simp [St.back,ij,iG,this,ht]
abbrev Kv (N:Nat):Prop:=∀ (l:List Sm) (proc up next loop:Int) (out:List Im) (g ps:D) (lo hi:List Int) (b c:Option Nat),Sm.aT l<N→out.length+Sm.fW l<1000000000→D.ok 0 0 g=true→D.ok 0 0 ps=true→
 ∀ {s:St} {o:Nat},s.au[o]? = some (fA g ps out lo hi)→s.av = [some out.length,b,c]→
 aI Try.prog gj [.ptr o 0, .slice .shared 13 (l.map bf), .agg (IY proc up next loop)] s (.tuple []) ⟨s.au.set o (fA g ps (Im.rows proc up next loop out l) lo hi),[some (Im.rows proc up next loop out l).length,b,c]⟩
theorem Qh {N:Nat} (ih:Kv N) {l:List Sm} {proc up next loop:Int} {out:List Im} {g ps:D} {lo hi:List Int} {b c:Option Nat} (hs:Sm.aT l<N+1) (hc:out.length+Sm.fW l<1000000000) (hg:D.ok 0 0 g=true) (hp:D.ok 0 0 ps=true) (hN:N<1000000000) :
 aI Try.prog gj [.ptr 0 0, .slice .shared 13 (l.map bf), .agg (IY proc up next loop)] ⟨[fA g ps out lo hi],[some out.length,b,c]⟩ (.tuple []) ⟨[fA g ps (Im.rows proc up next loop out l) lo hi],[some (Im.rows proc up next loop out l).length,b,c]⟩:=by
 obtain⟨R,hR⟩ : ∃ R,R=Im.rows proc up next loop out l:=⟨_,rfl⟩
 have hlR:R.length=out.length+Sm.fW l:=by rw [hR,eI]
 rw [← hR]
 have k1 : ∀ n m,D.fg n m g=g:=fun n m=>D7 n m _ hg
 have k2 : ∀ n m,D.fg n m ps=ps:=fun n m=>D7 n m _ hp
 refine aI.go tv rfl fun B Q hB hQ=> ?_
 have⟨hD,hJ,hP,hY⟩:=cf
 repeat' (first
 | simp only [go_sem,hD,hJ,hP,hY,k1,k2]
 | (with_reducible first | refine cD fun hc=> ?_ | refine cE fun hc=> ?_ | refine cG (fun hc=> ?_) fun hc=> ?_) <;> (try simp only [hc,bs, ↓reduceIte]at h) <;> try simp only [hc]
 | (with_reducible refine aJ hQ ?_;simp only [az,aB,dv,dw,go_sem,hD,hJ,hP,hY,k1,k2];repeat' (first | exact Ok.out | with_reducible refine aO ?_ ?_ | (simp;done))))
 refine dA 2 3 ?_ ?_ (bp.ind (ι:=List Sm×Nat×List Im) (fun i=>l.drop i.2.1=i.1∧Im.rows proc up next loop i.2.2 i.1=R∧i.2.2.length+Sm.fW i.1=out.length+Sm.fW l) (fun i=>i.1.length)
  (fun i=> [(0, .ptr 0 0),(1, .slice .shared 13 (l.map bf)),(5, .ptr 1 0),(11, .slice .shared 13 (l.map bf)),(12, .int .i64 (l.length:Int)),(13, .int .i64 (i.2.1:Int))]) (fun i=>⟨[fA g ps i.2.2 lo hi,IY proc up next loop],[some i.2.2.length,b,c]⟩) ?_ (l,0,out) ⟨rfl,hR.symm,rfl⟩)
 ·(simp only [go_sem,hD,hJ,hP,hY,k1,k2];try exact bw)
 ·(simp only [go_sem,hD,hJ,hP,hY,k1,k2];try exact bw)
 rintro⟨rest,k,br⟩ ⟨h1,h2,h3⟩ IH
 dsimp only at h1 h2 h3
 have hlen:l.length<1000000000:=by have:=Sm.cP l;omega
 cases rest with
 | nil=>
  have hD:=drop_nil h1
  simp only [Im.rows]at h2
  subst h2
  repeat' (first
 | simp only [go_sem,hD,hJ,hP,hY,k1,k2]
 | (with_reducible first | refine cD fun hc=> ?_ | refine cE fun hc=> ?_ | refine cG (fun hc=> ?_) fun hc=> ?_) <;> (try simp only [hc,bs, ↓reduceIte]at h) <;> try simp only [hc]
 | (with_reducible refine aJ hQ ?_;simp only [az,aB,dv,dw,go_sem,hD,hJ,hP,hY,k1,k2];repeat' (first | exact Ok.out | with_reducible refine aO ?_ ?_ | (simp;done))))
 | cons v rest=>
  obtain⟨hJ,g2,hD,g4⟩:=drop_cons h1
  have bB:k<4611686018427387904:=by omega
  have hv:=Sm.b6 (List.mem_of_getElem? hJ)
  have kM:Sm.aT v.aZ<N∧Sm.aT v.aQ<N∧v.gk=1+Sm.fW v.aZ+Sm.fW v.aQ:=by
   obtain⟨_,_,_,_,_,_,_,_,_,_⟩:=v
   simp only [Sm.size]at hv
   exact⟨by dsimp only;omega,by dsimp only;omega,rfl⟩
  obtain⟨vP,zE,hv3⟩:=kM
  simp only [Sm.fW]at h3
  simp only [Im.rows,Im.Nw]at h2
  have hP:(br.length+1)*241≤bH:=by unfold bH;omega
  have B3:IntKind.wrap .i64 ((br.length:Int)+1)=(br.length:Int)+1:=dt (by omega) (by omega)
  have qd:IntKind.wrap .i64 ((k:Int)+1)=((k+1:Nat):Int):=by rw [dt] <;> omega
  have Kw:IntKind.wrap .i64 ((br.length:Int)+1+(v.gk:Int))=(br.length:Int)+1+(v.gk:Int):=dt (by omega) (by omega)
  have dE:=fun s=>NY (v:=v) (by omega) s
  simp only [cr]at dE
  have ET:rest.length=l.length - (k+1):=by rw [← g2,List.length_drop]
  by_cases aaw:k+1<l.length
  ·have d1:decide (((k+1:Nat):Int)<(l.length:Int))=true:=by simp;omega
   have e1:(rest.length=0)=False:=by simp;intro h;rw [h]at ET;simp at ET;omega
   by_cases Gg:v.kind=6
   ·have d2:(v.kind==6)=true:=by simp [Gg]
    simp only [e1,d2, ↓reduceIte,Bool.false_eq_true]at h2
    have f1:=fun {s:St} {o:Nat}=>@ih v.aZ proc ((br.length:Int)+1) ((br.length:Int)+1) ((br.length:Int)+1) (br++ [⟨v,proc,up,((br.length:Int)+1+(v.gk:Int)),loop⟩]) g ps lo hi b c vP (by simp;omega) hg hp s o
    have f2:=fun {s:St} {o:Nat}=>@ih v.aQ proc ((br.length:Int)+1) ((br.length:Int)+1) ((br.length:Int)+1) _ g ps lo hi b c zE (by rw [eI proc ((br.length:Int)+1) ((br.length:Int)+1) ((br.length:Int)+1) (br++ [⟨v,proc,up,((br.length:Int)+1+(v.gk:Int)),loop⟩]) v.aZ];simp;omega) hg hp s o
    have hl:(Im.rows proc ((br.length:Int)+1) ((br.length:Int)+1) ((br.length:Int)+1) (Im.rows proc ((br.length:Int)+1) ((br.length:Int)+1) ((br.length:Int)+1) (br++ [⟨v,proc,up,((br.length:Int)+1+(v.gk:Int)),loop⟩]) v.aZ) v.aQ).length=br.length+v.gk:=by rw [eI,eI];simp;omega
    simp only [fA,List.map_append,List.map_cons,List.map_nil,Em,List.length_append,List.length_cons,List.length_nil]at f1
    repeat' (first
 | simp only [go_sem,hD,hJ,hP,hY,k1,k2,B3,qd,Kw,d1,d2,cr]
 | (with_reducible refine CU (dE _) ?_)
 | (with_reducible refine CU (f1 (by with_unfolding_all rfl) (by with_unfolding_all rfl)) ?_)
 | (with_reducible refine CU (f2 (by with_unfolding_all rfl) (by with_unfolding_all rfl)) ?_)
 | (with_reducible refine aJ hQ ?_;simp only [az,aB,dv,dw,go_sem,hD,hJ,hP,hY];repeat' (first | exact Ok.out | with_reducible refine aO ?_ ?_ | (simp;done))))
    refine dA 2 3 ?_ ?_ (IH (rest,k+1,_) ⟨g2,h2,by dsimp only;rw [hl];omega⟩ (Nat.lt_succ_self _))
    ·(simp only [go_sem,hD,hJ,hP,hY,qd,k1,k2];try exact bw)
    ·(simp only [go_sem,hD,hJ,hP,hY,qd,k1,k2];try exact bw)
   ·have d2:(v.kind==6)=false:=by simp [Gg]
    simp only [e1,d2, ↓reduceIte,Bool.false_eq_true]at h2
    have f1:=fun {s:St} {o:Nat}=>@ih v.aZ proc ((br.length:Int)+1) ((br.length:Int)+1+(v.gk:Int)) loop (br++ [⟨v,proc,up,((br.length:Int)+1+(v.gk:Int)),loop⟩]) g ps lo hi b c vP (by simp;omega) hg hp s o
    have f2:=fun {s:St} {o:Nat}=>@ih v.aQ proc ((br.length:Int)+1) ((br.length:Int)+1+(v.gk:Int)) loop _ g ps lo hi b c zE (by rw [eI proc ((br.length:Int)+1) ((br.length:Int)+1+(v.gk:Int)) loop (br++ [⟨v,proc,up,((br.length:Int)+1+(v.gk:Int)),loop⟩]) v.aZ];simp;omega) hg hp s o
    have hl:(Im.rows proc ((br.length:Int)+1) ((br.length:Int)+1+(v.gk:Int)) loop (Im.rows proc ((br.length:Int)+1) ((br.length:Int)+1+(v.gk:Int)) loop (br++ [⟨v,proc,up,((br.length:Int)+1+(v.gk:Int)),loop⟩]) v.aZ) v.aQ).length=br.length+v.gk:=by rw [eI,eI];simp;omega
    simp only [fA,List.map_append,List.map_cons,List.map_nil,Em,List.length_append,List.length_cons,List.length_nil]at f1
    repeat' (first
 | simp only [go_sem,hD,hJ,hP,hY,k1,k2,B3,qd,Kw,d1,d2,cr]
 | (with_reducible refine CU (dE _) ?_)
 | (with_reducible refine CU (f1 (by with_unfolding_all rfl) (by with_unfolding_all rfl)) ?_)
 | (with_reducible refine CU (f2 (by with_unfolding_all rfl) (by with_unfolding_all rfl)) ?_)
 | (with_reducible refine aJ hQ ?_;simp only [az,aB,dv,dw,go_sem,hD,hJ,hP,hY];repeat' (first | exact Ok.out | with_reducible refine aO ?_ ?_ | (simp;done))))
    refine dA 2 3 ?_ ?_ (IH (rest,k+1,_) ⟨g2,h2,by dsimp only;rw [hl];omega⟩ (Nat.lt_succ_self _))
    ·(simp only [go_sem,hD,hJ,hP,hY,qd,k1,k2];try exact bw)
    ·(simp only [go_sem,hD,hJ,hP,hY,qd,k1,k2];try exact bw)
  ·have d1:decide (((k+1:Nat):Int)<(l.length:Int))=false:=by simp;omega
   have e1:(rest.length=0)=True:=by simp only [eq_iff_iff,iff_true];omega
   by_cases Gg:v.kind=6
   ·have d2:(v.kind==6)=true:=by simp [Gg]
    simp only [e1,d2, ↓reduceIte,Bool.false_eq_true]at h2
    have f1:=fun {s:St} {o:Nat}=>@ih v.aZ proc ((br.length:Int)+1) ((br.length:Int)+1) ((br.length:Int)+1) (br++ [⟨v,proc,up,next,loop⟩]) g ps lo hi b c vP (by simp;omega) hg hp s o
    have f2:=fun {s:St} {o:Nat}=>@ih v.aQ proc ((br.length:Int)+1) ((br.length:Int)+1) ((br.length:Int)+1) _ g ps lo hi b c zE (by rw [eI proc ((br.length:Int)+1) ((br.length:Int)+1) ((br.length:Int)+1) (br++ [⟨v,proc,up,next,loop⟩]) v.aZ];simp;omega) hg hp s o
    have hl:(Im.rows proc ((br.length:Int)+1) ((br.length:Int)+1) ((br.length:Int)+1) (Im.rows proc ((br.length:Int)+1) ((br.length:Int)+1) ((br.length:Int)+1) (br++ [⟨v,proc,up,next,loop⟩]) v.aZ) v.aQ).length=br.length+v.gk:=by rw [eI,eI];simp;omega
    simp only [fA,List.map_append,List.map_cons,List.map_nil,Em,List.length_append,List.length_cons,List.length_nil]at f1
    repeat' (first
 | simp only [go_sem,hD,hJ,hP,hY,k1,k2,B3,qd,Kw,d1,d2,cr]
 | (with_reducible refine CU (dE _) ?_)
 | (with_reducible refine CU (f1 (by with_unfolding_all rfl) (by with_unfolding_all rfl)) ?_)
 | (with_reducible refine CU (f2 (by with_unfolding_all rfl) (by with_unfolding_all rfl)) ?_)
 | (with_reducible refine aJ hQ ?_;simp only [az,aB,dv,dw,go_sem,hD,hJ,hP,hY];repeat' (first | exact Ok.out | with_reducible refine aO ?_ ?_ | (simp;done))))
    refine dA 2 3 ?_ ?_ (IH (rest,k+1,_) ⟨g2,h2,by dsimp only;rw [hl];omega⟩ (Nat.lt_succ_self _))
    ·(simp only [go_sem,hD,hJ,hP,hY,qd,k1,k2];try exact bw)
    ·(simp only [go_sem,hD,hJ,hP,hY,qd,k1,k2];try exact bw)
   ·have d2:(v.kind==6)=false:=by simp [Gg]
    simp only [e1,d2, ↓reduceIte,Bool.false_eq_true]at h2
    have f1:=fun {s:St} {o:Nat}=>@ih v.aZ proc ((br.length:Int)+1) next loop (br++ [⟨v,proc,up,next,loop⟩]) g ps lo hi b c vP (by simp;omega) hg hp s o
    have f2:=fun {s:St} {o:Nat}=>@ih v.aQ proc ((br.length:Int)+1) next loop _ g ps lo hi b c zE (by rw [eI proc ((br.length:Int)+1) next loop (br++ [⟨v,proc,up,next,loop⟩]) v.aZ];simp;omega) hg hp s o
    have hl:(Im.rows proc ((br.length:Int)+1) next loop (Im.rows proc ((br.length:Int)+1) next loop (br++ [⟨v,proc,up,next,loop⟩]) v.aZ) v.aQ).length=br.length+v.gk:=by rw [eI,eI];simp;omega
    simp only [fA,List.map_append,List.map_cons,List.map_nil,Em,List.length_append,List.length_cons,List.length_nil]at f1
    repeat' (first
 | simp only [go_sem,hD,hJ,hP,hY,k1,k2,B3,qd,Kw,d1,d2,cr]
 | (with_reducible refine CU (dE _) ?_)
 | (with_reducible refine CU (f1 (by with_unfolding_all rfl) (by with_unfolding_all rfl)) ?_)
 | (with_reducible refine CU (f2 (by with_unfolding_all rfl) (by with_unfolding_all rfl)) ?_)
 | (with_reducible refine aJ hQ ?_;simp only [az,aB,dv,dw,go_sem,hD,hJ,hP,hY];repeat' (first | exact Ok.out | with_reducible refine aO ?_ ?_ | (simp;done))))
    refine dA 2 3 ?_ ?_ (IH (rest,k+1,_) ⟨g2,h2,by dsimp only;rw [hl];omega⟩ (Nat.lt_succ_self _))
    ·(simp only [go_sem,hD,hJ,hP,hY,qd,k1,k2];try exact bw)
    ·(simp only [go_sem,hD,hJ,hP,hY,qd,k1,k2];try exact bw)
theorem LG : ∀ N,N<1000000000→Kv N:=by
 intro N
 induction N with
 | zero=>exact fun _ l proc up next loop out g ps lo hi b c h=>absurd h (Nat.not_lt_zero _)
 | succ N ih=>
  intro h l proc up next loop out g ps lo hi b c hs hc hg hp s o ho ht
  exact(Qh (ih (by omega)) hs hc hg hp (by omega)).Qg (by simp [D.bI,D.ok,Tag.ok,oT,D.gG]) hg hp ho ht
end Go.Abs
