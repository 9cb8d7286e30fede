/-
  What is proved here: part 1 of the road to the claim (Par, Par1, Par2, Par3, Step, Wp, Types, Mir, MirTree, MirFlat, Nums, Codes0, Have0, Codes1, Have1, Codes2, Have2, Have3, Frz, MirLex, MirMay, Prs, Lex1, Lex2, RefLex1, Prs2, Ref1, Ref2, Ref3, RefMay1, RefMay2, Flat1).
  No conditions.
-/
import Derived.Test.YthecipohmaannaaAgA0
import Derived.Attr
import Derived.Test.YthecipohmaannaaProg
import Derived.KernelRfl

set_option linter.unusedSimpArgs false
set_option linter.unusedVariables false

/-! Par -/

namespace Go.Abs
theorem X.bn {x:X} {tm bh:Tm} (h : ∀ t∈x.reads,tm.get t=bh.get t):x.ev tm=x.ev bh:=by
 cases x with
 | s t=>exact h t (by simp [X.reads])
 | k d=>rfl
theorem mA {t:Nat} {x:X} : ∀ {l:List X},x∈l→t∈x.reads→t∈ka l
 | [],h,_=>by cases h
 | y::r,h,ht=>by
  simp only [ka,List.mem_append]
  rcases List.mem_cons.1 h with rfl | h
  ·exact .inl ht
  ·exact .inr (mA h ht)
theorem qg {x:Option X} {tm bh:Tm} (h : ∀ t∈td x,tm.get t=bh.get t):x.map (·.ev tm)=x.map (·.ev bh):=by
 cases x with
 | none=>rfl
 | some y=>simp only [Option.map_some];rw [X.bn h]
theorem u7 {o:AO} {tm bh:Tm} {s:St} (h : ∀ t∈o.reads,tm.get t=bh.get t):aH o tm s=aH o bh s:=by
 cases o with
 | mv x=>
  have hx:x.ev tm=x.ev bh:=X.bn fun t ht=>h t (by simp [AO.reads,ht])
  simp only [aH,hx]
 | pick c a b=>
  have hc:c.ev tm=c.ev bh:=X.bn fun t ht=>h t (by simp [AO.reads,ht])
  have ha:a.ev tm=a.ev bh:=X.bn fun t ht=>h t (by simp [AO.reads,ht])
  have hb:b.ev tm=b.ev bh:=X.bn fun t ht=>h t (by simp [AO.reads,ht])
  simp only [aH,hc,ha,hb]
 | alloc z=>
  rfl
 | n8 z T=>rfl
 | ta x T=>
  have hx:x.ev tm=x.ev bh:=X.bn fun t ht=>h t (by simp [AO.reads,ht])
  simp only [aH,hx]
 | tc x y=>
  have hx:x.ev tm=x.ev bh:=X.bn fun t ht=>h t (by simp [AO.reads,ht])
  have hy:y.ev tm=y.ev bh:=X.bn fun t ht=>h t (by simp [AO.reads,ht])
  simp only [aH,hx,hy]
 | apps x y=>
  have hx:x.ev tm=x.ev bh:=X.bn fun t ht=>h t (by simp [AO.reads,ht])
  have hy:y.ev tm=y.ev bh:=X.bn fun t ht=>h t (by simp [AO.reads,ht])
  simp only [aH,hx,hy]
 | box x=>
  have hx:x.ev tm=x.ev bh:=X.bn fun t ht=>h t (by simp [AO.reads,ht])
  simp only [aH,hx]
 | s8 x=>
  have hx:x.ev tm=x.ev bh:=X.bn fun t ht=>h t (by simp [AO.reads,ht])
  simp only [aH,hx]
 | load x g n=>
  have hx:x.ev tm=x.ev bh:=X.bn fun t ht=>h t (by simp [AO.reads,ht])
  simp only [aH,hx]
 | store p x n=>
  have hp:p.ev tm=p.ev bh:=X.bn fun t ht=>h t (by simp [AO.reads,ht])
  have hx:x.ev tm=x.ev bh:=X.bn fun t ht=>h t (by simp [AO.reads,ht])
  simp only [aH,hp,hx]
 | fM x=>
  have hx:x.ev tm=x.ev bh:=X.bn fun t ht=>h t (by simp [AO.reads,ht])
  simp only [aH,hx]
 | bin op x y=>
  have hx:x.ev tm=x.ev bh:=X.bn fun t ht=>h t (by simp [AO.reads,ht])
  have hy:y.ev tm=y.ev bh:=X.bn fun t ht=>h t (by simp [AO.reads,ht])
  simp only [aH,hx,hy]
 | yd n x y=>
  have hx:x.ev tm=x.ev bh:=X.bn fun t ht=>h t (by simp [AO.reads,ht])
  have hy:y.ev tm=y.ev bh:=X.bn fun t ht=>h t (by simp [AO.reads,ht])
  simp only [aH,hx,hy]
 | eqs n ks x y=>
  have hx:x.ev tm=x.ev bh:=X.bn fun t ht=>h t (by simp [AO.reads,ht])
  have hy:y.ev tm=y.ev bh:=X.bn fun t ht=>h t (by simp [AO.reads,ht])
  simp only [aH,hx,hy]
 | zS n x y=>
  have hx:x.ev tm=x.ev bh:=X.bn fun t ht=>h t (by simp [AO.reads,ht])
  have hy:y.ev tm=y.ev bh:=X.bn fun t ht=>h t (by simp [AO.reads,ht])
  simp only [aH,hx,hy]
 | un op x=>
  have hx:x.ev tm=x.ev bh:=X.bn fun t ht=>h t (by simp [AO.reads,ht])
  simp only [aH,hx]
 | conv k x=>
  have hx:x.ev tm=x.ev bh:=X.bn fun t ht=>h t (by simp [AO.reads,ht])
  simp only [aH,hx]
 | vX x=>
  have hx:x.ev tm=x.ev bh:=X.bn fun t ht=>h t (by simp [AO.reads,ht])
  simp only [aH,hx]
 | ra x=>
  have hx:x.ev tm=x.ev bh:=X.bn fun t ht=>h t (by simp [AO.reads,ht])
  simp only [aH,hx]
 | aB x n=>
  have hx:x.ev tm=x.ev bh:=X.bn fun t ht=>h t (by simp [AO.reads,ht])
  simp only [aH,hx]
 | sD x n g m=>
  have hx:x.ev tm=x.ev bh:=X.bn fun t ht=>h t (by simp [AO.reads,ht])
  simp only [aH,hx]
 | bR x i n=>
  have hx:x.ev tm=x.ev bh:=X.bn fun t ht=>h t (by simp [AO.reads,ht])
  have hi:i.ev tm=i.ev bh:=X.bn fun t ht=>h t (by simp [AO.reads,ht])
  simp only [aH,hx,hi]
 | s9 x i=>
  have hx:x.ev tm=x.ev bh:=X.bn fun t ht=>h t (by simp [AO.reads,ht])
  have hi:i.ev tm=i.ev bh:=X.bn fun t ht=>h t (by simp [AO.reads,ht])
  simp only [aH,hx,hi]
 | ext x i=>
  have hx:x.ev tm=x.ev bh:=X.bn fun t ht=>h t (by simp [AO.reads,ht])
  simp only [aH,hx]
 | len x=>
  have hx:x.ev tm=x.ev bh:=X.bn fun t ht=>h t (by simp [AO.reads,ht])
  simp only [aH,hx]
 | pj x=>
  have hx:x.ev tm=x.ev bh:=X.bn fun t ht=>h t (by simp [AO.reads,ht])
  simp only [aH,hx]
 | app a b x y=>
  have hx:x.ev tm=x.ev bh:=X.bn fun t ht=>h t (by simp [AO.reads,ht])
  have hy:y.ev tm=y.ev bh:=X.bn fun t ht=>h t (by simp [AO.reads,ht])
  simp only [aH,hx,hy]
 | mm b x y=>
  have hx:x.ev tm=x.ev bh:=X.bn fun t ht=>h t (by simp [AO.reads,ht])
  have hy:y.ev tm=y.ev bh:=X.bn fun t ht=>h t (by simp [AO.reads,ht])
  simp only [aH,hx,hy]
 | build z ps=>
  have hp:(ps.map fun p=>(p.1,p.2.1,p.2.2.ev tm))=ps.map fun p=>(p.1,p.2.1,p.2.2.ev bh):=List.map_congr_left fun p hp=>by
   have:p.2.2.ev tm=p.2.2.ev bh:=X.bn fun t ht=>h t (by simp only [AO.reads];exact mA (List.mem_map_of_mem hp) ht)
   rw [this]
  simp only [aH,hp]
 | dc z m n ps=>
  have hp:(ps.map fun p=>(p.1,p.2.ev tm))=ps.map fun p=>(p.1,p.2.ev bh):=List.map_congr_left fun p hp=>by
   have:p.2.ev tm=p.2.ev bh:=X.bn fun t ht=>h t (by simp only [AO.reads];exact mA (List.mem_map_of_mem hp) ht)
   rw [this]
  simp only [aH,hp]
 | ph z m n ps=>
  have hp:(ps.map fun p=>(p.1,p.2.ev tm))=ps.map fun p=>(p.1,p.2.ev bh):=List.map_congr_left fun p hp=>by
   have:p.2.ev tm=p.2.ev bh:=X.bn fun t ht=>h t (by simp only [AO.reads];exact mA (List.mem_map_of_mem hp) ht)
   rw [this]
  simp only [aH,hp]
 | zT n x lo hi=>
  have hx:x.ev tm=x.ev bh:=X.bn fun t ht=>h t (by simp [AO.reads,ht])
  have hl:lo.map (·.ev tm)=lo.map (·.ev bh):=qg fun t ht=>h t (by simp [AO.reads,ht])
  have hh:hi.map (·.ev tm)=hi.map (·.ev bh):=qg fun t ht=>h t (by simp [AO.reads,ht])
  simp only [aH,hx,hl,hh]
 | zU x lo hi=>
  have hx:x.ev tm=x.ev bh:=X.bn fun t ht=>h t (by simp [AO.reads,ht])
  have hl:lo.map (·.ev tm)=lo.map (·.ev bh):=qg fun t ht=>h t (by simp [AO.reads,ht])
  have hh:hi.map (·.ev tm)=hi.map (·.ev bh):=qg fun t ht=>h t (by simp [AO.reads,ht])
  simp only [aH,hx,hl,hh]
 | oU f xs=>
  have hp:(xs.map fun x=>x.ev tm)=xs.map fun x=>x.ev bh:=List.map_congr_left fun x hx=>X.bn fun t ht=>h t (by simp only [AO.reads];exact mA hx ht)
  simp only [aH,hp]
 | oV=>rfl
 | rN m k v=>
  have hm:m.ev tm=m.ev bh:=X.bn fun t ht=>h t (by simp [AO.reads,ht])
  have hk:k.ev tm=k.ev bh:=X.bn fun t ht=>h t (by simp [AO.reads,ht])
  have hv:v.ev tm=v.ev bh:=X.bn fun t ht=>h t (by simp [AO.reads,ht])
  simp only [aH,hm,hk,hv]
 | pY m k z=>
  have hm:m.ev tm=m.ev bh:=X.bn fun t ht=>h t (by simp [AO.reads,ht])
  have hk:k.ev tm=k.ev bh:=X.bn fun t ht=>h t (by simp [AO.reads,ht])
  simp only [aH,hm,hk]
theorem BN {o:AO} (ho:eJ o.kind=false) {tm:Tm} {s s':St} {d:D} (h:aH o tm s=some (d,s')):s'=s:=by
 cases o <;> simp only [AO.kind,eJ]at ho <;> first | cases ho | skip
 all_goals
  simp only [aH]at h
  first
   | (cases h;rfl)
   | (repeat' (split at h)) <;> first | (cases h;rfl) | cases h
theorem Ds {o:AO} (ho:o.kind = .pure) {tm:Tm} {s s':St} : (aH o tm s).map (·.1)=(aH o tm s').map (·.1):=by
 cases o <;> simp only [AO.kind]at ho <;> first | cases ho | skip
 all_goals
  simp only [aH]
  first
   | rfl
   | (repeat' split) <;> rfl
def gb (ai:AI) (tm:Tm) (s:St):Option D:=
 match ai with
 | .op _ none o=>(aH o tm s).map (·.1)
 | .op _ (some (t,want)) o=>
  match tm.get t with
  | .bool b=>if b=want then(aH o tm s).map (·.1)else some (.tuple [])
  | .tuple _=>some (.tuple [])
  | _=>none
 | _=>none
def nV (P:Program) (ai:AI) (tm:Tm) (s:St) (d:D) (s':St):Prop:=
 match ai with
 | .op _ g o=>guarded g tm (aH o tm s=some (d,s')) (d = .tuple []∧s'=s)
 | .call _ g f xs=>guarded g tm (dA P f (xs.map (·.ev tm)) s fun x y=>x=d∧y=s') (d = .tuple []∧s'=s)
 | .nil .. =>False
 | .fQ .. =>False
def gR (P:Program) (is:List AI) (K:Tm→St→Prop):List (Nat×Nat)→List St→Tm→St→Prop
 | [],_,tm,s=>K tm s
 | (q,b)::r,aY,tm,s=>
  match is[q]? with
  | none=>False
  | some ai=>
   match eJ ai.kind with
   | true=>∃ d s',nV P ai tm s d s'∧gR P is K r (s::aY) (tm.put ai.dst d) s'
   | false=>∃ d,gb ai tm s=some d∧(ai.kind = .load→∀ s'∈aY.take b,gb ai tm s'=some d)∧gR P is K r aY (tm.put ai.dst d) s
def Tm.eqv (a b:Tm):Prop:=∀ t,a.get t=b.get t
theorem Tm.ik (tm:Tm) (dst:Option Nat) (d:D) (t:Nat):(tm.put dst d).get t=if dst=some t then d else tm.get t:=by
 cases dst with
 | none=>simp [Tm.put]
 | some u=>
  simp only [Tm.put,Tm.xy,Option.some.injEq]
  by_cases h:t=u
  ·subst h;simp
  ·rw [if_neg h,if_neg (fun e=>h e.symm)]
theorem Tm.eqv.put {a b:Tm} (h:a.eqv b) (dst:Option Nat) (d:D):(a.put dst d).eqv (b.put dst d):=fun t=>by
 rw [Tm.ik,Tm.ik,h t]
theorem Tm.Av (tm:Tm) {x y:Option Nat} (h : ∀ t,x=some t→y≠some t) (d e:D):((tm.put x d).put y e).eqv ((tm.put y e).put x d):=fun t=>by
 simp only [Tm.ik]
 by_cases h1:x=some t
 ·simp only [h1,h t h1,if_true,if_false]
 ·simp only [h1,if_false]
theorem sM {g:Option (Nat×Bool)} {tm bh:Tm} {A A' C:Prop} (h : ∀ t∈pk g,tm.get t=bh.get t) (ha:A→A') (hh:guarded g tm A C):guarded g bh A' C:=by
 cases g with
 | none=>exact ha hh
 | some p=>
  obtain⟨t,want⟩:=p
  unfold guarded at *
  simp only at *
  rw [← h t (by simp [pk])]
  split
  ·rename_i b hb
   rw [hb]at hh
   exact⟨fun e=>ha (hh.1 e),hh.2⟩
  ·rename_i hb
   rw [hb]at hh
   exact hh
  ·rename_i x h1 h2
   split at hh
   ·exact h1 _ ‹_›
   ·exact h2 _ ‹_›
   ·exact hh
theorem yr {tm bh:Tm} : ∀ {l:List X},(∀ t∈ka l,tm.get t=bh.get t)→l.map (·.ev tm)=l.map (·.ev bh)
 | [],_=>rfl
 | x::r,h=>by
  simp only [List.map_cons]
  rw [X.bn fun t ht=>h t (by simp [ka,ht]),yr (l:=r) fun t ht=>h t (by simp [ka,ht])]
theorem qK {P:Program} {ai:AI} {tm bh:Tm} {s s':St} {d:D} (h : ∀ t∈ai.reads,tm.get t=bh.get t) (hh:nV P ai tm s d s'):nV P ai bh s d s':=by
 cases ai with
 | op dst g o=>
  simp only [AI.reads,List.mem_append]at h
  exact sM (fun t ht=>h t (.inl ht)) (fun e=>by rw [← u7 fun t ht=>h t (.inr ht)];exact e) hh
 | call dst g f xs=>
  simp only [AI.reads,List.mem_append]at h
  exact sM (fun t ht=>h t (.inl ht)) (fun e=>by rw [← yr fun t ht=>h t (.inr ht)];exact e) hh
 | nil dst g n x=>exact hh
 | fQ dst g t xs=>exact hh
theorem ma {ai:AI} {tm bh:Tm} {s:St} (h : ∀ t∈ai.reads,tm.get t=bh.get t):gb ai tm s=gb ai bh s:=by
 cases ai with
 | op dst g o=>
  simp only [AI.reads,List.mem_append]at h
  have he:=u7 (s:=s) fun t ht=>h t (.inr ht)
  cases g with
  | none=>simp only [gb,he]
  | some p=>
   obtain⟨t,want⟩:=p
   simp only [gb,he,h t (.inl (by simp [pk]))]
 | call dst g f xs=>rfl
 | nil dst g n x=>rfl
 | fQ dst g t xs=>rfl
theorem Cv {dst:Option Nat} {g:Option (Nat×Bool)} {o:AO} (h:eJ (AI.op dst g o).kind=false):(AI.op dst g o).kind=o.kind:=by
 unfold AI.kind at *
 split at h
 ·cases h
 ·rename_i heq;cases heq;rfl
 ·cases h
theorem Ii {ai:AI} (hk:ai.kind = .pure) {tm:Tm} {s s':St} : gb ai tm s=gb ai tm s':=by
 cases ai with
 | op dst g o=>
  have ho:o.kind = .pure:=by rw [← hk];exact(Cv (by rw [hk];rfl)).symm
  have he:=Ds ho (tm:=tm) (s:=s) (s':=s')
  cases g with
  | none=>simp only [gb,he]
  | some p=>simp only [gb,he]
 | call dst g f xs=>rfl
 | nil dst g n x=>rfl
 | fQ dst g t xs=>rfl
theorem apart_spec {a q:AI} (h:a.apart q=true):(∀ t,a.dst=some t→t∉q.reads)∧(∀ t,q.dst=some t→t∉a.reads)∧(∀ t,a.dst=some t→q.dst≠some t):=by
 unfold AI.apart at h
 simp only [Bool.and_eq_true]at h
 obtain⟨⟨h1,h2⟩,h3⟩:=h
 refine⟨fun t e=> ?_,fun t e=> ?_,fun t e e'=> ?_⟩
 ·rw [e]at h1;simpa [vZ]using h1
 ·rw [e]at h2;simpa [vZ]using h2
 ·rw [e,e']at h3;simp at h3
theorem nW {tm:Tm} {dst:Option Nat} {d:D} {l:List Nat} (h : ∀ t,dst=some t→t∉l) : ∀ t∈l,tm.get t=(tm.put dst d).get t:=fun t ht=>by
 rw [Tm.ik,if_neg fun e=>h t e ht]
section
variable {P:Program} {is:List AI} {K:Tm→St→Prop}
theorem nX (hK : ∀ tm bh s,Tm.eqv tm bh→K tm s→K bh s) : ∀ (R:List (Nat×Nat)) (aY:List St) (tm bh:Tm) (s:St),tm.eqv bh→gR P is K R aY tm s→gR P is K R aY bh s
 | [],_,tm,bh,s,e,h=>hK tm bh s e h
 | (q,b)::R,aY,tm,bh,s,e,h=>by
  unfold gR at *
  split at h
  ·exact h.elim
  ·rename_i ai qd
   split at h
   ·rename_i hc
    obtain⟨d,s',h1,h2⟩:=h
    exact⟨d,s',qK (fun t _=>e t) h1,nX hK R _ _ _ _ (e.put _ d) h2⟩
   ·rename_i hc
    obtain⟨d,h1,h2,h3⟩:=h
    refine⟨d, ?_,fun hl s' kS=> ?_,nX hK R _ _ _ _ (e.put _ d) h3⟩
    ·rw [← ma fun t _=>e t];exact h1
    ·rw [← ma fun t _=>e t];exact h2 hl s' kS
theorem Aw (i:Nat) (l:List Nat):fT is (i::l)=(if eJ (fR is i)then 1 else 0)+fT is l:=by
 unfold fT
 rw [List.filter_cons]
 split <;> simp <;> omega
theorem qL (hK : ∀ tm bh s,Tm.eqv tm bh→K tm s→K bh s) {q b:Nat} {ai:AI} (hq:is[q]? = some ai) (hm:eJ ai.kind=false) (Y:List (Nat×Nat)) :
 ∀ (X:List (Nat×Nat)) (aY:List St) (tm:Tm) (s:St),(∀ a∈X,ic is a.1 q=true)→(ai.kind = .load→fT is (X.map (·.1))≤b)→
  gR P is K (X++(q,b)::Y) aY tm s→
  ∃ d,gb ai tm s=some d∧(ai.kind = .load→∀ s'∈aY.take (b - fT is (X.map (·.1))),gb ai tm s'=some d)∧gR P is K (X++Y) aY (tm.put ai.dst d) s
 | [],aY,tm,s,_,_,h=>by
  simp only [List.nil_append,gR,hq,hm]at h
  obtain⟨d,h1,h2,h3⟩:=h
  exact⟨d,h1,fun hl s' kS=>h2 hl s' (by simpa [fT]using kS),h3⟩
 | (a,c)::X,aY,tm,s,eB,hb,h=>by
  have Dt:=eB (a,c) (by simp)
  unfold ic at Dt
  split at Dt
  ·rename_i ia iq RH oQ
   rw [hq]at oQ
   cases oQ
   obtain⟨p1,p2,p3⟩:=apart_spec Dt
   have FH:fR is a=ia.kind:=by simp [fR,RH]
   have KI : ∀ x∈X,ic is x.1 q=true:=fun x hx=>eB x (List.mem_cons_of_mem _ hx)
   rw [List.map_cons,Aw,FH]at hb ⊢
   simp only [List.cons_append,gR,RH]at h ⊢
   cases hc:eJ ia.kind
   ·simp only [hc,Bool.false_eq_true,if_false,Nat.zero_add]at h hb ⊢
    obtain⟨d,h1,h2,h3⟩:=h
    obtain⟨e,g1,g2,g3⟩:=qL hK hq hm Y X aY _ s KI hb h3
    have cg : ∀ s,gb ai tm s=gb ai (tm.put ia.dst d) s:=fun s=>ma (nW p1)
    have RI : ∀ s,gb ia tm s=gb ia (tm.put ai.dst e) s:=fun s=>ma (nW p2)
    refine⟨e,by rw [cg];exact g1,fun hl s' kS=>by rw [cg];exact g2 hl s' kS,d,by rw [← RI];exact h1,fun hl s' kS=>by rw [← RI];exact h2 hl s' kS, ?_⟩
    exact nX hK _ _ _ _ _ (Tm.Av tm p3 d e) g3
   ·simp only [hc,if_true]at h hb ⊢
    obtain⟨d,s1,h1,h3⟩:=h
    obtain⟨e,g1,g2,g3⟩:=qL hK hq hm Y X (s::aY) _ s1 KI (fun hl=>by have:=hb hl;omega) h3
    have cg : ∀ s,gb ai tm s=gb ai (tm.put ia.dst d) s:=fun s=>ma (nW p1)
    have lO:gb ai tm s=some e:=by
     cases hk:ai.kind with
     | pure=>rw [cg,Ii hk (s':=s1)];exact g1
     | load=>
      have:=hb hk
      rw [cg]
      refine g2 hk s ?_
      rw [show b - fT is (X.map (·.1))=(b - (1+fT is (X.map (·.1))))+1 by omega,List.take_succ_cons]
      exact List.mem_cons_self
     | alloc=>rw [hk]at hm;cases hm
     | core=>rw [hk]at hm;cases hm
    refine⟨e,lO,fun hl s' kS=> ?_,d,s1,qK (nW p2) h1,nX hK _ _ _ _ _ (Tm.Av tm p3 d e) g3⟩
    have:=hb hl
    rw [cg]
    refine g2 hl s' ?_
    rw [show b - fT is (X.map (·.1))=(b - (1+fT is (X.map (·.1))))+1 by omega,List.take_succ_cons]
    exact List.mem_cons_of_mem _ kS
  ·cases Dt
end
end Go.Abs

/-! Par1 -/

namespace Go.Abs
section
variable {P:Program}
theorem FV {o:Oper} {z:List D} (h:v7 P o=some (.alloc z)) : ∃ t,o.op = .alloc t∧zeroOf P t=some z:=by
 obtain⟨dst,op,type,pos,after,guard⟩:=o
 unfold v7 at h
 simp only at h
 split at h
 case h_4 t=>
  split at h
  ·obtain⟨z',h1,h2⟩:=map_some h;cases h2
  ·obtain⟨z',h1,h2⟩:=map_some h;cases h2;exact⟨t,rfl,h1⟩
 all_goals
  first
   | (rw [Option.map_eq_some_iff]at h;obtain⟨_,_,h⟩:=h;cases h)
   | skip
 all_goals
  (repeat' (split at h)) <;> first | (cases h;done) | (rw [Option.map_eq_some_iff]at h;obtain⟨_,_,h⟩:=h;cases h)
theorem tG {nt:Nat} {ops:Array Oper} {o:Oper} {ai:AI} (h:cI P nt ops o=some ai) :
 ∃ g,po ops o.guard=some g∧(∀ t,o.dst=some t→t<nt)∧nS P ops o g=some ai:=by
 have h2:=rm h
 unfold cI at h
 split at h
 ·cases h
 ·rename_i g hg
  split at h
  ·exact⟨g,hg,h2,h⟩
  ·cases h
theorem oi {ops:Array Oper} {o:Oper} {g:Option (Nat×Bool)} {ai:AI} (h:nS P ops o g=some ai):ai.dst=o.dst:=by
 unfold nS at h
 split at h
 ·split at h
  ·obtain⟨xs,_,rfl⟩:=map_some h;rfl
  ·cases h
 ·obtain⟨xs,_,rfl⟩:=map_some h;rfl
 ·split at h
  ·cases h;rfl
  ·split at h
   ·cases h;rfl
   ·cases h;rfl
   ·cases h
theorem oj {nt:Nat} {ops:Array Oper} {o:Oper} {ai:AI} (h:cI P nt ops o=some ai):ai.dst=o.dst:=by
 obtain⟨g,_,_,h⟩:=tG h
 exact oi h
theorem qM {nt:Nat} {ops:Array Oper} {i:Nat} {o:Oper} {ai:AI} (hi:ops[i]? = some o) (hc:cI P nt ops o=some ai)
 {M:Map} {s:St} {w:World} {tm:Tm} {act:Act} (r:Rel M s w) (iD:Laid M s w) (ht:iR M s tm act.tmps) {K':Tm→St→Prop} (h:fE P [ai] K' tm s)
 {K:Act→World→Prop} {Q:Exit→Act→World→Prop}
 (hK : ∀ d v s1 w1 M1,K' (tm.put ai.dst d) s1→Ext M s w M1 s1 w1→Rel M1 s1 w1→RD M1 s1 d v→K (act.put o.dst v) w1):wpOp P ops Q i K act w:=by
 obtain⟨g,hg,_,hb⟩:=tG hc
 rw [oi hb]at hK
 simp only [wpOp,hi]
 have skip:K' (tm.put o.dst (.tuple [])) s→K (act.put o.dst Go.undef) w:=fun hk=>hK _ _ _ _ _ hk (Ext.refl M s w) r .undef
 unfold nS at hb
 split at hb
 ·rename_i f args kf jn
  split at hb
  ·rename_i rX
   obtain⟨xs,kF,rfl⟩:=map_some hb
   simp only [fE]at h
   rcases gq hg ht h with ⟨hw,hA⟩ | ⟨hw,hB⟩
   ·simp only [hw,if_true]
    left
    have hex:(execOp act.eval o).run P w = .ok (.enter f (args.map act.eval)) w:=by
     obtain⟨dst,op,type,pos,after,guard⟩:=o
     simp only at jn
     subst jn
     exact qH act.eval dst f args kf type pos after guard rfl rX w
    obtain⟨c1,c2⟩:=qc ht kF
    unfold Oper.wp
    rw [hex,Oper.upon_enter]
    refine(hA M w (args.map act.eval) r iD (by simp [c1]) (fun i d v e1 e2=>c2 i d v e1 (by simpa using e2))).mono ?_
    rintro en w' ⟨M',d,v,s',rfl,hk,e',r',hv⟩
    exact hK _ _ _ _ _ hk e' r' hv
   ·simp only [hw]
    exact skip hB
  ·cases hb
 ·rename_i t args kf jn
  obtain⟨xs,kF,rfl⟩:=map_some hb
  simp only [fE]at h
  rcases gq hg ht h with ⟨hw,hA⟩ | ⟨hw,hB⟩
  ·simp only [hw,if_true]
   left
   split at hA
   ·rename_i f jT Aj
    obtain⟨rX,hA⟩:=hA
    have FK:=ht t
    rw [Aj]at FK
    obtain⟨vs,kU,hlen,wy⟩:=FK.Cn
    have hex:(execOp act.eval o).run P w = .ok (.enter f (args.map act.eval++vs)) w:=by
     obtain⟨dst,op,type,pos,after,guard⟩:=o
     simp only at jn
     subst jn
     exact tz act.eval dst (.tmp t) f vs args kf type pos after guard kU rX w
    have cc:=ym kF ht hlen wy
    unfold Oper.wp
    rw [hex,Oper.upon_enter]
    refine(hA M w (args.map act.eval++vs) r iD cc.1 cc.2).mono ?_
    rintro en w' ⟨M',d,v,s',rfl,hk,e',r',hv⟩
    exact hK _ _ _ _ _ hk e' r' hv
   ·exact hA.elim
  ·simp only [hw]
   exact skip hB
 ·split at hb
  ·rename_i neg x Ak
   cases hb
   simp only [fE]at h
   rcases gq hg ht h with ⟨hw,hA⟩ | ⟨hw,hB⟩
   ·simp only [hw,if_true]
    left
    split at hA
    ·rename_i g' z rows hx
     obtain⟨b,hb,hex⟩:=sI (w:=w) Ak ht hx
     unfold Oper.wp
     rw [hex,Oper.upon_value]
     exact hK _ _ _ _ _ (hA b hb) (Ext.refl M s w) r (.bool _)
    ·exact hA.elim
   ·simp only [hw]
    exact skip hB
  ·have fin : ∀ ao,ai = .op o.dst g ao→(∀ d s',aH ao tm s=some (d,s')→b9 P M s w (execOp act.eval o) d s')→
    (if Region.wanted o (yielded ops act.tmps)=true then o.wp P act w K Q∨(o.asks P act w∧LetsOut Q)else K (act.put o.dst Go.undef) w):=by
    intro ao qd Nh
    subst qd
    simp only [fE]at h
    rcases gq hg ht h with ⟨hw,hA⟩ | ⟨hw,hB⟩
    ·simp only [hw,if_true]
     left
     split at hA
     ·rename_i d s' l9
      obtain⟨v,w',M',cW,r',hv,e'⟩:=Nh d s' l9
      unfold Oper.wp
      rcases cW with cW | ⟨cW,rfl⟩
      ·rw [cW,Oper.upon_value]
       exact hK _ _ _ _ _ hA e' r' hv
      ·rw [cW,Oper.upon_skip]
       exact hK _ _ _ _ _ hA e' r' hv
     ·exact hA.elim
    ·simp only [hw]
     exact skip hB
   split at hb
   ·rename_i z k n ps kg
    cases hb
    refine fin _ rfl (fun d s' l9=> ?_)
    split at l9
    ·exact rW kg r ht l9
    ·exact nU kg r ht l9
   ·rename_i ao kg
    cases hb
    exact fin _ rfl (fun d s' l9=>nU kg r ht l9)
   ·cases hb
structure Cw (M:Map) (s:St) (b:Nat):Prop where
 o : ∀ o,o<s.au.length→M.mu o≠b
 t : ∀ t c z,s.live t→M.be t≠some (b,c,z)
 g : ∀ off,M.G b off=none
theorem Cw.mono {M M':Map} {s s':St} {w w':World} {b:Nat} (h:Cw M s b) (e:Ext M s w M' s' w') (hb:b<w.heap.size):Cw M' s' b:=by
 refine⟨fun o ho=> ?_,fun t c z hl he=> ?_,fun off=> ?_⟩
 ·rcases Nat.lt_or_ge o s.au.length with h1 | h1
  ·rw [e.le.mu o h1];exact h.o o h1
  ·have:=e.mj o h1 ho;omega
 ·rcases e.ml t b c z hl he with ⟨h1,c',z',h2⟩ | h1
  ·exact h.t t c' z' h1 h2
  ·omega
 ·by_cases hg:M'.G b off=M.G b off
  ·rw [hg];exact h.g off
  ·rcases e.oB b off hg with h1 | ⟨t,c,z,h1,h2⟩
   ·omega
   ·exact(h.t t c z h1 h2).elim
theorem Rel.idle {M:Map} {s:St} {w:World} (r:Rel M s w) (x:Obj):Rel M s (w.alloc x)∧Ext M s w M s (w.alloc x)∧Cw M s w.heap.size:=by
 refine⟨⟨fun b o v e=> ?_,fun o ds e=> ?_,r.im,r.inj,fun t n e=> ?_,r.dN,r.eC⟩, ?_,⟨fun o ho=> ?_,fun t c z hl e=> ?_,fun off=>r.Kh (Nat.le_refl _) off⟩⟩
 ·obtain⟨h3,h4⟩:=r.comm b o v e
  refine⟨?_,h4⟩
  rw [World.cell?_alloc_lt]
  ·exact h3
  ·exact r.xv e
 ·obtain⟨vs,T,h3,h4,h5,h6⟩:=r.obj o ds e
  exact⟨vs,T,by rw [heap_alloc_old w _ _ h3.lt];exact h3,h4,h5,h6⟩
 ·rcases r.tok t n e with h3 | ⟨b,cap,size,dY,T',h3,h4,h5⟩
  ·exact .inl h3
  ·exact .inr ⟨b,cap,size,dY,T',h3,by rw [heap_alloc_old w _ _ (iP h4)];exact h4,h5⟩
 ·exact⟨Le.refl M s,fun b hb _ _=>heap_alloc_old w _ b hb,fun o h3 h4=>by omega,fun t b c z h e=> .inl ⟨h,c,z,e⟩,fun _ _ h=>(h rfl).elim,by simp,rfl,rfl,rfl⟩
 ·have:=r.mr ho;omega
 ·have:=r.oW hl e;omega
theorem Rel.Qi {M:Map} {s:St} {w:World} (r:Rel M s w) {B:fh} (e:Ext B.M B.s B.w M s w) {b:Nat} (u:Cw M s b) (hb:B.w.heap.size≤b)
 (ds:List D) (vs:Array Value) (T:TypeId) (hh:w.heap[b]? = some (.cells vs T (0,0))) (hl:vs.size=ds.length) (h1 : ∀ v∈vs,v.oneCell'=true)
 (h2 : ∀ (i:Nat) (d:D) (v:Value),ds[i]? = some d→vs[i]? = some v→RD M s d v) :
 Rel (M.cQ s.au.length b) {s with au:=s.au++ [ds]} w∧Ext B.M B.s B.w (M.cQ s.au.length b) {s with au:=s.au++ [ds]} w∧
 Le M s (M.cQ s.au.length b) {s with au:=s.au++ [ds]}:=by
 have le:=pw (M:=M) s b ds
 have l7 : ∀ o,o<s.au.length→(M.cQ s.au.length b).mu o=M.mu o:=le.mu
 have c7:(M.cQ s.au.length b).mu s.au.length=b:=by simp [Map.cQ,Map.mu]
 refine⟨⟨r.comm,fun o kC e'=> ?_,fun o ho off=> ?_,fun o o' ho jR e'=> ?_,r.tok,fun t b' c z o hl e' ho=> ?_,r.eC⟩, ?_,le⟩
 ·rcases Nat.lt_or_ge o s.au.length with ho | ho
  ·rw [List.getElem?_append_left ho]at e'
   obtain⟨dY,T',h3,h4,h5,h6⟩:=r.obj o kC e'
   refine⟨dY,T', ?_,h4,⟨h5.1,by rw [le.ty o ho];exact h5.2⟩,fun i d v e1 e2=>(h6 i d v e1 e2).mono le⟩
   rw [l7 o ho,le.ob o ho];exact h3
  ·rw [List.getElem?_append_right ho]at e'
   have:o=s.au.length:=by
    have:=(List.getElem?_eq_some_iff.1 e').1
    simp at this;omega
   subst this
   simp at e';subst e'
   refine⟨vs,T, ?_,hl,⟨h1,fun T' h=>by simp [Map.cQ,Map.ty,Ob.ty?]at h⟩,fun i d v e1 e2=>(h2 i d v e1 e2).mono le⟩
   rw [c7];exact jt.of hh (by simp [Map.cQ,Map.ob])
 ·simp at ho
  rcases Nat.lt_or_ge o s.au.length with h3 | h3
  ·rw [l7 o h3];exact r.im o h3 off
  ·have:o=s.au.length:=by omega
   subst this
   rw [c7];exact u.g off
 ·simp at ho jR
  rcases Nat.lt_or_ge o s.au.length with h3 | h3 <;> rcases Nat.lt_or_ge o' s.au.length with h4 | h4
  ·rw [l7 o h3,l7 o' h4]at e';exact r.inj o o' h3 h4 e'
  ·have:o'=s.au.length:=by omega
   subst this
   rw [l7 o h3,c7]at e'
   exact(u.o o h3 e').elim
  ·have:o=s.au.length:=by omega
   subst this
   rw [l7 o' h4,c7]at e'
   exact(u.o o' h4 e'.symm).elim
  ·omega
 ·simp at ho
  rcases Nat.lt_or_ge o s.au.length with h3 | h3
  ·rw [l7 o h3];exact r.dN t b' c z o hl e' h3
  ·have:o=s.au.length:=by omega
   subst this
   rw [c7]
   intro he
   subst he
   exact u.t t c z hl e'
 ·refine⟨e.le.trans le,e.kept,fun o h3 h4=> ?_,e.ml,e.oB,e.size,e.os,e.tape,e.output⟩
  simp at h4
  rcases Nat.lt_or_ge o s.au.length with h5 | h5
  ·rw [l7 o h5];exact e.mj o h3 h5
  ·have:o=s.au.length:=by omega
   subst this
   rw [c7];exact hb
theorem BO {nt:Nat} {ops:Array Oper} {i:Nat} {o:Oper} {t:Nat} {z:List D} (hi:ops[i]? = some o) (hc:cI P nt ops o=some (.op (some t) none (.alloc z)))
 {w:World} {act:Act} {K:Act→World→Prop} {Q:Exit→Act→World→Prop}
 (hK : ∀ vs T,vs.size=z.length→(∀ v∈vs,v.oneCell'=true)→(∀ (M:Map) (s:St) (i:Nat) (d:D) (v:Value),z[i]? = some d→vs[i]? = some v→RD M s d v)→
  K (act.put (some t) (.pointer (some ⟨w.heap.size,0,none⟩))) (w.alloc (.cells vs T))):wpOp P ops Q i K act w:=by
 obtain⟨g,hg,_,hb⟩:=tG hc
 have lT:=oi hb
 simp only [AI.dst]at lT
 simp only [wpOp,hi]
 have jn:g=none∧v7 P o=some (.alloc z):=by
  unfold nS at hb
  split at hb
  ·split at hb
   ·obtain⟨xs,_,h⟩:=map_some hb;cases h
   ·cases hb
  ·obtain⟨xs,_,h⟩:=map_some hb;cases h
  ·split at hb
   ·cases hb
   ·split at hb
    ·rename_i kg
     simp only [Option.some.injEq,AI.op.injEq]at hb
     obtain⟨_,_,h⟩:=hb
     split at h <;> cases h
    ·rename_i ao kg
     simp only [Option.some.injEq,AI.op.injEq]at hb
     obtain⟨_,h1,h2⟩:=hb
     subst h2
     exact⟨h1,kg⟩
    ·cases hb
 obtain⟨rfl,kg⟩:=jn
 obtain⟨T,hT,hz⟩:=FV kg
 have hw:Region.wanted o (yielded ops act.tmps)=true:=by
  have:o.guard=none:=by
   cases yh:o.guard with
   | none=>rfl
   | some p=>
    obtain⟨j,b⟩:=p
    rw [yh]at hg
    unfold po at hg
    simp only at hg
    split at hg <;> cases hg
  simp [Region.wanted,this]
 simp only [hw,if_true]
 left
 unfold zeroOf at hz
 split at hz
 ·rename_i inf Ia
  split at hz
  ·rename_i v hv
   split at hz
   ·have cW:(execOp act.eval o).run P w = .ok (.value (.pointer (some ⟨w.heap.size,0,none⟩))) (w.alloc (.cells v.cells T)):=by
     obtain⟨dst,op,type,pos,after,guard⟩:=o
     simp only at hT
     subst hT
     simp [execOp,Instr.alloc,zeroValue,fm P Ia,hv,newVar,newRow]
    have h3:=fun M s=>ij (M:=M) (s:=s) hz
    obtain⟨h1,h2,_⟩:=h3 ⟨fun _ _=>none,fun _=>(0, .any),fun _=>none⟩ ⟨[],[]⟩
    unfold Oper.wp
    rw [cW,Oper.upon_value, ← lT]
    exact hK _ _ (by rw [h1];simp) (fun u hu=>h2 u (by simpa using hu)) (fun M s i d u e1 e2=>(h3 M s).2.2 i d u e1 (by simpa using e2))
   ·cases hz
  ·cases hz
 ·cases hz
end
end Go.Abs

/-! Par2 -/

namespace Go.Abs
section
variable {is:List AI} {af pt:List (List Nat)}
theorem sN {pq:List Nat} {l l':List Nat} (h:l'.Sublist l) (hb:gX is pq l=true):gX is pq l'=true:=by
 induction h with
 | slnil=>rfl
 | cons a h ih=>
  simp only [gX,Bool.and_eq_true]at hb
  exact ih hb.2
 | cons_cons a h ih=>
  simp only [gX,Bool.and_eq_true,Bool.or_eq_true]at hb ⊢
  refine⟨hb.1.imp id fun h1=> ?_,ih hb.2⟩
  rw [List.all_eq_true]at h1 ⊢
  exact fun x hx=>h1 x (h.subset hx)
theorem uE {f:Nat→Bool} {l l':List Nat} (h:l'.Sublist l) (ha:l.all f=true):l'.all f=true:=by
 rw [List.all_eq_true]at ha ⊢
 exact fun x hx=>ha x (h.subset hx)
theorem BP {l l':List Nat} (h:l'.Sublist l):fT is l'≤fT is l:=(h.filter _).length_le
theorem Dv {pre xF:List Nat} {q b:Nat} (h:xF.Sublist pre) (hs:kP is pt pre q b=true):kP is pt xF q b=true:=by
 unfold kP at *
 split at hs
 ·exact uE h hs
 ·exact uE h hs
 ·simp only [Bool.and_eq_true]at hs ⊢
  exact⟨uE h hs.1,sN h hs.2⟩
 ·simp only [Bool.and_eq_true,decide_eq_true_eq]at hs ⊢
  exact⟨⟨uE h hs.1.1,sN h hs.1.2⟩,Nat.le_trans (BP (h.filter _)) hs.2⟩
theorem Ax : ∀ {R:List (Nat×Nat)} {pre xF:List Nat},xF.Sublist pre→oP is af pt pre R=true→oP is af pt xF R=true
 | [],_,_,_,_=>rfl
 | (q,b)::R,pre,xF,h,ho=>by
  simp only [oP,Bool.and_eq_true,Bool.not_eq_true']at ho ⊢
  obtain⟨⟨⟨h1,h2⟩,h3⟩,h4⟩:=ho
  refine⟨⟨⟨Dv h h1, ?_⟩,h3⟩,Ax (h.cons_cons q) h4⟩
  rw [← Bool.not_eq_true,List.contains_iff_mem]at h2 ⊢
  exact fun hm=>h2 (h.subset hm)
theorem xG : ∀ {X:List (Nat×Nat)} {e:Nat×Nat} {Y:List (Nat×Nat)} {pre:List Nat},oP is af pt pre (X++e::Y)=true→oP is af pt pre (X++Y)=true
 | [],(q,b),Y,pre,h=>by
  simp only [List.nil_append,oP,Bool.and_eq_true]at h
  exact Ax (List.sublist_cons_self q pre) h.2
 | (a,c)::X,e,Y,pre,h=>by
  simp only [List.cons_append,oP,Bool.and_eq_true]at h ⊢
  obtain⟨⟨⟨h1,h2⟩,h3⟩,h4⟩:=h
  refine⟨⟨⟨h1,h2⟩, ?_⟩,xG h4⟩
  rw [List.all_eq_true]at h3 ⊢
  intro j hj
  have:=h3 j hj
  simp only [Bool.and_eq_true,Bool.not_eq_true']at this ⊢
  refine⟨this.1, ?_⟩
  have h5:=this.2
  rw [← Bool.not_eq_true,List.contains_iff_mem]at h5 ⊢
  refine fun hm=>h5 ?_
  simp only [List.map_append,List.map_cons,List.mem_append,List.mem_cons]at hm ⊢
  exact hm.imp id .inr
theorem om : ∀ {X:List (Nat×Nat)} {q b:Nat} {Y:List (Nat×Nat)} {pre:List Nat},oP is af pt pre (X++(q,b)::Y)=true→
 kP is pt ((X.map (·.1)).reverse++pre) q b=true∧q∉X.map (·.1)∧q∉pre∧(∀ j∈eZ af q,j≠q∧j∉Y.map (·.1))∧oP is af pt (q::((X.map (·.1)).reverse++pre)) Y=true
 | [],q,b,Y,pre,h=>by
  simp only [List.nil_append,oP,Bool.and_eq_true,Bool.not_eq_true']at h
  obtain⟨⟨⟨h1,h2⟩,h3⟩,h4⟩:=h
  rw [← Bool.not_eq_true,List.contains_iff_mem]at h2
  refine⟨h1,by simp,h2,fun j hj=> ?_,h4⟩
  rw [List.all_eq_true]at h3
  have:=h3 j hj
  simp only [Bool.and_eq_true,bne_iff_ne,Bool.not_eq_true', ← Bool.not_eq_true,List.contains_iff_mem]at this
  exact this
 | (a,c)::X,q,b,Y,pre,h=>by
  simp only [List.cons_append,oP,Bool.and_eq_true]at h
  obtain⟨_,h4⟩:=h
  obtain⟨g1,g2,g3,g4,g5⟩:=om h4
  simp only [List.map_cons,List.reverse_cons,List.append_assoc,List.singleton_append]
  refine⟨g1, ?_,fun h=>g3 (List.mem_cons_of_mem _ h),g4,g5⟩
  intro hm
  rcases List.mem_cons.1 hm with rfl | hm
  ·exact g3 (by simp)
  ·exact g2 hm
theorem uF : ∀ {Y:List (Nat×Nat)} {pre:List Nat},oP is af pt pre Y=true→∀ x∈Y,x.1∉pre∧(fR is x.1 = .alloc→∀ a∈pre,ic is a x.1=true)
 | [],_,_,x,hx=>by cases hx
 | (q,b)::Y,pre,h,x,hx=>by
  simp only [oP,Bool.and_eq_true,Bool.not_eq_true']at h
  obtain⟨⟨⟨h1,h2⟩,_⟩,h4⟩:=h
  rw [← Bool.not_eq_true,List.contains_iff_mem]at h2
  rcases List.mem_cons.1 hx with rfl | hx
  ·refine⟨h2,fun hk a ha=> ?_⟩
   unfold kP at h1
   simp only [hk]at h1
   rw [List.all_eq_true]at h1
   exact h1 a ha
  ·obtain⟨g1,g2⟩:=uF h4 x hx
   exact⟨fun h=>g1 (List.mem_cons_of_mem _ h),fun hk a ha=>g2 hk a (List.mem_cons_of_mem _ ha)⟩
theorem u9 : ∀ {n:Nat},rb af pt n=true→∀ i,i<n→∀ j∈eZ pt i,j∈eZ af i∨∃ k∈eZ af i,j∈eZ pt k
 | 0,_,i,hi=>by omega
 | n+1,h,i,hi=>by
  simp only [rb,Bool.and_eq_true]at h
  rcases Nat.lt_or_ge i n with h1 | h1
  ·exact u9 h.2 i h1
  ·have:i=n:=by omega
   subst this
   intro j hj
   have:=h.1
   rw [List.all_eq_true]at this
   have:=this j hj
   simp only [Bool.or_eq_true,List.contains_iff_mem,List.any_eq_true]at this
   exact this
theorem rq {pq:List Nat} : ∀ {l:List Nat},gX is pq l=true→∀ (x:Nat) (l1 l2:List Nat),l=l1++x::l2→fR is x = .alloc→x∈pq→∀ y∈l2,y∈pq
 | [],_,x,l1,l2,h=>by simp at h
 | a::l,hb,x,l1,l2,h=>by
  simp only [gX,Bool.and_eq_true,Bool.or_eq_true,Bool.not_eq_true',Bool.and_eq_false_iff]at hb
  intro hk hx y hy
  cases l1 with
  | nil=>
   simp only [List.nil_append,List.cons.injEq]at h
   obtain⟨rfl,rfl⟩:=h
   rcases hb.1 with h1 | h1
   ·rcases h1 with h1 | h1
    ·simp [hk]at h1
    ·rw [← Bool.not_eq_true,List.contains_iff_mem]at h1
     exact(h1 hx).elim
   ·rw [List.all_eq_true]at h1
    have:=h1 y hy
    rwa [List.contains_iff_mem]at this
  | cons b l1=>
   simp only [List.cons_append,List.cons.injEq]at h
   exact rq hb.2 x l1 l2 h.2 hk hx y hy
end
structure Pd where
 q:Nat
 t:Nat
 z:List D
 b:Nat
structure No (is:List AI) (R:List (Nat×Nat)) (B:fh) (M:Map) (s:St) (act:Act) (w:World) (p:Pd):Prop where
 mem:p.q∈R.map (·.1)
 ai:is[p.q]? = some (.op (some p.t) none (.alloc p.z))
 cells : ∃ (vs:Array Value) (T:TypeId),w.heap[p.b]? = some (.cells vs T (0,0))∧vs.size=p.z.length∧(∀ v∈vs,v.oneCell'=true)∧
  ∀ (M:Map) (s:St) (i:Nat) (d:D) (v:Value),p.z[i]? = some d→vs[i]? = some v→RD M s d v
 unk:Cw M s p.b
 base:B.w.heap.size≤p.b
 slot:act.tmps.getD p.t Go.undef = .pointer (some ⟨p.b,0,none⟩)
def rZ (P:Program) (is:List AI) (K:Tm→St→Prop) (B:fh) (nt:Nat) (R:List (Nat×Nat)) (cJ:List Pd) (act:Act) (w:World):Prop:=
 ∃ (M:Map) (s:St) (tm oo:Tm) (aY:List St),Ext B.M B.s B.w M s w∧Rel M s w∧iR M s oo act.tmps∧(∀ t,(∀ p∈cJ,p.t≠t)→oo.get t=tm.get t)∧
  act.tmps.size=nt∧act.defers = []∧gR P is K R aY tm s∧(∀ p∈cJ,No is R B M s act w p)∧
  (∀ p∈cJ,∀ p'∈cJ,p.q=p'.q∨p.t=p'.t∨p.b=p'.b→p=p')
structure mB (is:List AI) (af pt:List (List Nat)) (bS:Array Bool) (R:List (Nat×Nat)) (cJ:List Pd):Prop where
 ok:oP is af pt [] R=true
 yu : ∀ i,i<is.length→(bS.getD i false=true↔(i∉R.map (·.1)∨∃ p∈cJ,p.q=i))
 cl : ∀ i,i<is.length→bS.getD i false=true→∀ j∈eZ pt i,bS.getD j false=true
 size:bS.size=is.length
 lt : ∀ x∈R,x.1<is.length
section
variable {P:Program} {is:List AI} {af pt:List (List Nat)} {K:Tm→St→Prop} {B:fh} {nt:Nat}
theorem Np {bS:Array Bool} {q b:Nat} {R:List (Nat×Nat)} {cJ:List Pd} {act:Act} {w:World} (hs:mB is af pt bS ((q,b)::R) cJ) (h:rZ P is K B nt ((q,b)::R) cJ act w)
 {p:Pd} (hp:p∈cJ) (oR:p.q=q) :
 mB is af pt bS R (cJ.filter fun p'=>decide (p'.q≠q))∧rZ P is K B nt R (cJ.filter fun p'=>decide (p'.q≠q)) act w:=by
 have kx : ∀ p',p'∈(cJ.filter fun p'=>decide (p'.q≠q))↔p'∈cJ∧p'.q≠q:=fun p'=>by simp
 constructor
 ·have yo:=hs.ok
  have vz:=om (X:= []) yo
  refine⟨xG (X:= []) yo,fun i hi=> ?_,hs.cl,hs.size,fun x hx=>hs.lt x (List.mem_cons_of_mem _ hx)⟩
  rw [hs.yu i hi]
  simp only [List.map_cons,List.mem_cons,not_or]
  have Nq:q∉R.map (·.1):=fun hm=>by
   obtain⟨x,hx,rfl⟩:=List.mem_map.1 hm
   exact(uF vz.2.2.2.2 x hx).1 (by simp)
  constructor
  ·rintro(⟨h1,h2⟩ | ⟨p',h1,h2⟩)
   ·exact .inl h2
   ·by_cases hq:i=q
    ·subst hq;exact .inl Nq
    ·exact .inr ⟨p',(kx p').2 ⟨h1,by rw [h2];exact hq⟩,h2⟩
  ·rintro(h1 | ⟨p',h1,h2⟩)
   ·by_cases hq:i=q
    ·subst hq;exact .inr ⟨p,hp,oR⟩
    ·exact .inl ⟨hq,h1⟩
   ·exact .inr ⟨p',((kx p').1 h1).1,h2⟩
 ·obtain⟨M,s,tm,oo,aY,e,r,ht,lO,hn,hd,hg,qh,nY⟩:=h
  have hk:=qh p hp
  obtain⟨vs,T,hh,hl,h1,h2⟩:=hk.cells
  have qd:=hk.ai
  rw [oR]at qd
  simp only [gR,qd,AI.kind,eJ]at hg
  obtain⟨d,s',uU,hg⟩:=hg
  have l9:aH (.alloc p.z) tm s=some (d,s'):=uU
  simp only [aH,Option.some.injEq,Prod.mk.injEq]at l9
  obtain⟨rfl,rfl⟩:=l9
  obtain⟨r',e',le⟩:=r.Qi e hk.unk hk.base p.z vs T hh hl h1 (h2 M s)
  refine⟨_,_,_,oo.put (some p.t) (.ptr s.au.length 0),_,e',r',fun u=> ?_,fun t Nr=> ?_,hn,hd,hg,fun p' kH=> ?_,fun p1 h1 p2 h2=>nY p1 ((kx p1).1 h1).1 p2 ((kx p2).1 h2).1⟩
  ·rw [Tm.ik]
   split
   ·rename_i heq
    cases heq
    rw [hk.slot]
    have:(M.cQ s.au.length p.b).mu s.au.length=p.b:=by simp [Map.cQ,Map.mu]
    have h5:=RD.ptr (M:=M.cQ s.au.length p.b) (s:= {s with au:=s.au++ [p.z]}) s.au.length 0 (by simp) (by simp [Map.cQ,Map.ob])
    rw [this]at h5
    exact h5
   ·exact(ht u).mono le
  ·simp only [AI.dst]
   rw [Tm.ik,Tm.ik]
   split
   ·rfl
   ·rename_i dS
    refine lO t fun p' kH=> ?_
    by_cases hq:p'.q=q
    ·have:=nY p' kH p hp (.inl (hq.trans oR.symm))
     subst this
     exact fun h=>dS (by rw [h])
    ·exact Nr p' ((kx p').2 ⟨kH,hq⟩)
  ·obtain⟨RJ,RK⟩:=(kx p').1 kH
   have va:=qh p' RJ
   refine⟨?_,va.ai,va.cells,⟨fun o ho=> ?_,va.unk.t,va.unk.g⟩,va.base,va.slot⟩
   ·have:=va.mem
    simp only [List.map_cons,List.mem_cons]at this
    exact this.resolve_left RK
   ·simp at ho
    rcases Nat.lt_or_ge o s.au.length with h5 | h5
    ·rw [le.mu o h5];exact va.unk.o o h5
    ·have:o=s.au.length:=by omega
     subst this
     have:(M.cQ s.au.length p.b).mu s.au.length=p.b:=by simp [Map.cQ,Map.mu]
     rw [this]
     intro hb
     have:=nY p hp p' RJ (.inr (.inr hb))
     subst this
     exact RK oR
theorem norm {bS:Array Bool} {act:Act} {w:World} : ∀ (R:List (Nat×Nat)) (cJ:List Pd),mB is af pt bS R cJ→rZ P is K B nt R cJ act w→
 ∃ R' qi,mB is af pt bS R' qi∧rZ P is K B nt R' qi act w∧∀ x l,R'=x::l→∀ p∈qi,p.q≠x.1
 | [],cJ,hs,h=>⟨[],cJ,hs,h,fun _ _ he=>by cases he⟩
 | (q,b)::R,cJ,hs,h=>by
  by_cases hp : ∃ p∈cJ,p.q=q
  ·obtain⟨p,hp,oR⟩:=hp
   obtain⟨h1,h2⟩:=Np hs h hp oR
   exact norm R _ h1 h2
  ·refine⟨(q,b)::R,cJ,hs,h,fun x l he p Ns oR=>hp ⟨p,Ns, ?_⟩⟩
   cases he
   exact oR
theorem KK {ops:Array Oper} {q:Nat} {o:Oper} {ai:AI} (hi:ops[q]? = some o) (hc:cI P nt ops o=some ai) {R R':List (Nat×Nat)} {cJ:List Pd} {act:Act} {w:World} {M:Map} {s s1:St} {tm oo:Tm} {d:D} {KM:List St}
 (e:Ext B.M B.s B.w M s w) (r:Rel M s w) (ht:iR M s oo act.tmps) (lO : ∀ t,(∀ p∈cJ,p.t≠t)→oo.get t=tm.get t) (hn:act.tmps.size=nt) (hd:act.defers = [])
 (qh : ∀ p∈cJ,No is R B M s act w p) (nY : ∀ p∈cJ,∀ p'∈cJ,p.q=p'.q∨p.t=p'.t∨p.b=p'.b→p=p')
 (hv:fE P [ai] (fun a b=>a=oo.put ai.dst d∧b=s1) oo s) (hg:gR P is K R' KM (tm.put ai.dst d) s1)
 (kx : ∀ p∈cJ,p.q∈R'.map (·.1)) (lT : ∀ p∈cJ,ai.dst≠some p.t) {Q:Exit→Act→World→Prop} :
 wpOp P ops Q q (rZ P is K B nt R' cJ) act w:=by
 refine qM hi hc r (B.laid.ext e) ht hv fun d' v s2 w1 M1 hk e1 r1 lH=> ?_
 obtain⟨uX,rfl⟩:=hk
 have RL:=oj hc
 have hD : ∀ t,o.dst=some t→t<act.tmps.size:=fun t h=>by rw [hn];exact rm hc t h
 refine⟨M1,s2,tm.put ai.dst d,oo.put ai.dst d,KM,e.trans e1,r1, ?_,fun t Nr=> ?_, ?_, ?_,hg,fun p hp=> ?_,nY⟩
 ·rw [← uX,RL]
  exact(ht.mono e1.le).put hD lH
 ·rw [Tm.ik,Tm.ik,lO t Nr]
 ·cases ho:o.dst <;> simp [Act.put,hn]
 ·cases ho:o.dst <;> simp [Act.put,hd]
 ·have hk:=qh p hp
  obtain⟨vs,T,hh,hl,h1,h2⟩:=hk.cells
  have hb:=iP hh
  refine⟨kx p hp,hk.ai,⟨vs,T,by rw [e1.kept p.b hb hk.unk.o hk.unk.t];exact hh,hl,h1,h2⟩,hk.unk.mono e1 hb,hk.base, ?_⟩
  rw [← hk.slot]
  have:=lT p hp
  rw [RL]at this
  cases ho:o.dst with
  | none=>rfl
  | some t=>
   rw [ho]at this
   have dS:t≠p.t:=fun h=>this (by rw [h])
   simp [Act.put,Array.getElem?_setIfInBounds_ne dS]
theorem Dw {ai:AI} (hm:eJ ai.kind=false) {tm:Tm} {s:St} {d:D} (h:gb ai tm s=some d):fE P [ai] (fun a b=>a=tm.put ai.dst d∧b=s) tm s:=by
 cases ai with
 | op dst g o=>
  have U2:=Cv hm
  have key : ∀ {d},(aH o tm s).map (·.1)=some d→aH o tm s=some (d,s):=by
   intro d h
   cases he:aH o tm s with
   | none=>rw [he]at h;cases h
   | some p=>
    obtain⟨d',s'⟩:=p
    rw [he]at h
    simp only [Option.map_some,Option.some.injEq]at h
    subst h
    rw [BN (by rw [← U2];exact hm) he]
  simp only [fE,AI.dst]
  cases g with
  | none=>
   simp only [gb]at h
   simp only [guarded,key h,and_self]
  | some p=>
   obtain⟨t,want⟩:=p
   simp only [gb]at h
   simp only [guarded]
   split at h
   ·rename_i b hb
    simp only [hb]
    split at h
    ·rename_i heq
     refine⟨fun _=>by simp only [key h,and_self],fun dS=> ?_⟩
     subst heq
     cases b <;> cases dS
    ·rename_i dS
     cases h
     exact⟨fun heq=>(dS heq).elim,fun _=>by simp⟩
   ·rename_i ds hb
    cases h
    simp only [hb,and_self]
   ·cases h
 | call dst g f xs=>cases hm
 | nil dst g n x=>cases hm
 | fQ dst g t xs=>cases hm
theorem tH {g:Option (Nat×Bool)} {tm:Tm} {A A' C C':Prop} (ha:A→A') (hc:C→C') (hh:guarded g tm A C):guarded g tm A' C':=by
 cases g with
 | none=>exact ha hh
 | some p=>
  obtain⟨t,want⟩:=p
  unfold guarded at *
  simp only at *
  split
  ·rename_i b hb;rw [hb]at hh;exact⟨fun e=>ha (hh.1 e),fun e=>hc (hh.2 e)⟩
  ·rename_i hb;rw [hb]at hh;exact hc hh
  ·rename_i x h1 h2
   split at hh
   ·exact h1 _ ‹_›
   ·exact h2 _ ‹_›
   ·exact hh
theorem Ay {ai:AI} {tm:Tm} {s s1:St} {d:D} (h:nV P ai tm s d s1):fE P [ai] (fun a b=>a=tm.put ai.dst d∧b=s1) tm s:=by
 cases ai with
 | op dst g o=>
  refine tH (fun e=> ?_) (fun e=> ?_) h
  ·rw [e];exact⟨rfl,rfl⟩
  ·obtain⟨rfl,rfl⟩:=e;exact⟨rfl,rfl⟩
 | call dst g f xs=>
  refine tH (fun e=> ?_) (fun e=> ?_) h
  ·exact e.mono fun x y U3=>by obtain⟨rfl,rfl⟩:=U3;exact⟨rfl,rfl⟩
  ·obtain⟨rfl,rfl⟩:=e;exact⟨rfl,rfl⟩
 | nil dst g n x=>exact h.elim
 | fQ dst g t xs=>exact h.elim
end
end Go.Abs

/-! Par3 -/

namespace Go.Abs
section
variable {P:Program} {is:List AI} {af pt:List (List Nat)} {K:Tm→St→Prop} {B:fh} {nt:Nat}
theorem uG {ops:Array Oper} : ∀ {ol:List Oper} {is:List AI},mq P nt ops ol=some is→is.length=ol.length∧∀ (i:Nat) (o:Oper),ol[i]? = some o→∃ ai,is[i]? = some ai∧cI P nt ops o=some ai
 | [],is,h=>by cases h;exact⟨rfl,by simp⟩
 | o::ol,is,h=>by
  unfold mq at h
  split at h
  ·rename_i ai FJ h1 h2
   cases h
   obtain⟨g1,g2⟩:=uG h2
   refine⟨by simp [g1],fun i o' ho=> ?_⟩
   cases i with
   | zero=>simp at ho;subst ho;exact⟨ai,rfl,h1⟩
   | succ i=>exact g2 i o' (by simpa using ho)
  ·cases h
theorem nZ {bS:Array Bool} {i:Nat} (h:i<bS.size):bS.getD i true=bS.getD i false:=by
 simp [h]
theorem mB.done {bS:Array Bool} {X Y:List (Nat×Nat)} {q b:Nat} {cJ:List Pd} (hs:mB is af pt bS (X++(q,b)::Y) cJ) (hq:q<is.length)
 (yv : ∀ j∈eZ pt q,bS.getD j false=true):mB is af pt (bS.setIfInBounds q true) (X++Y) cJ:=by
 obtain⟨g1,g2,g3,g4,g5⟩:=om hs.ok
 have U4:q∉Y.map (·.1):=fun hm=>by
  obtain⟨x,hx,rfl⟩:=List.mem_map.1 hm
  exact(uF g5 x hx).1 (by simp)
 refine⟨xG hs.ok,fun i hi=> ?_,fun i hi hl j hj=> ?_,by simp [hs.size],fun x hx=>hs.lt x (by simp at hx ⊢;exact hx.imp id .inr)⟩
 ·by_cases oQ:i=q
  ·subst oQ
   have:i<bS.size:=by rw [hs.size];exact hq
   simp only [List.map_append,List.mem_append,g2,U4,or_self,not_false_eq_true,true_or,iff_true]
   simp [this]
  ·rw [getD_set_ne false (Ne.symm oQ),hs.yu i hi]
   simp [oQ]
 ·by_cases oQ:i=q
  ·subst oQ;exact getD_set_true (yv j hj)
  ·rw [getD_set_ne false (Ne.symm oQ)]at hl
   exact getD_set_true (hs.cl i hi hl j hj)
theorem mB.flag {bS:Array Bool} {R:List (Nat×Nat)} {cJ:List Pd} (hs:mB is af pt bS R cJ) {p:Pd} (hq:p.q<is.length)
 (yv : ∀ j∈eZ pt p.q,bS.getD j false=true):mB is af pt (bS.setIfInBounds p.q true) R (p::cJ):=by
 refine⟨hs.ok,fun i hi=> ?_,fun i hi hl j hj=> ?_,by simp [hs.size],hs.lt⟩
 ·by_cases oQ:i=p.q
  ·subst oQ
   have:p.q<bS.size:=by rw [hs.size];exact hq
   simp [this]
  ·rw [getD_set_ne false (Ne.symm oQ),hs.yu i hi]
   have dS:p.q≠i:=fun h=>oQ h.symm
   simp [dS]
 ·by_cases oQ:i=p.q
  ·subst oQ;exact getD_set_true (yv j hj)
  ·rw [getD_set_ne false (Ne.symm oQ)]at hl
   exact getD_set_true (hs.cl i hi hl j hj)
theorem Dx {ai:AI} (h:ai.kind = .alloc) : ∃ t z,ai = .op (some t) none (.alloc z):=by
 cases ai with
 | op dst g o=>
  unfold AI.kind at h
  split at h
  ·rename_i heq;cases heq;exact⟨_,_,rfl⟩
  ·rename_i heq
   cases heq
   exfalso
   revert h
   cases o <;> simp [AO.kind]
  ·cases h
 | call dst g f xs=>cases h
 | nil dst g n x=>cases h
 | fQ dst g t xs=>cases h
theorem Dy {ops:Array Oper} (qN:mq P nt ops ops.toList=some is) (Dz:rb af pt is.length=true)
 (hK : ∀ tm bh s,Tm.eqv tm bh→K tm s→K bh s) {bS:Array Bool} {R:List (Nat×Nat)} {cJ:List Pd} {act:Act} {w:World} (hs:mB is af pt bS R cJ) (h:rZ P is K B nt R cJ act w)
 (Qk : ∀ x l,R=x::l→∀ p∈cJ,p.q≠x.1) {q:Nat} (hq:q<is.length) (wC:bS.getD q false=false) (lH : ∀ j∈eZ af q,j<is.length∧bS.getD j false=true)
 {Q:Exit→Act→World→Prop} {K2:Act→World→Prop} (Nu : ∀ R' qi a' w',mB is af pt (bS.setIfInBounds q true) R' qi→rZ P is K B nt R' qi a' w'→K2 a' w'):wpOp P ops Q q K2 act w:=by
 obtain⟨hlen,hJ⟩:=uG qN
 have Ky:q<ops.size:=by rw [hlen]at hq;simpa using hq
 obtain⟨ai,qd,FX⟩:=hJ q ops[q] (by simp [Ky])
 have hi:ops[q]? = some ops[q]:=by simp [Ky]
 have yv : ∀ j∈eZ pt q,bS.getD j false=true:=fun j hj=>by
  rcases u9 Dz q hq j hj with h1 | ⟨k,h1,h2⟩
  ·exact(lH j h1).2
  ·exact hs.cl k (lH k h1).1 (lH k h1).2 j h2
 have FY : ∀ p∈cJ,p.q≠q:=fun p hp oR=>by
  have:=(hs.yu q hq).2 (.inr ⟨p,hp,oR⟩)
  rw [wC]at this;cases this
 have Nq:q∈R.map (·.1):=by
  by_cases hm:q∈R.map (·.1)
  ·exact hm
  ·have:=(hs.yu q hq).2 (.inl hm)
   rw [wC]at this;cases this
 obtain⟨⟨q',b⟩,hx,RM⟩:=List.mem_map.1 Nq
 simp only at RM
 subst RM
 obtain⟨X,Y,rfl⟩:=List.append_of_mem hx
 obtain⟨g1,g2,g3,g4,g5⟩:=om hs.ok
 rw [List.append_nil]at g1 g5
 obtain⟨M,s,tm,oo,aY,e,r,ht,lO,hn,hd,hg,qh,nY⟩:=h
 have FZ:fR is q'=ai.kind:=by simp [fR,qd]
 -- what must have come up ahead of it, is not here any more, but for what was allocated early
 have KN : ∀ a∈X.map (·.1),a∈eZ pt q'→∃ p∈cJ,p.q=a:=fun a ha eB=>by
  have h1:=yv a eB
  obtain⟨x,RN,rfl⟩:=List.mem_map.1 ha
  rcases(hs.yu x.1 (hs.lt x (by simp [RN]))).1 h1 with h2 | h2
  ·exact(h2 (by simp;exact .inl ⟨x.2,RN⟩)).elim
  ·exact h2
 have KO : ∀ x l,X=x::l→x.1∉eZ pt q':=fun x l hX U6=>by
  obtain⟨p,hp,oR⟩:=KN x.1 (by simp [hX]) U6
  exact Qk x (l++(q',b)::Y) (by simp [hX]) p hp oR
 have RO : ∀ p∈cJ,fR is p.q = .alloc:=fun p hp=>by simp [fR,(qh p hp).ai,AI.kind]
 have vz : ∀ p∈cJ,(p.q∈X.map (·.1)→ic is p.q q'=true)→(∀ t,ai.dst=some t→t≠p.t)∧p.t∉ai.reads:=fun p hp hX=>by
  have hk:=qh p hp
  have hm:=hk.mem
  simp only [List.map_append,List.map_cons,List.mem_append,List.mem_cons]at hm
  rcases hm with hm | hm | hm
  ·have:=hX hm
   simp only [ic,hk.ai,qd]at this
   obtain⟨p1,p2,p3⟩:=apart_spec this
   exact⟨fun t ht he=>p3 p.t rfl (by rw [ht,he]),p1 p.t rfl⟩
  ·exact(FY p hp hm).elim
  ·obtain⟨x,U7,KP⟩:=List.mem_map.1 hm
   have:=(uF g5 x U7).2 (by rw [KP];exact RO p hp) q' (by simp)
   rw [KP]at this
   simp only [ic,hk.ai,qd]at this
   obtain⟨p1,p2,p3⟩:=apart_spec this
   exact⟨fun t ht he=>p3 t ht (by rw [he];rfl),p2 p.t rfl⟩
 have F0:(∀ p∈cJ,p.t∉ai.reads)→∀ t∈ai.reads,tm.get t=oo.get t:=fun hp t ht=>(lO t fun p Ns he=>hp p Ns (by rw [he];exact ht)).symm
 have KQ : ∀ p∈cJ,p.q∈(X++Y).map (·.1):=fun p hp=>by
  have hm:=(qh p hp).mem
  have:=FY p hp
  simp only [List.map_append,List.map_cons,List.mem_append,List.mem_cons]at hm ⊢
  rcases hm with hm | hm | hm
  ·exact .inl hm
  ·exact(this hm).elim
  ·exact .inr hm
 by_cases vb:ai.kind = .alloc
 ·-- an allocation
  obtain⟨t,z,rfl⟩:=Dx vb
  have eB : ∀ a∈X.map (·.1),ic is a q'=true:=fun a ha=>by
   unfold kP at g1
   rw [FZ,vb]at g1
   simp only [List.all_reverse,List.all_eq_true]at g1
   exact g1 a ha
  have yw:=fun p hp=>vz p hp (eB p.q)
  refine BO hi FX fun vs T hl h1 h2=> ?_
  obtain⟨r1,e1,u1⟩:=r.idle (.cells vs T)
  have Nv:t<act.tmps.size:=by
   rw [hn]
   exact rm FX t (by rw [← oj FX];rfl)
  have:=hs.flag (p:=⟨q',t,z,w.heap.size⟩) hq yv
  refine Nu _ _ _ _ this ⟨M,s,tm,oo.put (some t) .junk,aY,e.trans e1,r1,iR.put ht (dst:=some t) (fun u hu=>by cases hu;exact Nv) (.junk _),fun u hu=> ?_,by simp [Act.put,hn],by simp [Act.put,hd],hg,fun p hp=> ?_,fun p hp p' kH he=> ?_⟩
  ·have h3:=hu ⟨q',t,z,w.heap.size⟩ (by simp)
   rw [Tm.ik,if_neg (by simpa using h3)]
   exact lO u fun p hp=>hu p (List.mem_cons_of_mem _ hp)
  ·rcases List.mem_cons.1 hp with rfl | hp
   ·refine⟨by simp,qd,⟨vs,T,heap_alloc_new w _,hl,h1,h2⟩,u1,e.size, ?_⟩
    simp [Act.put,Nv]
   ·have hk:=qh p hp
    obtain⟨dY,T',iU,ll,np,rp⟩:=hk.cells
    refine⟨hk.mem,hk.ai,⟨dY,T',by rw [heap_alloc_old w _ _ (iP iU)];exact iU,ll,np,rp⟩,hk.unk,hk.base, ?_⟩
    rw [← hk.slot]
    have dS:t≠p.t:=(yw p hp).1 t rfl
    simp [Act.put,Array.getElem?_setIfInBounds_ne dS]
  ·have c7 : ∀ p∈cJ,¬ (q'=p.q∨t=p.t∨w.heap.size=p.b):=fun p hp h=>by
    rcases h with h | h | h
    ·exact FY p hp h.symm
    ·exact(yw p hp).1 t rfl h
    ·obtain⟨dY,T',iU,_⟩:=(qh p hp).cells
     have:=iP iU
     omega
   rcases List.mem_cons.1 hp with rfl | hp <;> rcases List.mem_cons.1 kH with rfl | kH
   ·rfl
   ·exact(c7 p' kH he).elim
   ·exact(c7 p hp (he.imp Eq.symm (Or.imp Eq.symm Eq.symm))).elim
   ·exact nY p hp p' kH he
 ·by_cases kg:eJ ai.kind=true
  ·-- a step that changes something: it stands first
   have U8:ai.kind = .core:=by
    cases hk:ai.kind <;> simp_all [eJ]
   have hX:X = []:=by
    cases X with
    | nil=>rfl
    | cons x l=>
     refine(KO x l rfl ?_).elim
     unfold kP at g1
     rw [FZ,U8]at g1
     simp only [List.all_reverse,List.all_eq_true]at g1
     have:=g1 x.1 (by simp)
     rwa [List.contains_iff_mem]at this
   subst hX
   have yw:=fun p hp=>vz p hp (fun h=>by simp at h)
   simp only [List.nil_append,gR,qd,kg]at hg
   obtain⟨d,s1,uU,hg⟩:=hg
   have SB:=qK (F0 fun p hp=>(yw p hp).2) uU
   refine wpOp_mono (fun a' w' hr=>Nu _ _ _ _ (hs.done hq yv) hr) ?_
   exact KK hi FX e r ht lO hn hd qh nY (Ay SB) hg KQ (fun p hp he=>(yw p hp).1 _ he rfl)
  ·-- a step that changes nothing
   have hm:eJ ai.kind=false:=by simpa using kg
   have kY : ∀ a∈X.map (·.1),a∉eZ pt q':=fun a ha eB=>by
    obtain⟨p,hp,oR⟩:=KN a ha eB
    have FH:fR is a = .alloc:=by rw [← oR];exact RO p hp
    have gK:gX is (eZ pt q') (X.map (·.1)).reverse=true:=by
     unfold kP at g1
     rw [FZ]at g1
     cases hk:ai.kind with
     | pure=>simp only [hk,Bool.and_eq_true]at g1;exact g1.2
     | load=>simp only [hk,Bool.and_eq_true]at g1;exact g1.1.2
     | alloc=>exact(vb hk).elim
     | core=>rw [hk]at hm;cases hm
    cases X with
    | nil=>simp at ha
    | cons x l=>
     have U9:a∈((x::l).map (·.1)).reverse:=List.mem_reverse.2 ha
     obtain⟨l1,l2,vd⟩:=List.append_of_mem U9
     have vB:=rq gK a l1 l2 vd FH eB
     refine KO x l rfl ?_
     cases kE:l2.reverse with
     | nil=>
      have h3:l2 = []:=by simpa using kE
      subst h3
      have:=congrArg List.reverse vd
      simp at this
      rw [this.1];exact eB
     | cons y l3=>
      have:=congrArg List.reverse vd
      simp only [List.reverse_reverse,List.map_cons,List.reverse_append,List.reverse_cons,List.reverse_nil,List.append_assoc,kE,List.cons_append,List.nil_append,List.cons.injEq]at this
      rw [this.1]
      exact vB y (by rw [← List.mem_reverse,kE];simp)
   have eB : ∀ a∈X,ic is a.1 q'=true:=fun a ha=>by
    have h3 : ∀ x∈(X.map (·.1)).reverse,((eZ pt q').contains x || ic is x q')=true:=by
     unfold kP at g1
     rw [FZ]at g1
     cases hk:ai.kind with
     | pure=>simp only [hk,Bool.and_eq_true]at g1;exact List.all_eq_true.1 g1.1
     | load=>simp only [hk,Bool.and_eq_true]at g1;exact List.all_eq_true.1 g1.1.1
     | alloc=>exact(vb hk).elim
     | core=>rw [hk]at hm;cases hm
    have:=h3 a.1 (List.mem_reverse.2 (List.mem_map_of_mem ha))
    simp only [Bool.or_eq_true,List.contains_iff_mem]at this
    exact this.resolve_left (kY a.1 (List.mem_map_of_mem ha))
   have Nw:ai.kind = .load→fT is (X.map (·.1))≤b:=fun hk=>by
    unfold kP at g1
    rw [FZ,hk]at g1
    simp only [Bool.and_eq_true,decide_eq_true_eq]at g1
    have h3:=g1.2
    have h4:(X.map (·.1)).reverse.filter (fun a=> !(eZ pt q').contains a)=(X.map (·.1)).reverse:=by
     rw [List.filter_eq_self]
     intro a ha
     have:=kY a (List.mem_reverse.1 ha)
     simpa using this
    rw [h4]at h3
    unfold fT at h3 ⊢
    rw [List.filter_reverse,List.length_reverse]at h3
    exact h3
   have yw:=fun p hp=>vz p hp (fun h=>by
    obtain⟨x,hx,KP⟩:=List.mem_map.1 h
    rw [← KP];exact eB x hx)
   obtain⟨d,h1,_,KR⟩:=qL hK qd hm Y X aY tm s eB Nw hg
   have np:gb ai oo s=some d:=by rw [← ma (F0 fun p hp=>(yw p hp).2)];exact h1
   refine wpOp_mono (fun a' w' hr=>Nu _ _ _ _ (hs.done hq yv) hr) ?_
   exact KK hi FX e r ht lO hn hd qh nY (Dw hm np) KR KQ (fun p hp he=>(yw p hp).1 _ he rfl)
theorem ve {o:Oper} {j:Nat} : j∈jy o↔∃ e∈o.after,Region.binds .any e=true∧e.on=j:=by
 simp only [jy,List.mem_map,List.mem_filter,Array.mem_toList_iff]
 constructor
 ·rintro⟨e,⟨h1,h2⟩,h3⟩;exact⟨e,h1,h2,h3⟩
 ·rintro⟨e,h1,h2,h3⟩;exact⟨e,⟨h1,h2⟩,h3⟩
theorem DA {ops:Array Oper} (qN:mq P nt ops ops.toList=some is) (Dz:rb (ops.toList.map jy) pt is.length=true)
 (Nx : ∀ i,i<is.length→∀ j∈eZ (ops.toList.map jy) i,j<is.length) {Q:Exit→Tm→St→Prop} (hK : ∀ tm bh s,Tm.eqv tm bh→K tm s→K bh s)
 (Va : ∀ tm s act w,K tm s→Holds B nt tm s act w→lx B nt Q .normal act w) :
 ∀ (fuel:Nat) (bS:Array Bool) (R:List (Nat×Nat)) (cJ:List Pd) (act:Act) (w:World) (U:List Nat),U.length≤fuel→(∀ j,j<is.length→bS.getD j false=false→j∈U)→
  mB is (ops.toList.map jy) pt bS R cJ→rZ P is K B nt R cJ act w→wpAny P .any ops (lx B nt Q) fuel bS act w:=by
 obtain⟨hlen,_⟩:=uG qN
 have qj:is.length=ops.size:=by rw [hlen];simp
 have Ny : ∀ (j:Nat) (o:Oper),ops[j]? = some o→eZ (ops.toList.map jy) j=jy o:=fun j o h=>by
  simp [eZ,List.getD,h]
 have fin : ∀ {bS:Array Bool} {cJ:List Pd} {act:Act} {w:World},rZ P is K B nt [] cJ act w→lx B nt Q .normal act w:=by
  intro bS cJ act w h
  obtain⟨M,s,tm,oo,aY,e,r,ht,lO,hn,hd,hg,qh,nY⟩:=h
  have Ak : ∀ p∈cJ,False:=fun p hp=>by have:=(qh p hp).mem;simp at this
  exact Va oo s act w (hK tm oo s (fun t=>(lO t fun p hp=>(Ak p hp).elim).symm) hg) ⟨M,e,r,ht,hn,hd⟩
 have F1 : ∀ {bS:Array Bool} {R:List (Nat×Nat)} {cJ:List Pd} {x:Nat×Nat} {l:List (Nat×Nat)},mB is (ops.toList.map jy) pt bS R cJ→R=x::l→(∀ p∈cJ,p.q≠x.1)→
  x.1∈Region.ready .any ops bS:=by
  intro bS R cJ x l hs hR FY
  subst hR
  have hx:=hs.lt x (by simp)
  rw [mem_ready]
  have wC:bS.getD x.1 false=false:=by
   cases hl:bS.getD x.1 false with
   | false=>rfl
   | true=>
    rcases(hs.yu x.1 hx).1 hl with h1 | ⟨p,hp,oR⟩
    ·exact(h1 (by simp)).elim
    ·exact(FY p hp oR).elim
  have RP:x.1<ops.size:=by rw [← qj];exact hx
  refine⟨by rw [nZ (by rw [hs.size];exact hx)];exact wC,ops[x.1],by simp [RP],fun e he hb=> ?_⟩
  have hm:e.on∈eZ (ops.toList.map jy) x.1:=by rw [Ny x.1 ops[x.1] (by simp [RP])];exact ve.2 ⟨e,he,hb,rfl⟩
  obtain⟨_,_,_,g4,_⟩:=om (X:= []) (q:=x.1) (b:=x.2) hs.ok
  obtain⟨h1,h2⟩:=g4 _ hm
  refine(hs.yu e.on (Nx x.1 hx _ hm)).2 (.inl ?_)
  simp only [List.map_cons,List.mem_cons,not_or]
  exact⟨h1,h2⟩
 intro fuel
 induction fuel with
 | zero=>
  intro bS R cJ act w U hU wC hs h
  obtain⟨R',qi,kS,h',hn⟩:=norm R cJ hs h
  have Vb:U = []:=List.length_eq_zero_iff.1 (by omega)
  have vB : ∀ j,j<is.length→bS.getD j false=true:=fun j hj=>by
   cases hl:bS.getD j false with
   | true=>rfl
   | false=>have:=wC j hj hl;rw [Vb]at this;cases this
  have hR:R' = []:=by
   cases hR:R' with
   | nil=>rfl
   | cons x l=>
    have hx:=kS.lt x (by simp [hR])
    have:=F1 kS hR (hn x l hR)
    rw [mem_ready,nZ (by rw [kS.size];exact hx),vB x.1 hx]at this
    cases this.1
  subst hR
  refine⟨?_,fin (bS:=bS) h'⟩
  cases hr:Region.ready .any ops bS with
  | nil=>rfl
  | cons j js=>
   have hj:j∈Region.ready .any ops bS:=by rw [hr];simp
   rw [mem_ready]at hj
   obtain⟨h1,o,ho,_⟩:=hj
   have KS:j<is.length:=by rw [qj];exact(Array.getElem?_eq_some_iff.1 ho).1
   rw [nZ (by rw [hs.size];exact KS),vB j KS]at h1
   cases h1
 | succ fuel ih=>
  intro bS R cJ act w U hU wC hs h
  obtain⟨R',qi,kS,h',hn⟩:=norm R cJ hs h
  refine⟨fun hr=> ?_,fun i hi=> ?_⟩
  ·cases hR:R' with
   | nil=>subst hR;exact fin (bS:=bS) h'
   | cons x l=>
    have:=F1 kS hR (hn x l hR)
    rw [hr]at this
    cases this
  ·rw [mem_ready]at hi
   obtain⟨h1,o,ho,SD⟩:=hi
   have mz:i<is.length:=by rw [qj];exact(Array.getElem?_eq_some_iff.1 ho).1
   rw [nZ (by rw [hs.size];exact mz)]at h1
   refine Dy qN Dz hK kS h' hn mz h1 (fun j hj=>⟨Nx i mz j hj, ?_⟩) fun R2 Qm a2 w2 Cp h2=> ?_
   ·rw [Ny i o ho]at hj
    obtain⟨e,he,hb,rfl⟩:=ve.1 hj
    exact SD e he hb
   ·refine ih _ R2 Qm a2 w2 (U.erase i) ?_ (fun j hj hl=> ?_) Cp h2
    ·have:=List.length_erase_of_mem (wC i mz h1)
     omega
    ·have RQ:j≠i:=fun e=>by
      subst e
      have:j<bS.size:=by rw [hs.size];exact mz
      simp [this]at hl
     rw [getD_set_ne false (Ne.symm RQ)]at hl
     exact(List.mem_erase_of_ne RQ).2 (wC j hj hl)
theorem Sem.par {is:List AI} {iK:List (Nat×Nat)} {Q:Exit→Tm→St→Prop} {tm:Tm} {s:St} (h:gR P is (Q .normal) iK [] tm s):Sem P B nt (.par is iK) Q tm s:=by
 intro c hc act w hh
 obtain⟨id,ops,rfl,hi,hm,pt,hp⟩:=iT hc
 simp only [zV,Bool.and_eq_true,List.all_eq_true,List.mem_range,List.contains_iff_mem,decide_eq_true_eq]at hp
 obtain⟨⟨⟨⟨h1,h2⟩,h3⟩,h4⟩,h5⟩:=hp
 obtain⟨hlen,_⟩:=uG hi
 have qj:is.length=ops.size:=by rw [hlen];simp
 refine wp_region_any hm ?_
 obtain⟨M,e,r,ht,hn,hd⟩:=hh
 have key : ∀ (R:List (Nat×Nat)) (aY:List St) (tm:Tm) (s:St),gR P is (Q .normal) R aY tm s→gR P is (fun tm s=>∃ bh,tm.eqv bh∧Q .normal bh s) R aY tm s:=by
  intro R
  induction R with
  | nil=>intro aY tm s h;exact⟨tm,fun _=>rfl,h⟩
  | cons x R ih=>
   obtain⟨q,b⟩:=x
   intro aY tm s h
   unfold gR at h ⊢
   split at h
   ·exact h.elim
   ·split at h
    ·obtain⟨d,s',h1,h2⟩:=h;exact⟨d,s',h1,ih _ _ _ h2⟩
    ·obtain⟨d,h1,h2,h3⟩:=h;exact⟨d,h1,h2,ih _ _ _ h3⟩
 have hg:=key _ _ _ _ h
 refine DA (K:=fun tm s=>∃ bh,tm.eqv bh∧Q .normal bh s) hi h1 h5 (fun tm bh s he ⟨t2,h3,h4⟩=>⟨t2,fun t=>(he t).symm.trans (h3 t),h4⟩)
  (fun tm s act w ⟨t2,h3,h4⟩ ⟨M,e,r,ht,hn,hd⟩=>⟨t2,s,h4,M,e,r,fun t=>by rw [← h3 t];exact ht t,hn,hd⟩) ops.size _ iK [] act _ (List.range is.length) (by simp [qj]) (fun j hj _=>by simpa using hj)
  ⟨h2,fun i hi=> ?_,fun i hi hl=> ?_,by simp [qj],h4⟩ ⟨M,s,tm,tm,[],⟨e.le,e.kept,e.mj,e.ml,e.oB,e.size,e.os,e.tape,e.output⟩,r.of_heap rfl,ht,fun _ _=>rfl,hn,hd,hg,by simp,by simp⟩
 ·have:i<ops.size:=by rw [← qj];exact hi
  have h6:=h3 i hi
  simp only [List.not_mem_nil,false_and,exists_false,or_false]
  rw [show(Array.replicate ops.size false).getD i false=false by simp [this]]
  simp [h6]
 ·have:i<ops.size:=by rw [← qj];exact hi
  rw [show(Array.replicate ops.size false).getD i false=false by simp [this]]at hl
  cases hl
end
end Go.Abs

/-! Step -/

namespace Go.Abs
theorem LF (k:IntKind) (n:Int):D.row (.int k n)=some [.int k n]:=rfl
theorem Ij (b:Bool):D.row (.bool b)=some [.bool b]:=rfl
theorem LG (l:List UInt8):D.row (.str l)=some [.str l]:=rfl
theorem Ik:D.row .dT=some [.dT]:=rfl
theorem LH (o f:Nat):D.row (.ptr o f)=some [.ptr o f]:=rfl
theorem Il (r:List D) (f:Nat):D.row (.cV r f)=some [.cV r f]:=rfl
theorem F2 (g:Tag) (z:Nat) (r:List (List D)):D.row (.slice g z r)=some [.slice g z r]:=rfl
theorem LI (cs:List D):D.row (.agg cs)=some cs:=rfl
theorem LJ (v:Value):D.row (.val v)=some [.val v]:=rfl
theorem F3 (T:TypeId) (o:Nat):D.row (.dU T o)=some [.dU T o]:=rfl
theorem LK (f:Nat) (cs:List D):D.row (.eW f cs)=some [.eW f cs]:=rfl
theorem Io (o:Nat):D.row (.eR o)=some [.eR o]:=rfl
theorem Ip (w:Bool):Tag.cut .full w=if w then .full else .shared:=rfl
theorem DB (w:Bool):Tag.cut .shared w = .shared:=rfl
theorem Iq (t:Nat) (y:Bool) (w:Bool):Tag.cut (.tok t y) w = .tok t y:=rfl
section
variable {P:Program}
def KC (P:Program) (r:List AI) (K:Tm→St→Prop) (tm:Tm) (dst:Option Nat) (d:D) (s:St):Prop:=fE P r K (tm.put dst d) s
def GI (P:Program) (g:D) (want:Bool) (i:AI) (r:List AI) (K:Tm→St→Prop) (tm:Tm) (s:St):Prop:=
 match g with
 | .bool b=>(b=want→fE P (i::r) K tm s)∧(b=(!want)→fE P r K (tm.put i.dst (.tuple [])) s)
 | .tuple _=>fE P r K (tm.put i.dst (.tuple [])) s
 | _=>False
def NI (P:Program) (dst:Option Nat) (neg:Bool) (x:D) (r:List AI) (K:Tm→St→Prop) (tm:Tm) (s:St):Prop:=
 match x with
 | .slice _ _ rows=>∀ b:Bool,(rows≠ []→b=false)→fE P r K (tm.put dst (.bool (if neg then !b else b))) s
 | _=>False
def o5 (d:D) (A C:Prop):Prop:=
 match d with
 | .bool b=>(b=true→A)∧(b=false→C)
 | _=>False
theorem Sem.Qn {B:fh} {nt:Nat} {Q:Exit→Tm→St→Prop} {tm:Tm} {s:St} {x:X} {a b:AC} (h:o5 (x.ev tm) (Sem P B nt a Q tm s) (Sem P B nt b Q tm s)):Sem P B nt (.cond x a b) Q tm s:=by
 unfold o5 at h
 split at h
 ·rename_i t ht
  exact Sem.cond ht h.1 h.2
 ·exact h.elim
def eK (P:Program) (K:Tm→St→Prop):List (AI×Nat)→List St→Tm→St→Prop
 | [],_,tm,s=>K tm s
 | (ai,b)::r,aY,tm,s=>
  match eJ ai.kind with
  | true=>∃ d s',nV P ai tm s d s'∧eK P K r (s::aY) (tm.put ai.dst d) s'
  | false=>∃ d,gb ai tm s=some d∧(ai.kind = .load→∀ s'∈aY.take b,gb ai tm s'=some d)∧eK P K r aY (tm.put ai.dst d) s
def jC (is:List AI):List (Nat×Nat)→Option (List (AI×Nat))
 | []=>some []
 | (q,b)::r=>match is[q]?,jC is r with
  | some ai,some l=>some ((ai,b)::l)
  | _,_=>none
theorem xH {is:List AI} {K:Tm→St→Prop} : ∀ {iK:List (Nat×Nat)} {items:List (AI×Nat)} {aY:List St} {tm:Tm} {s:St},jC is iK=some items→eK P K items aY tm s→gR P is K iK aY tm s
 | [],items,aY,tm,s,h,g=>by cases h;exact g
 | (q,b)::r,items,aY,tm,s,h,g=>by
  simp only [jC]at h
  split at h
  ·rename_i ai l h1 h2
   cases h
   simp only [eK]at g
   simp only [gR,h1]
   split at g
   ·rename_i hk
    obtain⟨d,s',g1,g2⟩:=g
    try simp only [hk]
    exact⟨d,s',g1,xH h2 g2⟩
   ·rename_i hk
    obtain⟨d,g1,g2,g3⟩:=g
    try simp only [hk]
    exact⟨d,g1,g2,xH h2 g3⟩
  ·cases h
theorem Sem.SE {B:fh} {nt:Nat} {Q:Exit→Tm→St→Prop} {tm:Tm} {s:St} {is:List AI} {iK:List (Nat×Nat)} {items:List (AI×Nat)} (hi:jC is iK=some items) (h:eK P (Q .normal) items [] tm s):Sem P B nt (.par is iK) Q tm s:=
 Sem.par (xH hi h)
def AI.free:AI→AI
 | .op d _ o=> .op d none o
 | .call d _ f xs=> .call d none f xs
 | .nil d _ n x=> .nil d none n x
 | .fQ d _ t xs=> .fQ d none t xs
def GL (P:Program) (g:D) (want:Bool) (i:AI) (b:Nat) (r:List (AI×Nat)) (K:Tm→St→Prop) (aY:List St) (tm:Tm) (s:St):Prop:=
 match g with
 | .bool v=>(v=want→eK P K ((i,b)::r) aY tm s)∧(v=(!want)→eK P K r (if eJ i.kind then s::aY else aY) (tm.put i.dst (.tuple [])) s)
 | .tuple _=>eK P K r (if eJ i.kind then s::aY else aY) (tm.put i.dst (.tuple [])) s
 | _=>False
def CL (P:Program) (f:Nat) (args:List D) (s:St) (K:D→St→Prop):Prop:=∃ d s',aI P f args s d s'∧K d s'
def KL (P:Program) (K:Tm→St→Prop) (r:List (AI×Nat)) (aY:List St) (tm:Tm) (dst:Option Nat) (d:D) (s:St):Prop:=eK P K r aY (tm.put dst d) s
def kj (i:AI) (tm:Tm) (d:D):List St→Prop
 | []=>True
 | s::r=>gb i tm s=some d∧kj i tm d r
theorem wD {i:AI} {tm:Tm} {d:D} : ∀ {l:List St},kj i tm d l→∀ s∈l,gb i tm s=some d
 | [],_,s,h=>by cases h
 | a::l,h,s,hs=>by
  rcases List.mem_cons.1 hs with rfl | hs
  ·exact h.1
  ·exact wD h.2 s hs
def PL (P:Program) (o:AO) (dst:Option Nat) (b:Nat) (r:List (AI×Nat)) (K:Tm→St→Prop) (aY:List St) (tm:Tm) (s:St):Prop:=
 match aH o tm s with
 | some (d,_)=>kj (.op dst none o) tm d (aY.take b)∧eK P K r aY (tm.put dst d) s
 | none=>False
def ML (P:Program) (o:AO) (dst:Option Nat) (r:List (AI×Nat)) (K:Tm→St→Prop) (aY:List St) (tm:Tm) (s:St):Prop:=
 match aH o tm s with
 | some (d,s')=>eK P K r (s::aY) (tm.put dst d) s'
 | none=>False
def AO.core:AO→Bool
 | .alloc _=>true
 | .box _=>true
 | .ph .. =>true
 | .s8 _=>true
 | .store .. =>true
 | .app .. =>true
 | .n8 .. =>true
 | .ta .. =>true
 | .tc .. =>true
 | .apps .. =>true
 | .oV=>true
 | .rN .. =>true
 | _=>false
theorem oq (dst:Option Nat) (g:Option (Nat×Bool)) (o:AO):eJ (AI.op dst g o).kind=o.core:=by
 cases dst <;> cases g <;> cases o <;> rfl
def OL (P:Program) (o:AO) (dst:Option Nat) (b:Nat) (r:List (AI×Nat)) (K:Tm→St→Prop) (aY:List St) (tm:Tm) (s:St):Prop:=
 match o.core with
 | true=>ML P o dst r K aY tm s
 | false=>PL P o dst b r K aY tm s
theorem Az {K:Tm→St→Prop} {dst:Option Nat} {o:AO} {b:Nat} {r:List (AI×Nat)} {aY:List St} {tm:Tm} {s:St} (h:OL P o dst b r K aY tm s) :
 eK P K ((.op dst none o,b)::r) aY tm s:=by
 unfold OL at h
 simp only [eK,oq]
 cases hc:o.core with
 | true=>
  simp only [hc,ML]at h
  simp only []
  split at h
  ·rename_i d s' he
   exact⟨d,s',by simpa [nV,guarded]using he,h⟩
  ·exact h.elim
 | false=>
  simp only [hc,PL]at h
  simp only []
  split at h
  ·rename_i d s' he
   exact⟨d,by simp [gb,he],fun _=>wD h.1,h.2⟩
  ·exact h.elim
theorem DD {K:Tm→St→Prop} {dst:Option Nat} {f:Nat} {xs:List X} {b:Nat} {r:List (AI×Nat)} {aY:List St} {tm:Tm} {s:St} (h:CL P f (xs.map (·.ev tm)) s (KL P K r (s::aY) tm dst)) :
 eK P K ((.call dst none f xs,b)::r) aY tm s:=by
 obtain⟨d,s',h1,h2⟩:=h
 exact⟨d,s',h1,h2⟩
theorem Nz {K:Tm→St→Prop} {i:AI} {t:Nat} {w:Bool} {b:Nat} {r:List (AI×Nat)} {aY:List St} {tm:Tm} {s:St} {j:AI} (hf:(∃ d o,i = .op d none o∧j = .op d (some (t,w)) o)∨(∃ d f xs,i = .call d none f xs∧j = .call d (some (t,w)) f xs))
 (hg:tm.get t = .bool w) (h:eK P K ((i,b)::r) aY tm s):eK P K ((j,b)::r) aY tm s:=by
 rcases hf with ⟨d,o,rfl,rfl⟩ | ⟨d,f,xs,rfl,rfl⟩
 ·simp only [eK,oq]at h ⊢
  cases hc:o.core <;> simp only [hc]at h ⊢
  ·obtain⟨x,h1,h2,h3⟩:=h
   refine⟨x,by simpa [gb,hg]using h1,fun hk s' kS=> ?_,h3⟩
   have va:(AI.op d none o).kind = .load:=by
    cases d <;> cases o <;> first | exact hk | (cases hc;done) | (cases hk;done)
   simpa [gb,hg]using h2 va s' kS
  ·obtain⟨x,s',h1,h2⟩:=h
   exact⟨x,s',by simpa [nV,guarded,hg]using h1,h2⟩
 ·obtain⟨x,s',h1,h2⟩:=h
  exact⟨x,s',by simpa [nV,guarded,hg]using h1,h2⟩
theorem F4 {K:Tm→St→Prop} {i:AI} {t:Nat} {w:Bool} {b:Nat} {r:List (AI×Nat)} {aY:List St} {tm:Tm} {s:St} {j:AI} (hf:(∃ d o,i = .op d none o∧j = .op d (some (t,w)) o)∨(∃ d f xs,i = .call d none f xs∧j = .call d (some (t,w)) f xs))
 (hg:tm.get t = .bool (!w)∨∃ l,tm.get t = .tuple l) (h:eK P K r (if eJ i.kind then s::aY else aY) (tm.put i.dst (.tuple [])) s):eK P K ((j,b)::r) aY tm s:=by
 rcases hf with ⟨d,o,rfl,rfl⟩ | ⟨d,f,xs,rfl,rfl⟩
 ·simp only [eK,oq]at h ⊢
  cases hc:o.core <;> simp only [hc]at h ⊢
  ·refine⟨.tuple [], ?_,fun hk s' kS=> ?_,h⟩
   ·rcases hg with hg | ⟨l,hg⟩ <;> simp [gb,hg]
   ·rcases hg with hg | ⟨l,hg⟩ <;> simp [gb,hg]
  ·refine⟨.tuple [],s, ?_,h⟩
   rcases hg with hg | ⟨l,hg⟩ <;> simp [nV,guarded,hg]
 ·refine⟨.tuple [],s, ?_,h⟩
  rcases hg with hg | ⟨l,hg⟩ <;> simp [nV,guarded,hg]
theorem Cx {K:Tm→St→Prop} {i j:AI} {t:Nat} {w:Bool} {b:Nat} {r:List (AI×Nat)} {aY:List St} {tm:Tm} {s:St} (hf:(∃ d o,i = .op d none o∧j = .op d (some (t,w)) o)∨(∃ d f xs,i = .call d none f xs∧j = .call d (some (t,w)) f xs))
 (h:GL P (tm.get t) w i b r K aY tm s):eK P K ((j,b)::r) aY tm s:=by
 unfold GL at h
 split at h
 ·rename_i v hv
  by_cases e:v=w
  ·exact Nz hf (by rw [hv,e]) (h.1 e)
  ·exact F4 hf (.inl (by rw [hv];cases v <;> cases w <;> simp_all)) (h.2 (by cases v <;> cases w <;> simp_all))
 ·rename_i l hl
  exact F4 hf (.inr ⟨l,hl⟩) h
 ·exact h.elim
theorem yx {K:Tm→St→Prop} {dst:Option Nat} {o:AO} {t:Nat} {w:Bool} {b:Nat} {r:List (AI×Nat)} {aY:List St} {tm:Tm} {s:St} (h:GL P (tm.get t) w (.op dst none o) b r K aY tm s) :
 eK P K ((.op dst (some (t,w)) o,b)::r) aY tm s:=Cx (.inl ⟨dst,o,rfl,rfl⟩) h
theorem BQ {K:Tm→St→Prop} {dst:Option Nat} {f:Nat} {xs:List X} {t:Nat} {w:Bool} {b:Nat} {r:List (AI×Nat)} {aY:List St} {tm:Tm} {s:St} (h:GL P (tm.get t) w (.call dst none f xs) b r K aY tm s) :
 eK P K ((.call dst (some (t,w)) f xs,b)::r) aY tm s:=Cx (.inr ⟨dst,f,xs,rfl,rfl⟩) h
theorem CU {f:Nat} {args:List D} {s:St} {d:D} {s':St} {K:D→St→Prop} (h:aI P f args s d s') (hk:K d s'):CL P f args s K:=⟨d,s',h,hk⟩
end
end Go.Abs

/-! Wp -/

namespace Go.Abs
theorem nd {α:Type} {a b:α} (h:a=b):a=b:=h
def GJ (g:D) (w:Bool) (A C:Prop):Prop:=
 match g with
 | .bool b=>(b=w→A)∧(b=(!w)→C)
 | .tuple _=>C
 | _=>False
class RR where
 a:Prop
 c:Prop
def CB (d:D) [b:RR] : Prop:=o5 d b.a b.c
def GB (d:D) (w:Bool) [b:RR] : Prop:=GJ d w b.a b.c
def jD (g:Option (Nat×Bool)) (tm:Tm) (A C:Prop):Prop:=
 match g with
 | none=>A
 | some (t,w)=>GJ (tm.get t) w A C
def gN (P:Program):List AI→(Tm→St→Prop)→Tm→St→Prop
 | [],K,tm,s=>K tm s
 | .op dst g o::r,K,tm,s=>jD g tm (match aH o tm s with | some (d,s')=>gN P r K (tm.put dst d) s' | none=>False) (gN P r K (tm.put dst (.tuple [])) s)
 | .call dst g f xs::r,K,tm,s=>jD g tm (CL P f (xs.map (·.ev tm)) s fun d s'=>gN P r K (tm.put dst d) s') (gN P r K (tm.put dst (.tuple [])) s)
 | .nil dst g neg x::r,K,tm,s=>
  jD g tm (match x.ev tm with
   | .slice _ _ rows=>∀ b:Bool,(rows≠ []→b=false)→gN P r K (tm.put dst (.bool (if neg then !b else b))) s
   | _=>False) (gN P r K (tm.put dst (.tuple [])) s)
 | .fQ dst g t xs::r,K,tm,s=>
  jD g tm (match tm.get t with
   | .eW f jT=>enters P f=true∧CL P f (xs.map (·.ev tm)++jT) s fun d s'=>gN P r K (tm.put dst d) s'
   | _=>False) (gN P r K (tm.put dst (.tuple [])) s)
theorem n3 {g:Option (Nat×Bool)} {tm:Tm} {A C A' C':Prop} (h:jD g tm A C) (ha:A→A') (hc:C→C'):guarded g tm A' C':=by
 unfold jD at h
 unfold guarded
 cases g with
 | none=>exact ha h
 | some p=>
  obtain⟨t,w⟩:=p
  simp only [GJ]at h ⊢
  split at h
  ·rename_i hb;try simp only [hb]
   exact⟨fun e=>ha (h.1 e),fun e=>hc (h.2 e)⟩
  ·rename_i hb;try simp only [hb]
   exact hc h
  ·exact h.elim
theorem kq {P:Program} {K:Tm→St→Prop} : ∀ {is:List AI} {tm:Tm} {s:St},gN P is K tm s→fE P is K tm s
 | [],tm,s,h=>h
 | .op dst g o::r,tm,s,h=>by
  refine n3 h (fun h=> ?_) kq
  split at h
  ·rename_i he;try simp only [he]
   exact kq h
  ·exact h.elim
 | .call dst g f xs::r,tm,s,h=>n3 h (fun⟨d,s',h1,h2⟩=>h1.use (kq h2)) kq
 | .nil dst g neg x::r,tm,s,h=>by
  refine n3 h (fun h=> ?_) kq
  split at h
  ·rename_i he;try simp only [he]
   exact fun b hb=>kq (h b hb)
  ·exact h.elim
 | .fQ dst g t xs::r,tm,s,h=>by
  refine n3 h (fun h=> ?_) kq
  split at h
  ·rename_i he;try simp only [he]
   obtain⟨h0,d,s',h1,h2⟩:=h
   exact⟨h0,h1.use (kq h2)⟩
  ·exact h.elim
def ew (P:Program) (K:Tm→St→Prop):List (AI×Nat)→List St→Tm→St→Prop
 | [],_,tm,s=>K tm s
 | (.op dst g o,b)::r,aY,tm,s=>
  match o.core with
  | true=>jD g tm (match aH o tm s with | some (d,s')=>ew P K r (s::aY) (tm.put dst d) s' | none=>False) (ew P K r (s::aY) (tm.put dst (.tuple [])) s)
  | false=>jD g tm (match aH o tm s with | some (d,_)=>kj (.op dst none o) tm d (aY.take b)∧ew P K r aY (tm.put dst d) s | none=>False) (ew P K r aY (tm.put dst (.tuple [])) s)
 | (.call dst g f xs,_)::r,aY,tm,s=>jD g tm (CL P f (xs.map (·.ev tm)) s fun d s'=>ew P K r (s::aY) (tm.put dst d) s') (ew P K r (s::aY) (tm.put dst (.tuple [])) s)
 | (.nil ..,_)::_,_,_,_=>False
 | (.fQ ..,_)::_,_,_,_=>False
theorem tL {P:Program} {t:Nat} {w:Bool} {tm:Tm} {i:AI} {b:Nat} {r:List (AI×Nat)} {K:Tm→St→Prop} {aY:List St} {s:St} {A C:Prop} (h:jD (some (t,w)) tm A C) (ha:A→eK P K ((i,b)::r) aY tm s)
 (hc:C→eK P K r (if eJ i.kind then s::aY else aY) (tm.put i.dst (.tuple [])) s):GL P (tm.get t) w i b r K aY tm s:=by
 simp only [jD,GJ]at h
 unfold GL
 split at h
 ·rename_i hb;try simp only [hb]
  exact⟨fun e=>ha (h.1 e),fun e=>hc (h.2 e)⟩
 ·rename_i hb;try simp only [hb]
  exact hc h
 ·exact h.elim
theorem jg {P:Program} {K:Tm→St→Prop} : ∀ {l:List (AI×Nat)} {aY:List St} {tm:Tm} {s:St},ew P K l aY tm s→eK P K l aY tm s
 | [],aY,tm,s,h=>h
 | (.op dst g o,b)::r,aY,tm,s,h=>by
  simp only [ew]at h
  cases hc:o.core with
  | true=>
   simp only [hc]at h
   have ha:(match aH o tm s with | some (d,s')=>ew P K r (s::aY) (tm.put dst d) s' | none=>False)→eK P K ((.op dst none o,b)::r) aY tm s:=by
    intro h
    refine Az ?_
    simp only [OL,hc,ML]
    split at h
    ·rename_i he;try simp only [he]
     exact jg h
    ·exact h.elim
   cases g with
   | none=>exact ha h
   | some p=>
    obtain⟨t,w⟩:=p
    refine yx (tL h ha fun h=> ?_)
    simp only [oq,hc,if_true]
    exact jg h
  | false=>
   simp only [hc]at h
   have ha:(match aH o tm s with | some (d,_)=>kj (.op dst none o) tm d (aY.take b)∧ew P K r aY (tm.put dst d) s | none=>False)→eK P K ((.op dst none o,b)::r) aY tm s:=by
    intro h
    refine Az ?_
    simp only [OL,hc,PL]
    split at h
    ·rename_i he;try simp only [he]
     exact⟨h.1,jg h.2⟩
    ·exact h.elim
   cases g with
   | none=>exact ha h
   | some p=>
    obtain⟨t,w⟩:=p
    refine yx (tL h ha fun h=> ?_)
    simp only [oq,hc]
    exact jg h
 | (.call dst g f xs,b)::r,aY,tm,s,h=>by
  simp only [ew]at h
  have ha:(CL P f (xs.map (·.ev tm)) s fun d s'=>ew P K r (s::aY) (tm.put dst d) s')→eK P K ((.call dst none f xs,b)::r) aY tm s:=
   fun⟨d,s',h1,h2⟩=>DD ⟨d,s',h1,jg h2⟩
  cases g with
  | none=>exact ha h
  | some p=>
   obtain⟨t,w⟩:=p
   exact BQ (tL h ha fun h=>jg h)
 | (.nil ..,_)::_,aY,tm,s,h=>h.elim
 | (.fQ ..,_)::_,aY,tm,s,h=>h.elim
section
variable {P:Program} {B:fh} {nt:Nat}
def iA (P:Program) (B:fh) (nt:Nat):AC→(Exit→Tm→St→Prop)→Tm→St→Prop
 | .skip,Q,tm,s=>Q .normal tm s
 | .run is,Q,tm,s=>gN P is (Q .normal) tm s
 | .par is iK,Q,tm,s=>match jC is iK with | some l=>ew P (Q .normal) l [] tm s | none=>False
 | .seq a b,Q,tm,s=>iA P B nt a (my (iA P B nt b Q) Q) tm s
 | .cond x a b,Q,tm,s=>o5 (x.ev tm) (iA P B nt a Q tm s) (iA P B nt b Q tm s)
 | .block id a,Q,tm,s=>iA P B nt a (kV id Q) tm s
 | .loop a,Q,tm,s=>bp P B nt a Q tm s
 | .exit id,Q,tm,s=>Q (.exit id) tm s
 | .scope a,Q,tm,s=>Di P B nt a a Q tm s
 | .label _,Q,tm,s=>Q .normal tm s
 | .goto l,Q,tm,s=>Q (.goto l) tm s
 | .ret,Q,tm,s=>Q .ret tm s
theorem gw : ∀ {ac:AC} {Q:Exit→Tm→St→Prop} {tm:Tm} {s:St},iA P B nt ac Q tm s→Sem P B nt ac Q tm s:=by
 intro ac
 induction ac with
 | skip=>exact fun h=>Sem.skip h
 | run is=>exact fun h=>Sem.run (kq h)
 | par is iK=>
  intro Q tm s h
  simp only [iA]at h
  split at h
  ·exact Sem.SE ‹_› (jg h)
  ·exact h.elim
 | seq a b NB NC=>
  intro Q tm s h
  refine Sem.seq ((NB h).mono fun e tm s hq=> ?_)
  cases e with
  | normal=>exact NC hq
  | _=>exact hq
 | cond x a b NB NC=>
  intro Q tm s h
  refine Sem.Qn ?_
  simp only [iA]at h
  unfold o5 at h ⊢
  split at h
  ·exact⟨fun e=>NB (h.1 e),fun e=>NC (h.2 e)⟩
  ·exact h.elim
 | block id a ih=>exact fun h=>Sem.block (ih h)
 | loop a ih=>exact fun h=>Sem.loop h
 | exit id=>exact fun h=>Sem.exit h
 | scope a ih=>exact fun h=>Sem.scope h
 | label l=>exact fun h=>Sem.label h
 | goto l=>exact fun h=>Sem.goto h
 | ret=>exact fun h=>Sem.ret h
section
variable (Q:Exit→Tm→St→Prop) (N:Tm→St→Prop) (tm:Tm) (s:St) (a b:AC) (is:List AI) (x:X)
theorem Ir:iA P B nt .skip Q tm s=Q .normal tm s:=nd rfl
theorem LM:iA P B nt (.run is) Q tm s=gN P is (Q .normal) tm s:=nd rfl
theorem LN (iK:List (Nat×Nat)):iA P B nt (.par is iK) Q tm s=match jC is iK with | some l=>ew P (Q .normal) l [] tm s | none=>False:=nd rfl
theorem LO:iA P B nt (.seq a b) Q tm s=iA P B nt a (my (iA P B nt b Q) Q) tm s:=nd rfl
theorem Is:iA P B nt (.cond x a b) Q tm s = @CB (x.ev tm) ⟨iA P B nt a Q tm s,iA P B nt b Q tm s⟩:=nd rfl
theorem F5 (id:Nat):iA P B nt (.block id a) Q tm s=iA P B nt a (kV id Q) tm s:=nd rfl
theorem Iu:iA P B nt (.loop a) Q tm s=bp P B nt a Q tm s:=nd rfl
theorem F6:iA P B nt (.scope a) Q tm s=Di P B nt a a Q tm s:=nd rfl
theorem Iv (id:Nat):iA P B nt (.exit id) Q tm s=Q (.exit id) tm s:=nd rfl
theorem F7 (id:Nat):iA P B nt (.label id) Q tm s=Q .normal tm s:=nd rfl
theorem Iw (id:Nat):iA P B nt (.goto id) Q tm s=Q (.goto id) tm s:=nd rfl
theorem LP:iA P B nt .ret Q tm s=Q .ret tm s:=nd rfl
theorem LQ:my N Q .normal tm s=N tm s:=nd rfl
theorem LR:my N Q .ret tm s=Q .ret tm s:=nd rfl
theorem LS (id:Nat):my N Q (.exit id) tm s=Q (.exit id) tm s:=nd rfl
theorem LU (id:Nat):my N Q (.goto id) tm s=Q (.goto id) tm s:=nd rfl
theorem Ix (id:Nat):kV id Q .normal tm s=Q .normal tm s:=nd rfl
theorem Iy (id:Nat):kV id Q .ret tm s=Q .ret tm s:=nd rfl
theorem Iz (id l:Nat):kV id Q (.goto l) tm s=Q (.goto l) tm s:=nd rfl
theorem IA (id i:Nat):kV id Q (.exit i) tm s=if i=id then Q .normal tm s else Q (.exit i) tm s:=nd rfl
end
theorem bp.zJ {a:AC} {Q:Exit→Tm→St→Prop} {tm:Tm} {s:St} (h:iA P B nt a (my (bp P B nt a Q) Q) tm s):bp P B nt a Q tm s:=bp.once (gw h)
def qk (tm:Tm) (n m:Nat):Tm→Prop
 | []=>True
 | (k,d)::r=>Wk ((tm.get k).fg n m) d∧qk tm n m r
theorem qk.get {tm:Tm} {n m:Nat} : ∀ {bh:Tm},qk tm n m bh→∀ t,Wk ((tm.get t).fg n m) (bh.get t)
 | [],_,t=>Wk.junk _
 | (k,d)::r,h,t=>by
  simp only [Tm.get]
  split
  ·rename_i hk;subst hk;exact h.1
  ·exact qk.get h.2 t
theorem Holds.re {Q:Exit→Tm→St→Prop} {tm bh:Tm} {s:St} {jv:List (List D)} {act:Act} {w:World} (n m:Nat) (hn:B.s.au.length≤n) (hm:B.s.av.length≤m) (ht:qk tm n m bh) (ho:fK (s.cut n m).au jv)
 (h:Holds B nt tm s act w):Holds B nt bh ⟨jv,(s.cut n m).av⟩ act w:=by
 obtain⟨M,e,r,hr,h1,h2⟩:=h
 obtain⟨r',le⟩:=(r.cut n m).Au ho
 have e':=e.cut hn hm
 refine⟨M,e'.trans ⟨le,fun _ _ _ _=>rfl,fun o h1 h2=> ?_,fun t b c z hl e=> .inl ⟨hl,c,z,e⟩,fun _ _ h=>(h rfl).elim,Nat.le_refl _,rfl,rfl,rfl⟩,r',fun k=>((ht.get k) _ _ _ ((hr k).fg n m)).mono le,h1,h2⟩
 rw [← ho.len]at h2
 exact absurd h2 (Nat.not_lt.2 h1)
theorem bp.re {a:AC} {Q:Exit→Tm→St→Prop} {tm:Tm} {s:St} (bh:Tm) (jv:List (List D)) (n m:Nat) (hn:B.s.au.length≤n) (hm:B.s.av.length≤m) (ht:qk tm n m bh) (ho:fK (s.cut n m).au jv)
 (h:bp P B nt a Q bh ⟨jv,(s.cut n m).av⟩):bp P B nt a Q tm s:=
 fun c hc act w hh=>h c hc act w (hh.re (Q:=Q) n m hn hm ht ho)
theorem bp.ind {ι:Type} {a:AC} {Q:Exit→Tm→St→Prop} (I:ι→Prop) (μ:ι→Nat) (TM:ι→Tm) (ST:ι→St)
 (step : ∀ i,I i→(∀ j,I j→μ j<μ i→bp P B nt a Q (TM j) (ST j))→iA P B nt a (my (bp P B nt a Q) Q) (TM i) (ST i)) : ∀ i,I i→bp P B nt a Q (TM i) (ST i):=by
 have key : ∀ n i,μ i<n→I i→bp P B nt a Q (TM i) (ST i):=by
  intro n
  induction n with
  | zero=>intro i h;exact absurd h (Nat.not_lt_zero _)
  | succ n ih=>exact fun i h hi=>bp.zJ (step i hi fun j hj hD=>ih j (by omega) hj)
 exact fun i hi=>key (μ i+1) i (Nat.lt_succ_self _) hi
theorem drop_cons {α:Type} {l rest:List α} {k:Nat} {x:α} (h:l.drop k=x::rest):l[k]? = some x∧l.drop (k+1)=rest∧decide ((k:Int)<(l.length:Int))=true∧k<l.length:=by
 have h1:l[k]? = some x:=by
  have:(l.drop k)[0]? = some x:=by rw [h];rfl
  simpa using this
 have h2:=(List.getElem?_eq_some_iff.1 h1).1
 refine⟨h1, ?_,by simpa using h2,h2⟩
 have:l.drop (k+1)=(l.drop k).drop 1:=by rw [List.drop_drop]
 rw [this,h];rfl
theorem drop_nil {α:Type} {l:List α} {k:Nat} (h:l.drop k = []):decide ((k:Int)<(l.length:Int))=false:=by
 have:=List.drop_eq_nil_iff.1 h
 simp;omega
theorem bp.pB {a:AC} {Q:Exit→Tm→St→Prop} {tm:Tm} {s:St} (t z':Nat) {z:Nat} (hw:tm.get t = .slice .full z [])
 (h:bp P B nt a Q (tm.set t (.slice (.tok s.av.length) z' [])) {s with av:=s.av++ [some 0]}):bp P B nt a Q tm s:=by
 intro c hc act w ⟨M,e,r,ht,h1,h2⟩
 obtain⟨r',le⟩:=r.blank
 refine h c hc act w ⟨_,yq e le,r',fun k=> ?_,h1,h2⟩
 rw [Tm.xy]
 split
 ·rename_i hk;subst hk;have:=ht k;rw [hw]at this;exact this.own
 ·exact(ht k).mono le
theorem bp.IB {a:AC} {Q:Exit→Tm→St→Prop} {tm:Tm} {s:St} (o i z':Nat) {z:Nat} {cs:List D} (hc:s.au[o]? = some cs) (hi:cs[i]? = some (.slice .full z []))
 (h:bp P B nt a Q tm ⟨s.au.set o (cs.set i (.slice (.tok s.av.length) z' [])),s.av++ [some 0]⟩):bp P B nt a Q tm s:=by
 intro c Na act w hh
 obtain⟨M,e,r,ht,h1,h2⟩:=hh
 obtain⟨r',le⟩:=r.blank
 have RS:Le M s (M.dg s.av.length none) ⟨s.au.set o (cs.set i (.slice (.tok s.av.length) z' [])),s.av++ [some 0]⟩:=⟨le.G,by simp,le.loc,le.t,le.tk⟩
 have ND:Le (M.dg s.av.length none) {s with av:=s.av++ [some 0]} (M.dg s.av.length none) ⟨s.au.set o (cs.set i (.slice (.tok s.av.length) z' [])),s.av++ [some 0]⟩:=
  ⟨fun _ _ _ h=>h,by simp,fun _ _=>rfl,Nat.le_refl _,fun t n' _ e=>⟨n',e,Nat.le_refl _,fun _=>rfl⟩⟩
 have r2:Rel (M.dg s.av.length none) ⟨s.au.set o (cs.set i (.slice (.tok s.av.length) z' [])),s.av++ [some 0]⟩ w:=by
  refine⟨r'.comm,fun o' ds e=> ?_,fun o ho=>r'.im o (by simpa using ho),fun o o' ho jR=>r'.inj o o' (by simpa using ho) (by simpa using jR),r'.tok,
   fun t b c z o hv e ho=>r'.dN t b c z o hv e (by simpa using ho),r'.eC⟩
  simp only [List.getElem?_set]at e
  split at e
  ·rename_i ho
   subst ho
   split at e
   ·cases e
    obtain⟨vs,T,g1,g2,g3,g4⟩:=r.obj o cs hc
    refine⟨vs,T,g1,by simpa using g2,g3,fun j d v e1 e2=> ?_⟩
    rw [List.getElem?_set]at e1
    split at e1
    ·rename_i hj
     subst hj
     split at e1
     ·cases e1
      exact((g4 i _ v hi e2).own (z':=z')).mono ND
     ·cases e1
    ·exact(g4 j d v e1 e2).mono RS
   ·cases e
  ·obtain⟨vs,T,g1,g2,g3,g4⟩:=r'.obj o' ds e
   exact⟨vs,T,g1,g2,g3,fun i d v e1 e2=>(g4 i d v e1 e2).mono ND⟩
 have ee:Ext B.M B.s B.w (M.dg s.av.length none) ⟨s.au.set o (cs.set i (.slice (.tok s.av.length) z' [])),s.av++ [some 0]⟩ w:=by
  refine(yq e le).trans ⟨ND,fun _ _ _ _=>rfl,fun o h1 h2=> ?_,fun t b c z hl e=> .inl ⟨hl,c,z,e⟩,fun _ _ h=>(h rfl).elim,Nat.le_refl _,rfl,rfl,rfl⟩
  simp at h2
  exact absurd h2 (Nat.not_lt.2 h1)
 exact h c Na act w ⟨_,ee,r2,fun k=>(ht k).mono RS,h1,h2⟩
theorem Sem.oF {a b:AC} {Q:Exit→Tm→St→Prop} {tm:Tm} {s:St} (h:iA P B nt a (my (Sem P B nt b Q) Q) tm s):Sem P B nt (.seq a b) Q tm s:=Sem.seq (gw h)
theorem Sem.re {a:AC} {Q:Exit→Tm→St→Prop} {tm:Tm} {s:St} (bh:Tm) (jv:List (List D)) (n m:Nat) (hn:B.s.au.length≤n) (hm:B.s.av.length≤m) (ht:qk tm n m bh) (ho:fK (s.cut n m).au jv)
 (h:Sem P B nt a Q bh ⟨jv,(s.cut n m).av⟩):Sem P B nt a Q tm s:=
 fun c hc act w hh=>h c hc act w (hh.re (Q:=Q) n m hn hm ht ho)
def Has (P:Program) (f nt:Nat) (res:List (Nat×Option (Bool×Nat))) (body:AC):Prop:=∃ fn,P.funcs[f]? = some fn∧cF P fn=some ⟨nt,res,body⟩
theorem aI.go {f:FuncId} {res:List (Nat×Option (Bool×Nat))} {body:AC} {args:List D} {s:St} {d:D} {s':St} (h0:Has P f nt res body) (hl:Nat.ble args.length nt=true)
 (h : ∀ (B:fh) (Q:Exit→Tm→St→Prop),B.s=s→nE s.au.length s.av.length res d s'=Q→iA P B nt body Q (kG 0 args) s):aI P f args s d s':=by
 obtain⟨fn,hf,hc⟩:=h0
 exact aI.intro ⟨fn,hf,hc⟩ (Nat.le_of_ble_eq_true hl) fun B hB=>gw (h B _ hB rfl)
theorem aI.NF {f:FuncId} {pre post:List D} {rows nT:List (List D)} {z z' k k':Nat} (h:aI P f (pre++ .slice (.tok 0) z rows::post) ⟨[],[some k]⟩ (.slice (.tok 0) z' nT) ⟨[],[some k']⟩)
 (hp:D.bE 0 0 pre=true) (ha:D.bE 0 0 post=true) (hw:D.gM 0 0 rows=true) (Vc:D.gM 0 0 nT=true)
 {s:St} {t:Nat} (ht:s.av[t]? = some (some k)):aI P f (pre++ .slice (.tok t) z rows::post) s (.slice (.tok t) z' nT) ⟨s.au,s.av.set t (some k')⟩:=by
 refine dA.frame [] [t] h (by simp) (by simp) (by simp) (by simpa using (List.getElem?_eq_some_iff.1 ht).1) rfl (fun i o' ds e1 e2=>by simp at e1) rfl (fun i t' e1=> ?_)
  ?_ ?_ ?_
 ·cases i with
  | zero=>simp at e1;subst e1;simp [ht]
  | succ i=>simp at e1
 ·have h1:=e8 [] [t] _ hp
  have h2:=e8 [] [t] _ ha
  rw [er]at h1 h2
  simp [er,D.cU,Tag.cU,h1,h2,jS _ _ _ hw]
 ·have h1:=gF (n':=0) (m':=1) (Nat.le_refl 0) (Nat.zero_le 1) _ hp
  have h2:=gF (n':=0) (m':=1) (Nat.le_refl 0) (Nat.zero_le 1) _ ha
  rw [Al]at h1 h2 ⊢
  simp only [List.length_nil,List.length_cons,List.all_append,h1,Bool.true_and,List.all_cons,h2,Bool.and_true,D.ok,Tag.ok,lV (Nat.zero_le 0) (Nat.zero_le 1) _ hw]
  rfl
 ·rintro _ _ ⟨rfl,rfl⟩
  refine⟨by simp [D.back,D.cU,Tag.cU,iM,jS _ _ _ Vc], ?_⟩
  simp [St.back,iz]
theorem SH (A C:Prop) : @CB (.bool true) ⟨A,C⟩=A:=by simp [CB,o5]
theorem SI (A C:Prop) : @CB (.bool false) ⟨A,C⟩=C:=by simp [CB,o5]
theorem NG (b:Bool) (A C:Prop) : @CB (.bool (!b)) ⟨A,C⟩ = @CB (.bool b) ⟨C,A⟩:=by
 cases b <;> simp [CB,o5]
theorem AA {b:Bool} {A C:Prop} (h1:b=true→A) (h2:b=false→C) : @CB (.bool b) ⟨A,C⟩:=⟨h1,h2⟩
theorem NH {b:Bool} {A C:Prop} (h:b=true) (h1:b=true→A) : @CB (.bool b) ⟨A,C⟩:=AA h1 (fun h'=>by rw [h]at h';cases h')
theorem NK {b:Bool} {A C:Prop} (h:b=false) (h1:b=false→C) : @CB (.bool b) ⟨A,C⟩:=AA (fun h'=>by rw [h]at h';cases h') h1
theorem Qq {n m:Nat} {res:List (Nat×Option (Bool×Nat))} {d:D} {s':St} {tm:Tm} {s:St} {Q:Exit→Tm→St→Prop} (hQ:nE n m res d s'=Q)
 (h : ∃ l,ay res tm s=some l∧Wk ((az l).fg n m) d∧fK (s.cut n m).au s'.au∧(s.cut n m).av=s'.av):Q .ret tm s:=hQ ▸ h
theorem Qr {n m:Nat} {res:List (Nat×Option (Bool×Nat))} {d:D} {s':St} {tm:Tm} {s:St} {Q:Exit→Tm→St→Prop} (hQ:nE n m res d s'=Q)
 (h : ∃ l,ay res tm s=some l∧Wk ((az l).fg n m) d∧fK (s.cut n m).au s'.au∧(s.cut n m).av=s'.av):Q .normal tm s:=hQ ▸ h
end
attribute [go_sem] Ir LM LN LO Is F5 Iu F6 Iv F7 Iw LP LQ LR LS LU Ix Iy Iz IA
theorem F8 : ∀ (tm:Tm) (s:St) (x:X),aH (AO.mv x) tm s=some (X.ev tm x,s):=
 fun tm s x=>nd (aH.eq_1 tm s x)
theorem F9 : ∀ (tm:Tm) (s:St) (c a b:X),
 aH (AO.pick c a b) tm s =
  match X.ev tm c with
  | D.bool t=>some (if t=true then X.ev tm a else X.ev tm b,s)
  | x=>none:=
 fun tm s c a b=>nd (aH.eq_2 tm s c a b)
theorem Ga : ∀ (tm:Tm) (s:St) (zero:List D),
 aH (AO.alloc zero) tm s=some (D.ptr s.au.length 0,{au:=s.au++ [zero],av:=s.av}):=
 fun tm s zero=>nd (aH.eq_3 tm s zero)
theorem Gb : ∀ (tm:Tm) (s:St) (x:X),
 aH (AO.box x) tm s =
  match (X.ev tm x).row with
  | some r=>some (D.ptr s.au.length 0,{au:=s.au++ [r],av:=s.av})
  | none=>none:=
 fun tm s x=>nd (aH.eq_4 tm s x)
theorem Gc : ∀ (tm:Tm) (s:St) (zero:List D) (parts:List (Nat×Nat×X)),
 aH (AO.build zero parts) tm s =
  match mn zero (List.map (fun(p:Nat×Nat×X)=>(p.fst,p.snd.fst,X.ev tm p.snd.snd)) parts)with
  | some cs=>some (D.agg cs,s)
  | none=>none:=
 fun tm s zero parts=>nd (aH.eq_5 tm s zero parts)
theorem Gd : ∀ (tm:Tm) (s:St) (zero:List D) (size n:Nat) (parts:List (Nat×X)),
 aH (AO.dc zero size n parts) tm s =
  match gh size (fF zero n) (List.map (fun(p:Nat×X)=>(p.fst,X.ev tm p.snd)) parts)with
  | some rows=>some (D.slice Tag.full size rows,s)
  | none=>none:=
 fun tm s zero size n parts=>nd (aH.eq_6 tm s zero size n parts)
theorem Ge : ∀ (tm:Tm) (s:St) (zero:List D) (size n:Nat) (parts:List (Nat×X)),
 aH (AO.ph zero size n parts) tm s =
  match gh size (fF zero n) (List.map (fun(p:Nat×X)=>(p.fst,X.ev tm p.snd)) parts)with
  | some rows=>
   some (D.slice (Tag.tok s.av.length) size rows,{au:=s.au,av:=s.av++ [some rows.length]})
  | none=>none:=
 fun tm s zero size n parts=>nd (aH.eq_7 tm s zero size n parts)
theorem Gf : ∀ (tm:Tm) (s:St) (x:X),
 aH (AO.s8 x) tm s =
  match X.ev tm x with
  | D.slice (Tag.tok t _) z rows=>
   if rows≠ []∧s.av[t]? = some (some rows.length)then
    some (D.slice Tag.shared z rows,{au:=s.au,av:=s.av.set t none})
   else none
  | x=>none:=
 fun tm s x=>nd (aH.eq_8 tm s x)
theorem Gg : ∀ (tm:Tm) (s:St) (x:X) (agg:Bool) (size:Nat),
 aH (AO.load x agg size) tm s =
  match X.ev tm x with
  | D.ptr o off=>
   match s.au[o]? with
   | some cs=>
    match part cs off agg size with
    | some d=>some (d,s)
    | none=>none
   | none=>none
  | D.cV row off=>
   match part row off agg size with
   | some d=>some (d,s)
   | none=>none
  | x=>none:=
 fun tm s x agg size=>nd (aH.eq_9 tm s x agg size)
theorem DF : ∀ (tm:Tm) (s:St) (p x:X) (size:Nat),
 aH (AO.store p x size) tm s =
  match X.ev tm p,(X.ev tm x).row with
  | D.ptr o off,some r=>
   match s.au[o]? with
   | some cs=>
    if r.length=size∧off+size≤cs.length then
     some (D.tuple [],{au:=s.au.set o (ga cs off r),av:=s.av})
    else none
   | none=>none
  | x,dI=>none:=
 fun tm s p x size=>nd (aH.eq_10 tm s p x size)
theorem DG : ∀ (tm:Tm) (s:St) (x:X),
 aH (AO.fM x) tm s =
  match X.ev tm x with
  | D.ptr o off=>some (D.ptr o off,s)
  | D.cV row off=>some (D.cV row off,s)
  | x=>none:=
 fun tm s x=>nd (aH.eq_11 tm s x)
theorem DH : ∀ (tm:Tm) (s:St) (op:BinOp) (x y:X),
 aH (AO.bin op x y) tm s =
  match qD op (X.ev tm x) (X.ev tm y)with
  | some d=>some (d,s)
  | none=>none:=
 fun tm s op x y=>nd (aH.eq_12 tm s op x y)
theorem DI : ∀ (tm:Tm) (s:St) (neg:Bool) (x y:X),
 aH (AO.yd neg x y) tm s =
  match X.ev tm x,X.ev tm y with
  | D.bool a,D.bool b=>some (D.bool (if neg=true then !a==b else a==b),s)
  | x,dI=>none:=
 fun tm s neg x y=>nd (aH.eq_13 tm s neg x y)
theorem DJ : ∀ (tm:Tm) (s:St) (neg:Bool) (ks:List Nat) (x y:X),
 aH (AO.eqs neg ks x y) tm s =
  match X.ev tm x,X.ev tm y with
  | D.agg a,D.agg b=>
   match ie ks a b with
   | some e=>some (D.bool (if neg=true then !e else e),s)
   | none=>none
  | x,dI=>none:=
 fun tm s neg ks x y=>nd (aH.eq_14 tm s neg ks x y)
theorem DK : ∀ (tm:Tm) (s:St) (neg:Bool) (x y:X),
 aH (AO.zS neg x y) tm s =
  match X.ev tm x,X.ev tm y with
  | D.dT,D.dT=>some (D.bool !neg,s)
  | D.ptr o off,D.dT=>some (D.bool neg,s)
  | D.cV row off,D.dT=>some (D.bool neg,s)
  | x,dI=>none:=
 fun tm s neg x y=>nd (aH.eq_15 tm s neg x y)
theorem DL : ∀ (tm:Tm) (s:St) (op:UnOp) (x:X),
 aH (AO.un op x) tm s =
  match zX op (X.ev tm x)with
  | some d=>some (d,s)
  | none=>none:=
 fun tm s op x=>nd (aH.eq_16 tm s op x)
theorem DM : ∀ (tm:Tm) (s:St) (k:IntKind) (x:X),
 aH (AO.conv k x) tm s =
  match X.ev tm x with
  | D.int k_1 n=>some (D.int k (k.wrap n),s)
  | x=>none:=
 fun tm s k x=>nd (aH.eq_17 tm s k x)
theorem DN : ∀ (tm:Tm) (s:St) (x:X),
 aH (AO.vX x) tm s =
  match X.ev tm x with
  | D.slice g size rows=>
   match kp rows with
   | some b=>some (D.str b,s)
   | none=>none
  | x=>none:=
 fun tm s x=>nd (aH.eq_18 tm s x)
theorem DO : ∀ (tm:Tm) (s:St) (x:X),
 aH (AO.ra x) tm s =
  match X.ev tm x with
  | D.str l=>some (D.slice Tag.shared 1 (List.map (fun(c:UInt8)=> [D.int IntKind.u8 ↑c.toNat]) l),s)
  | x=>none:=
 fun tm s x=>nd (aH.eq_19 tm s x)
theorem DP : ∀ (tm:Tm) (s:St) (size:Nat) (x:X) (lo hi:Option X),
 aH (AO.zT size x lo hi) tm s =
  match X.ev tm x with
  | D.slice g z rows=>
   match tf (Option.map (fun(x:X)=>X.ev tm x) lo),
    tg (Option.map (fun(x:X)=>X.ev tm x) hi) rows.length with
   | some l,some h=>
    if(rows = []∨z=size)∧0≤l∧l≤h∧h≤ ↑rows.length then
     some
      (D.slice (if l=0 then g.cut (decide (h = ↑rows.length))else Tag.shared) z
       (List.drop l.toNat (List.take h.toNat rows)),
       s)
    else none
   | x,dI=>none
  | x=>none:=
 fun tm s size x lo hi=>nd (aH.eq_20 tm s size x lo hi)
theorem DQ : ∀ (tm:Tm) (s:St) (x:X) (lo hi:Option X),
 aH (AO.zU x lo hi) tm s =
  match X.ev tm x with
  | D.str t=>
   match tf (Option.map (fun(x:X)=>X.ev tm x) lo),tg (Option.map (fun(x:X)=>X.ev tm x) hi) t.length with
   | some l,some h=>
    if 0≤l∧l≤h∧h≤ ↑t.length then some (D.str (List.drop l.toNat (List.take h.toNat t)),s)else none
   | x,dI=>none
  | x=>none:=
 fun tm s x lo hi=>nd (aH.eq_21 tm s x lo hi)
theorem DR : ∀ (tm:Tm) (s:St) (x:X) (off:Nat),
 aH (AO.aB x off) tm s =
  match X.ev tm x with
  | D.ptr o k=>some (D.ptr o (k+off),s)
  | D.cV row k=>some (D.cV row (k+off),s)
  | x=>none:=
 fun tm s x off=>nd (aH.eq_22 tm s x off)
theorem DS : ∀ (tm:Tm) (s:St) (x:X) (off:Nat) (agg:Bool) (size:Nat),
 aH (AO.sD x off agg size) tm s =
  match X.ev tm x with
  | D.agg cs=>
   match part cs off agg size with
   | some d=>some (d,s)
   | none=>none
  | x=>none:=
 fun tm s x off agg size=>nd (aH.eq_23 tm s x off agg size)
theorem DT : ∀ (tm:Tm) (s:St) (x i:X) (size:Nat),
 aH (AO.bR x i size) tm s =
  match X.ev tm x,X.ev tm i with
  | D.slice g z rows,D.int k n=>
   if 0≤n∧z=size then
    match rows[n.toNat]? with
    | some row=>some (D.cV row 0,s)
    | none=>none
   else none
  | x,dI=>none:=
 fun tm s x i size=>nd (aH.eq_24 tm s x i size)
theorem DU : ∀ (tm:Tm) (s:St) (x i:X),
 aH (AO.s9 x i) tm s =
  match X.ev tm x,X.ev tm i with
  | D.str t,D.int k n=>
   if 0≤n then
    match t[n.toNat]? with
    | some c=>some (D.int IntKind.u8 ↑c.toNat,s)
    | none=>none
   else none
  | x,dI=>none:=
 fun tm s x i=>nd (aH.eq_25 tm s x i)
theorem DV : ∀ (tm:Tm) (s:St) (x:X) (i:Nat),
 aH (AO.ext x i) tm s =
  match X.ev tm x with
  | D.tuple ds=>
   match ds[i]? with
   | some d=>some (d,s)
   | none=>none
  | x=>none:=
 fun tm s x i=>nd (aH.eq_26 tm s x i)
theorem DW : ∀ (tm:Tm) (s:St) (x:X),
 aH (AO.pj x) tm s =
  match X.ev tm x with
  | D.str t=>some (D.int IntKind.i64 ↑t.length,s)
  | x=>none:=
 fun tm s x=>nd (aH.eq_27 tm s x)
theorem DX : ∀ (tm:Tm) (s:St) (x:X),
 aH (AO.len x) tm s =
  match X.ev tm x with
  | D.slice g size rows=>some (D.int IntKind.i64 ↑rows.length,s)
  | x=>none:=
 fun tm s x=>nd (aH.eq_28 tm s x)
theorem DY : ∀ (tm:Tm) (s:St) (size bytes:Nat) (x y:X),
 aH (AO.app size bytes x y) tm s=kQ size bytes (X.ev tm x) (X.ev tm y) s:=
 fun tm s size bytes x y=>nd (aH.eq_29 tm s size bytes x y)
theorem DZ : ∀ (tm:Tm) (s:St) (isMax:Bool) (x y:X),
 aH (AO.mm isMax x y) tm s =
  match X.ev tm x,X.ev tm y with
  | D.int k a,D.int k' b=>
   if k=k' then some (D.int k (if isMax=true then if b > a then b else a else if b<a then b else a),s)
   else none
  | x,dI=>none:=
 fun tm s isMax x y=>nd (aH.eq_30 tm s isMax x y)
theorem D0 (tm:Tm) (s:St) (r:List D) (T:TypeId):aH (AO.n8 (.dT::r) T) tm s=some (.ptr s.au.length 0,{au:=s.au++ [.dU T s.au.length::r],av:=s.av}):=nd rfl
theorem D1 (tm:Tm) (s:St) (x:X) (T:TypeId):aH (AO.ta x T) tm s =
 match (x.ev tm).row with
 | some (.dT::r)=>some (.ptr s.au.length 0,{au:=s.au++ [.dU T s.au.length::r],av:=s.av})
 | _=>none:=nd rfl
theorem D2 (tm:Tm) (s:St) (x y:X):aH (AO.apps x y) tm s =
 match y.ev tm with
 | .str l=>ti (x.ev tm) (.slice .shared 1 (l.map fun c=> [.int .u8 c.toNat])) s
 | _=>none:=nd rfl
theorem D3 (tm:Tm) (s:St) (x y:X):aH (AO.tc x y) tm s=ti (x.ev tm) (y.ev tm) s:=nd rfl
theorem D4 (tm:Tm) (s:St) (f:Nat) (xs:List X):aH (AO.oU f xs) tm s=some (.eW f (xs.map fun x=>x.ev tm),s):=nd rfl
theorem D5 (tm:Tm) (s:St):aH AO.oV tm s=some (.eR s.au.length,{au:=s.au++ [[]],av:=s.av}):=nd rfl
theorem D6 (tm:Tm) (s:St) (m k v:X):aH (AO.rN m k v) tm s =
 match m.ev tm,k.ev tm,v.ev tm with
 | .eR o, .str key, .slice g z rows=>
  match s.au[o]? with
  | some cs=>match qE key (.slice g z rows) cs with | some fV=>some (.tuple [],{au:=s.au.set o fV,av:=s.av}) | none=>none
  | none=>none
 | _,_,_=>none:=nd rfl
theorem D7 (tm:Tm) (s:St) (m k:X) (zero:D):aH (AO.pY m k zero) tm s =
 match m.ev tm,k.ev tm with
 | .eR o, .str key=>
  match s.au[o]? with
  | some cs=>match rO key zero cs with | some d=>some (d,s) | none=>none
  | none=>none
 | _,_=>none:=nd rfl
theorem AB (f:Nat) (xs:List X):(AO.oU f xs).core=false:=nd rfl
theorem AE:AO.oV.core=true:=nd rfl
theorem AG (m k v:X):(AO.rN m k v).core=true:=nd rfl
theorem AH (m k:X) (zero:D):(AO.pY m k zero).core=false:=nd rfl
theorem Gh (n m f:Nat) (cs:List D):D.fg n m (.eW f cs) = .eW f (D.fk n m cs):=nd (by simp only [D.fg])
theorem Gi (n m:Nat) (o:Nat):D.fg n m (.eR o)=if o<n then .eR o else .junk:=nd (by simp only [D.fg])
theorem D8 (d:Option Nat) (g:Option (Nat×Bool)) (t:Nat) (xs:List X):(AI.fQ d g t xs).dst=d:=nd rfl
theorem AJ (x y:X):(AO.tc x y).core=true:=nd rfl
theorem AL (z:List D) (T:TypeId):(AO.n8 z T).core=true:=nd rfl
theorem AN (x:X) (T:TypeId):(AO.ta x T).core=true:=nd rfl
theorem AP (x y:X):(AO.apps x y).core=true:=nd rfl
theorem Gj (n m:Nat) (v:Value):D.fg n m (.val v) = .val v:=nd (by simp only [D.fg])
theorem Gk (n m:Nat) (T:TypeId) (o:Nat):D.fg n m (.dU T o)=if o<n then .dU T o else .junk:=nd (by simp only [D.fg])
theorem IC : ∀ (tm:Tm) (t:Nat),X.ev tm (X.s t)=tm.get t:=
 fun tm t=>nd (X.ev.eq_1 tm t)
theorem ID : ∀ (tm:Tm) (d:D),X.ev tm (X.k d)=d:=
 fun tm d=>nd (X.ev.eq_2 tm d)
theorem D9 : ∀ (tm:Tm) (d:D) (t:Nat),tm.put (some t) d=tm.set t d:=
 fun tm d t=>nd (Tm.put.eq_1 tm d t)
theorem Ea : ∀ (tm:Tm) (d:D),tm.put none d=tm:=
 fun tm d=>nd (Tm.put.eq_2 tm d)
theorem Eb : ∀ (x:Nat) (dI:D),Tm.set [] x dI = [(x,dI)]:=
 fun x dI=>nd (Tm.set.eq_1 x dI)
theorem Ec : ∀ (x:Nat) (dI:D) (k:Nat) (e:D) (r:List (Nat×D)),
 Tm.set ((k,e)::r) x dI=if k=x then(k,dI)::r else(k,e)::Tm.set r x dI:=
 fun x dI k e r=>nd (Tm.set.eq_2 x dI k e r)
theorem Ed : ∀ (x:Nat),Tm.get [] x=D.junk:=
 fun x=>nd (Tm.get.eq_1 x)
theorem Ee : ∀ (x k:Nat) (d:D) (r:List (Nat×D)),Tm.get ((k,d)::r) x=if k=x then d else Tm.get r x:=
 fun x k d r=>nd (Tm.get.eq_2 x k d r)
theorem Gl : ∀ (x:Nat),kG x [] = []:=
 fun x=>nd (kG.eq_1 x)
theorem Gm : ∀ (x:Nat) (d:D) (r:List D),kG x (d::r)=(x,d)::kG (x+1) r:=
 fun x d r=>nd (kG.eq_2 x d r)
theorem Ef : ∀ (d:Option Nat) (g:Option (Nat×Bool)) (o:AO),(AI.op d g o).dst=d:=
 fun d g o=>nd (AI.dst.eq_1 d g o)
theorem Eg : ∀ (d:Option Nat) (g:Option (Nat×Bool)) (f:Nat) (xs:List X),(AI.call d g f xs).dst=d:=
 fun d g f xs=>nd (AI.dst.eq_2 d g f xs)
theorem Eh : ∀ (d:Option Nat) (g:Option (Nat×Bool)) (neg:Bool) (dI:X),(AI.nil d g neg dI).dst=d:=
 fun d g neg dI=>nd (AI.dst.eq_3 d g neg dI)
theorem IE : ∀ (cs:List D) (off size:Nat),
 part cs off true size=if off+size≤cs.length then some (D.agg (List.take size (List.drop off cs)))else none:=
 fun cs off size=>nd (part.eq_1 cs off size)
theorem IF : ∀ (cs:List D) (off size:Nat),part cs off false size=cs[off]? :=
 fun cs off size=>nd (part.eq_2 cs off size)
theorem Ei : ∀ (cs:List D) (off:Nat) (r:List D),
 ga cs off r=List.take off cs++r++List.drop (off+r.length) cs:=
 fun cs off r=>nd (ga.eq_1 cs off r)
theorem Gn : ∀ (cells:List D),mn cells [] = some cells:=
 fun cells=>nd (mn.eq_1 cells)
theorem Gp : ∀ (cells:List D) (off size:Nat) (d:D) (rest:List (Nat×Nat×D)),
 mn cells ((off,size,d)::rest) =
  match d.row with
  | none=>none
  | some r=>if r.length=size∧off+size≤cells.length then mn (ga cells off r) rest else none:=
 fun cells off size d rest=>nd (mn.eq_2 cells off size d rest)
theorem AQ : ∀ (size:Nat) (rows:List (List D)),gh size rows [] = some rows:=
 fun size rows=>nd (gh.eq_1 size rows)
theorem AR : ∀ (size:Nat) (rows:List (List D)) (i:Nat) (d:D) (rest:List (Nat×D)),
 gh size rows ((i,d)::rest) =
  match d.row with
  | none=>none
  | some r=>if r.length=size∧i<rows.length then gh size (rows.set i r) rest else none:=
 fun size rows i d rest=>nd (gh.eq_2 size rows i d rest)
theorem AS : ∀ (zero:List D),fF zero 0 = []:=
 fun zero=>nd (fF.eq_1 zero)
theorem AT : ∀ (zero:List D) (i:Nat),fF zero i.succ=zero::fF zero i:=
 fun zero i=>nd (fF.eq_2 zero i)
theorem IG : ∀ (op:BinOp) (k:IntKind) (a:Int) (k':IntKind) (b:Int),
 qD op (D.int k a) (D.int k' b)=if k=k' then eo op k a b else none:=
 fun op k a k' b=>nd (qD.eq_1 op k a k' b)
theorem II : ∀ (op:BinOp) (a b:List UInt8),qD op (D.str a) (D.str b)=kb op a b:=
 fun op a b=>nd (qD.eq_2 op a b)
theorem Ej : ∀ (k:IntKind) (a b:Int),eo BinOp.add k a b=some (D.int k (k.wrap (a+b))):=
 fun k a b=>nd (eo.eq_1 k a b)
theorem Ek : ∀ (k:IntKind) (a b:Int),eo BinOp.sub k a b=some (D.int k (k.wrap (a - b))):=
 fun k a b=>nd (eo.eq_2 k a b)
theorem El : ∀ (k:IntKind) (a b:Int),eo BinOp.mul k a b=some (D.int k (k.wrap (a*b))):=
 fun k a b=>nd (eo.eq_3 k a b)
theorem Em : ∀ (k:IntKind) (a b:Int),
 eo BinOp.quo k a b=if b=0 then none else some (D.int k (k.wrap (a.tdiv b))):=
 fun k a b=>nd (eo.eq_4 k a b)
theorem En : ∀ (k:IntKind) (a b:Int),eo BinOp.rem k a b=if b=0 then none else some (D.int k (a.tmod b)):=
 fun k a b=>nd (eo.eq_5 k a b)
theorem Eo : ∀ (k:IntKind) (a b:Int),eo BinOp.eql k a b=some (D.bool (a==b)):=
 fun k a b=>nd (eo.eq_6 k a b)
theorem Ep : ∀ (k:IntKind) (a b:Int),eo BinOp.neq k a b=some (D.bool (a != b)):=
 fun k a b=>nd (eo.eq_7 k a b)
theorem Er : ∀ (k:IntKind) (a b:Int),eo BinOp.lss k a b=some (D.bool (decide (a<b))):=
 fun k a b=>nd (eo.eq_8 k a b)
theorem Es : ∀ (k:IntKind) (a b:Int),eo BinOp.leq k a b=some (D.bool (decide (a≤b))):=
 fun k a b=>nd (eo.eq_9 k a b)
theorem BR : ∀ (k:IntKind) (a b:Int),eo BinOp.gtr k a b=some (D.bool (decide (a > b))):=
 fun k a b=>nd (eo.eq_10 k a b)
theorem BS : ∀ (k:IntKind) (a b:Int),eo BinOp.geq k a b=some (D.bool (decide (a≥b))):=
 fun k a b=>nd (eo.eq_11 k a b)
theorem Et : ∀ (a b:List UInt8),
 kb BinOp.add a b=if a.length+b.length≤bF then some (D.str (a++b))else none:=
 fun a b=>nd (kb.eq_1 a b)
theorem Eu : ∀ (a b:List UInt8),kb BinOp.eql a b=some (D.bool (a==b)):=
 fun a b=>nd (kb.eq_2 a b)
theorem Ev : ∀ (a b:List UInt8),kb BinOp.neq a b=some (D.bool !a==b):=
 fun a b=>nd (kb.eq_3 a b)
theorem Ew : ∀ (a b:List UInt8),kb BinOp.lss a b=some (D.bool (bytesLess a b)):=
 fun a b=>nd (kb.eq_4 a b)
theorem LV : ∀ (k:IntKind) (n:Int),zX UnOp.neg (D.int k n)=some (D.int k (k.wrap (0 - n))):=
 fun k n=>nd (zX.eq_1 k n)
theorem LW : ∀ (b:Bool),zX UnOp.not (D.bool b)=some (D.bool !b):=
 fun b=>nd (zX.eq_2 b)
theorem Ey : ∀ (k:IntKind) (a:Int) (k':IntKind) (b:Int),
 jz 0 (D.int k a) (D.int k' b)=if k=k' then some (a==b)else none:=
 fun k a k' b=>nd (jz.eq_1 k a k' b)
theorem Ez : ∀ (a b:Bool),jz 1 (D.bool a) (D.bool b)=some (a==b):=
 fun a b=>nd (jz.eq_2 a b)
theorem EA : ∀ (a b:List UInt8),jz 2 (D.str a) (D.str b)=some (a==b):=
 fun a b=>nd (jz.eq_3 a b)
theorem BT:ie [] [] [] = some true:=
 nd (ie.eq_1)
theorem BU : ∀ (k:Nat) (ks:List Nat) (KT:D) (xs:List D) (y:D) (ys:List D),
 ie (k::ks) (KT::xs) (y::ys) =
  match jz k KT y with
  | none=>none
  | some true=>ie ks xs ys
  | some false=>some false:=
 fun k ks KT xs y ys=>nd (ie.eq_2 k ks KT xs y ys)
theorem LX:tf none=some 0:=
 nd (tf.eq_1)
theorem LY : ∀ (k:IntKind) (n:Int),tf (some (D.int k n))=some n:=
 fun k n=>nd (tf.eq_2 k n)
theorem LZ : ∀ (len:Nat),tg none len=some ↑len:=
 fun len=>nd (tg.eq_1 len)
theorem L0 : ∀ (len:Nat) (k:IntKind) (n:Int),tg (some (D.int k n)) len=some n:=
 fun len k n=>nd (tg.eq_2 len k n)
theorem BV : ∀ (zero:List D),(AO.alloc zero).core=true:=
 fun zero=>nd (AO.core.eq_1 zero)
theorem BW : ∀ (dI:X),(AO.box dI).core=true:=
 fun dI=>nd (AO.core.eq_2 dI)
theorem BX : ∀ (zero:List D) (size n:Nat) (parts:List (Nat×X)),(AO.ph zero size n parts).core=true:=
 fun zero size n parts=>nd (AO.core.eq_3 zero size n parts)
theorem BY : ∀ (dI:X),(AO.s8 dI).core=true:=
 fun dI=>nd (AO.core.eq_4 dI)
theorem B0 : ∀ (p dI:X) (size:Nat),(AO.store p dI size).core=true:=
 fun p dI size=>nd (AO.core.eq_5 p dI size)
theorem B1 : ∀ (size bytes:Nat) (dI y:X),(AO.app size bytes dI y).core=true:=
 fun size bytes dI y=>nd (AO.core.eq_6 size bytes dI y)
theorem B2 : ∀ (val:Nat) (zero:List D),(AI.op (some val) none (AO.alloc zero)).kind=AK.alloc:=
 fun val zero=>nd (AI.kind.eq_1 val zero)
theorem B3 : ∀ (zero:List D),(AO.alloc zero).kind=AK.core:=
 fun zero=>nd (AO.kind.eq_1 zero)
theorem B4 : ∀ (dI:X),(AO.box dI).kind=AK.core:=
 fun dI=>nd (AO.kind.eq_2 dI)
theorem B5 : ∀ (zero:List D) (size n:Nat) (parts:List (Nat×X)),(AO.ph zero size n parts).kind=AK.core:=
 fun zero size n parts=>nd (AO.kind.eq_3 zero size n parts)
theorem B6 : ∀ (dI:X),(AO.s8 dI).kind=AK.core:=
 fun dI=>nd (AO.kind.eq_4 dI)
theorem B7 : ∀ (p dI:X) (size:Nat),(AO.store p dI size).kind=AK.core:=
 fun p dI size=>nd (AO.kind.eq_5 p dI size)
theorem B8 : ∀ (size bytes:Nat) (dI y:X),(AO.app size bytes dI y).kind=AK.core:=
 fun size bytes dI y=>nd (AO.kind.eq_6 size bytes dI y)
theorem B9 : ∀ (dI:X) (agg:Bool) (size:Nat),(AO.load dI agg size).kind=AK.load:=
 fun _ _ _=>nd rfl
theorem EB:eJ AK.core=true:=
 nd (eJ.eq_1)
theorem EC:eJ AK.alloc=true:=
 nd (eJ.eq_2)
theorem ED : ∀ (i:AI) (tm:Tm) (d:D),kj i tm d [] = True:=
 fun i tm d=>nd (kj.eq_1 i tm d)
theorem EE : ∀ (i:AI) (tm:Tm) (d:D) (s:St) (r:List St),
 kj i tm d (s::r)=(gb i tm s=some d∧kj i tm d r):=
 fun i tm d s r=>nd (kj.eq_2 i tm d s r)
theorem L1 : ∀ (tm:Tm) (s:St) (dst:Option Nat) (o:AO),
 gb (AI.op dst none o) tm s=Option.map (fun(x:D×St)=>x.fst) (aH o tm s):=
 fun tm s dst o=>nd (gb.eq_1 tm s dst o)
theorem L2 : ∀ (tm:Tm) (s:St) (dst:Option Nat) (t:Nat) (want:Bool) (o:AO),
 gb (AI.op dst (some (t,want)) o) tm s =
  match tm.get t with
  | D.bool b=>if b=want then Option.map (fun(x:D×St)=>x.fst) (aH o tm s)else some (D.tuple [])
  | D.tuple vs=>some (D.tuple [])
  | x=>none:=
 fun tm s dst t want o=>nd (gb.eq_2 tm s dst t want o)
theorem Ca : ∀ (is:List AI),jC is [] = some []:=
 fun is=>nd (jC.eq_1 is)
theorem Cb : ∀ (is:List AI) (q b:Nat) (r:List (Nat×Nat)),
 jC is ((q,b)::r) =
  match is[q]?,jC is r with
  | some ai,some l=>some ((ai,b)::l)
  | x,dI=>none:=
 fun is q b r=>nd (jC.eq_2 is q b r)
theorem L3 : ∀ (tm:Tm) (n m:Nat),qk tm n m [] = True:=
 fun tm n m=>nd (qk.eq_1 tm n m)
theorem L4 : ∀ (tm:Tm) (n m k:Nat) (d:D) (r:List (Nat×D)),
 qk tm n m ((k,d)::r)=(Wk (D.fg n m (tm.get k)) d∧qk tm n m r):=
 fun tm n m k d r=>nd (qk.eq_2 tm n m k d r)
theorem IJ : ∀ (n m o off:Nat),D.fg n m (D.ptr o off)=if o<n then D.ptr o off else D.junk:=
 fun n m o off=>nd (D.fg.eq_1 n m o off)
theorem IK : ∀ (n m:Nat) (row:List D) (off:Nat),D.fg n m (D.cV row off)=D.cV (D.fk n m row) off:=
 fun n m row off=>nd (D.fg.eq_2 n m row off)
theorem IL : ∀ (n m:Nat) (g:Tag) (z:Nat) (rows:List (List D)),
 D.fg n m (D.slice g z rows)=D.slice (Tag.fg m g) z (D.gL n m rows):=
 fun n m g z rows=>nd (D.fg.eq_3 n m g z rows)
theorem IM : ∀ (n m:Nat) (cs:List D),D.fg n m (D.agg cs)=D.agg (D.fk n m cs):=
 fun n m cs=>nd (D.fg.eq_4 n m cs)
theorem IN : ∀ (n m:Nat) (ds:List D),D.fg n m (D.tuple ds)=D.tuple (D.fk n m ds):=
 fun n m ds=>nd (D.fg.eq_5 n m ds)
theorem IP : ∀ (n m:Nat),D.fg n m D.junk=D.junk:=
 fun n m=>nd (D.fg.eq_6 n m)
theorem IQ : ∀ (n m:Nat) (k:IntKind) (dI:Int),D.fg n m (D.int k dI)=D.int k dI:=
 fun n m k dI=>nd (D.fg.eq_7 n m k dI)
theorem IS : ∀ (n m:Nat) (b:Bool),D.fg n m (D.bool b)=D.bool b:=
 fun n m b=>nd (D.fg.eq_8 n m b)
theorem IT : ∀ (n m:Nat) (l:List UInt8),D.fg n m (D.str l)=D.str l:=
 fun n m l=>nd (D.fg.eq_9 n m l)
theorem Gq : ∀ (n m:Nat),D.fg n m D.dT=D.dT:=
 fun n m=>nd (D.fg.eq_10 n m)
theorem Gr : ∀ (n m:Nat),D.fk n m [] = []:=
 fun n m=>nd (D.fk.eq_1 n m)
theorem Gs : ∀ (n m:Nat) (d:D) (r:List D),D.fk n m (d::r)=D.fg n m d::D.fk n m r:=
 fun n m d r=>nd (D.fk.eq_2 n m d r)
theorem Gt : ∀ (n m:Nat),D.gL n m [] = []:=
 fun n m=>nd (D.gL.eq_1 n m)
theorem Gu : ∀ (n m:Nat) (d:List D) (r:List (List D)),D.gL n m (d::r)=D.fk n m d::D.gL n m r:=
 fun n m d r=>nd (D.gL.eq_2 n m d r)
theorem EF : ∀ (m t:Nat) (y:Bool),Tag.fg m (Tag.tok t y)=if t<m then Tag.tok t y else Tag.shared:=
 fun _ _ _=>nd rfl
theorem EG : ∀ (s:St) (n m:Nat),
 s.cut n m = {au:=List.map (D.fk n m) (List.take n s.au),av:=List.take m s.av}:=
 fun s n m=>nd (St.cut.eq_1 s n m)
theorem IU : ∀ (d:D),az [d] = d:=
 fun d=>nd (az.eq_1 d)
theorem IV (size bytes t:Nat) (rows:List (List D)) (g:Tag) (r:List D) (s:St):kQ size bytes (.slice (.tok t) size rows) (.slice g size [r]) s =
 if(rows.length+1)*(bytes+1)≤bF∧s.av[t]? = some (some rows.length)then some (.slice (.tok t) size (rows++ [r]),⟨s.au,s.av.set t (some (rows.length+1))⟩)else none:=by
 simp only [kQ,List.length_singleton]
 by_cases h1:(rows.length+1)*(bytes+1)≤bF <;> by_cases h2:s.av[t]? = some (some rows.length) <;> simp [h1,h2]
theorem AU {size bytes t:Nat} {rows new:List (List D)} {g:Tag} {s:St} (h1:(rows.length+new.length)*(bytes+1)≤bF) (h2:s.av[t]? = some (some rows.length)) :
 kQ size bytes (.slice (.tok t) size rows) (.slice g size new) s=some (.slice (.tok t) size (rows++new),⟨s.au,s.av.set t (some (rows.length+new.length))⟩):=by
 cases new with
 | nil=>
  have:s.av.set t (some rows.length)=s.av:=by
   apply List.ext_getElem?
   intro i
   rw [List.getElem?_set]
   split
   ·rename_i hi;subst hi;rw [h2,if_pos (List.getElem?_eq_some_iff.1 h2).1]
   ·rfl
  simp only [List.length_nil,Nat.add_zero]at h1
  simp [kQ,h1,this]
 | cons x l=>
  simp only [kQ,h1,h2]
  simp
theorem Gv (size bytes z:Nat) (g:Tag) (r:List D) (s:St):kQ size bytes (.slice .full z []) (.slice g size [r]) s =
 if bytes+1≤bF then some (.slice (.tok s.av.length) size [r],⟨s.au,s.av++ [some 1]⟩)else none:=by
 simp [kQ]
theorem L5 {P:Program} {B:fh} {nt:Nat} (ac:AC) (Q:Exit→Tm→St→Prop) (tm:Tm) (s:St):Dj P B nt ac Q .normal tm s=Q .normal tm s:=nd rfl
theorem L6 {P:Program} {B:fh} {nt:Nat} (ac:AC) (Q:Exit→Tm→St→Prop) (tm:Tm) (s:St):Dj P B nt ac Q .ret tm s=Q .ret tm s:=nd rfl
theorem L7 {P:Program} {B:fh} {nt:Nat} (ac:AC) (Q:Exit→Tm→St→Prop) (tm:Tm) (s:St) (i:Nat):Dj P B nt ac Q (.exit i) tm s=Q (.exit i) tm s:=nd rfl
theorem L8 (m:Nat):Tag.fg m .full = .full:=nd rfl
theorem Gw (m:Nat):Tag.fg m .shared = .shared:=nd rfl
theorem Qs {P:Program} (K:Tm→St→Prop) (tm:Tm) (s:St):gN P [] K tm s=K tm s:=nd rfl
theorem s_op {P:Program} (dst:Option Nat) (o:AO) (r:List AI) (K:Tm→St→Prop) (tm:Tm) (s:St) :
 gN P (.op dst none o::r) K tm s=(match aH o tm s with | some (d,s')=>gN P r K (tm.put dst d) s' | none=>False):=nd rfl
def KJ (P:Program) (r:List AI) (K:Tm→St→Prop) (tm:Tm) (dst:Option Nat) (d:D) (s:St):Prop:=gN P r K (tm.put dst d) s
theorem SK {P:Program} (r:List AI) (K:Tm→St→Prop) (tm:Tm) (dst:Option Nat) (d:D) (s:St):KJ P r K tm dst d s=gN P r K (tm.put dst d) s:=nd rfl
theorem s_call {P:Program} (dst:Option Nat) (f:Nat) (xs:List X) (r:List AI) (K:Tm→St→Prop) (tm:Tm) (s:St) :
 gN P (.call dst none f xs::r) K tm s=CL P f (xs.map (·.ev tm)) s (KJ P r K tm dst):=nd rfl
def NJ (P:Program) (dst:Option Nat) (neg:Bool) (x:D) (r:List AI) (K:Tm→St→Prop) (tm:Tm) (s:St):Prop:=
 match x with
 | .slice _ _ rows=>∀ b:Bool,(rows≠ []→b=false)→gN P r K (tm.put dst (.bool (if neg then !b else b))) s
 | _=>False
theorem NL {P:Program} (dst:Option Nat) (neg:Bool) (x:X) (r:List AI) (K:Tm→St→Prop) (tm:Tm) (s:St) :
 gN P (.nil dst none neg x::r) K tm s=NJ P dst neg (x.ev tm) r K tm s:=nd rfl
theorem L9 {P:Program} (dst:Option Nat) (neg:Bool) (g:Tag) (z:Nat) (d:List D) (l:List (List D)) (r:List AI) (K:Tm→St→Prop) (tm:Tm) (s:St) :
 NJ P dst neg (.slice g z (d::l)) r K tm s=gN P r K (tm.put dst (.bool neg)) s:=by
 simp only [NJ,ne_eq,reduceCtorEq,not_false_eq_true,true_imp_iff,eq_iff_iff]
 refine⟨fun h=>by have:=h false rfl;cases neg <;> exact this,fun h b hb=> ?_⟩
 subst hb;cases neg <;> exact h
theorem Qt {P:Program} (dst:Option Nat) (t:Nat) (w:Bool) (o:AO) (r:List AI) (K:Tm→St→Prop) (tm:Tm) (s:St) :
 gN P (.op dst (some (t,w)) o::r) K tm s = @GB (tm.get t) w ⟨(gN P (.op dst none o::r) K tm s),(gN P r K (tm.put dst (.tuple [])) s)⟩:=nd rfl
def CV (P:Program) (x:D) (Qu:List D) (s:St) (K:D→St→Prop):Prop:=
 match x with
 | .eW f jT=>enters P f=true∧CL P f (Qu++jT) s K
 | _=>False
theorem Ma {P:Program} (dst:Option Nat) (t:Nat) (xs:List X) (r:List AI) (K:Tm→St→Prop) (tm:Tm) (s:St) :
 gN P (.fQ dst none t xs::r) K tm s=CV P (tm.get t) (xs.map (·.ev tm)) s (KJ P r K tm dst):=nd rfl
theorem CV.use {P:Program} {f:Nat} {jT Qu:List D} {s s':St} {d:D} {K:D→St→Prop} (he:enters P f=true) (h:aI P f (Qu++jT) s d s') (k:K d s'):CV P (.eW f jT) Qu s K:=⟨he,d,s',h,k⟩
theorem IW {P:Program} (dst:Option Nat) (t:Nat) (w:Bool) (u:Nat) (xs:List X) (r:List AI) (K:Tm→St→Prop) (tm:Tm) (s:St) :
 gN P (.fQ dst (some (t,w)) u xs::r) K tm s = @GB (tm.get t) w ⟨(gN P (.fQ dst none u xs::r) K tm s),(gN P r K (tm.put dst (.tuple [])) s)⟩:=nd rfl
theorem Mb {P:Program} (dst:Option Nat) (t:Nat) (w:Bool) (f:Nat) (xs:List X) (r:List AI) (K:Tm→St→Prop) (tm:Tm) (s:St) :
 gN P (.call dst (some (t,w)) f xs::r) K tm s = @GB (tm.get t) w ⟨(gN P (.call dst none f xs::r) K tm s),(gN P r K (tm.put dst (.tuple [])) s)⟩:=nd rfl
theorem NN {P:Program} (dst:Option Nat) (t:Nat) (w:Bool) (neg:Bool) (x:X) (r:List AI) (K:Tm→St→Prop) (tm:Tm) (s:St) :
 gN P (.nil dst (some (t,w)) neg x::r) K tm s = @GB (tm.get t) w ⟨(gN P (.nil dst none neg x::r) K tm s),(gN P r K (tm.put dst (.tuple [])) s)⟩:=nd rfl
theorem SM (b:Bool) (A C:Prop) : @GB (.bool b) true ⟨A,C⟩ = @CB (.bool b) ⟨A,C⟩:=nd rfl
theorem SN (b:Bool) (A C:Prop) : @GB (.bool b) false ⟨A,C⟩ = @CB (.bool b) ⟨C,A⟩:=by
 cases b <;> simp [GB,CB,GJ,o5]
theorem SO (l:List D) (w:Bool) (A C:Prop) : @GB (.tuple l) w ⟨A,C⟩=C:=nd rfl
theorem Qv {P:Program} {K:Tm→St→Prop} (aY:List St) (tm:Tm) (s:St):ew P K [] aY tm s=K tm s:=nd rfl
def OJ (P:Program) (o:AO) (dst:Option Nat) (b:Nat) (r:List (AI×Nat)) (K:Tm→St→Prop) (aY:List St) (tm:Tm) (s:St):Bool→Prop
 | true=>match aH o tm s with | some (d,s')=>ew P K r (s::aY) (tm.put dst d) s' | none=>False
 | false=>match aH o tm s with | some (d,_)=>kj (.op dst none o) tm d (aY.take b)∧ew P K r aY (tm.put dst d) s | none=>False
theorem SQ {P:Program} {K:Tm→St→Prop} (dst:Option Nat) (o:AO) (b:Nat) (r:List (AI×Nat)) (aY:List St) (tm:Tm) (s:St) :
 ew P K ((.op dst none o,b)::r) aY tm s=OJ P o dst b r K aY tm s o.core:=by
 simp only [ew,jD]
 cases o.core <;> rfl
theorem SR {P:Program} (o:AO) (dst:Option Nat) (b:Nat) (r:List (AI×Nat)) (K:Tm→St→Prop) (aY:List St) (tm:Tm) (s:St) :
 OJ P o dst b r K aY tm s true=match aH o tm s with | some (d,s')=>ew P K r (s::aY) (tm.put dst d) s' | none=>False:=nd rfl
theorem SS {P:Program} (o:AO) (dst:Option Nat) (b:Nat) (r:List (AI×Nat)) (K:Tm→St→Prop) (aY:List St) (tm:Tm) (s:St) :
 OJ P o dst b r K aY tm s false=match aH o tm s with | some (d,_)=>kj (.op dst none o) tm d (aY.take b)∧ew P K r aY (tm.put dst d) s | none=>False:=nd rfl
theorem Qw {P:Program} {K:Tm→St→Prop} (dst:Option Nat) (t:Nat) (w:Bool) (o:AO) (b:Nat) (r:List (AI×Nat)) (aY:List St) (tm:Tm) (s:St) :
 ew P K ((.op dst (some (t,w)) o,b)::r) aY tm s = @GB (tm.get t) w ⟨(ew P K ((.op dst none o,b)::r) aY tm s),(ew P K r (if o.core then s::aY else aY) (tm.put dst (.tuple [])) s)⟩:=by
 simp only [GB,ew,jD]
 cases o.core <;> rfl
def KG (P:Program) (K:Tm→St→Prop) (r:List (AI×Nat)) (aY:List St) (tm:Tm) (dst:Option Nat) (d:D) (s:St):Prop:=ew P K r aY (tm.put dst d) s
theorem SU {P:Program} (K:Tm→St→Prop) (r:List (AI×Nat)) (aY:List St) (tm:Tm) (dst:Option Nat) (d:D) (s:St):KG P K r aY tm dst d s=ew P K r aY (tm.put dst d) s:=nd rfl
theorem g_call {P:Program} {K:Tm→St→Prop} (dst:Option Nat) (f:Nat) (xs:List X) (b:Nat) (r:List (AI×Nat)) (aY:List St) (tm:Tm) (s:St) :
 ew P K ((.call dst none f xs,b)::r) aY tm s=CL P f (xs.map (·.ev tm)) s (KG P K r (s::aY) tm dst):=nd rfl
theorem Mc {P:Program} {K:Tm→St→Prop} (dst:Option Nat) (t:Nat) (w:Bool) (f:Nat) (xs:List X) (b:Nat) (r:List (AI×Nat)) (aY:List St) (tm:Tm) (s:St) :
 ew P K ((.call dst (some (t,w)) f xs,b)::r) aY tm s = @GB (tm.get t) w ⟨(ew P K ((.call dst none f xs,b)::r) aY tm s),(ew P K r (s::aY) (tm.put dst (.tuple [])) s)⟩:=nd rfl
class Ok (p:Prop):Prop where
 out:p
instance:Ok True:=⟨trivial⟩
instance {p q:Prop} [Ok p] [Ok q] : Ok (p∧q):=⟨⟨Ok.out,Ok.out⟩⟩
instance {α:Type} (a:α):Ok (a=a):=⟨rfl⟩
instance (d:D):Ok (Wk d .junk):=⟨Wk.junk d⟩
instance {l l':List D} [Ok (jB l l')] : Ok (Wk (.tuple l) (.tuple l')):=⟨Wk.tuple Ok.out⟩
instance {l l':List D} [Ok (jB l l')] : Ok (Wk (.agg l) (.agg l')):=⟨Wk.agg Ok.out⟩
instance {g:Tag} {z:Nat} {l l':List (List D)} [Ok (fK l l')] : Ok (Wk (.slice g z l) (.slice g z l')):=⟨Wk.rows Ok.out⟩
instance {g:Tag} {z:Nat} {l l':List (List D)} [Ok (fK l l')] : Ok (Wk (.slice g z l) (.slice .shared z l')):=⟨Wk.slice Ok.out⟩
instance (z z':Nat):Ok (Wk (.slice .full z []) (.slice .full z' [])):=⟨Wk.SA z z'⟩
instance (g:Tag) (z z':Nat):Ok (Wk (.slice g z []) (.slice .shared z' [])):=⟨Wk.nil g z z'⟩
instance (d:D):Ok (Wk d d):=⟨Wk.refl d⟩
instance:Ok (jB [] []):=⟨.nil⟩
instance {d d':D} {l l':List D} [Ok (Wk d d')] [Ok (jB l l')] : Ok (jB (d::l) (d'::l')):=⟨.cons Ok.out Ok.out⟩
instance (l:List D):Ok (jB l l):=⟨jB.refl l⟩
instance:Ok (fK [] []):=⟨.nil⟩
instance {d d':List D} {l l':List (List D)} [Ok (jB d d')] [Ok (fK l l')] : Ok (fK (d::l) (d'::l')):=⟨.cons Ok.out Ok.out⟩
instance {a a' b b':List (List D)} [Ok (fK a a')] [Ok (fK b b')] : Ok (fK (a++b) (a'++b')):=⟨fK.append Ok.out Ok.out⟩
instance (l:List (List D)):Ok (fK l l):=⟨fK.refl l⟩
theorem bs:(∀ b,(true || b)=true)∧(∀ b,(false || b)=b)∧(∀ b,(b || true)=true)∧(∀ b,(b || false)=b)∧(∀ b,(true && b)=b)∧(∀ b,(false && b)=false)∧(∀ b,(b && true)=b)∧(∀ b,(b && false)=false)∧
 (!true)=false∧(!false)=true∧(∀ b,(!!b)=b)∧((false=true)=False)∧(∀ (α β:Type) (a:α) (f:α→Option β),(some a).bind f=f a)∧
 (∀ (α β γ:Type) (x:Option α) (f:α→Option β) (g:β→Option γ),(x.bind f).bind g=x.bind fun y=>(f y).bind g):=
 ⟨Bool.true_or,Bool.false_or,Bool.or_true,Bool.or_false,Bool.true_and,Bool.false_and,Bool.and_true,Bool.and_false,rfl,rfl,Bool.not_not,by simp,fun _ _ _ _=>rfl,fun _ _ _ x f g=>Option.bind_assoc x f g⟩
attribute [go_sem] NG SH SI Qs s_op SK s_call NL L9 Qt Mb NN SM SN SO Qv SQ SR SS Qw SU g_call Mc AO.core AI.kind AO.kind eJ
attribute [go_sem] Ma IW D4 D5 D6 D7 AB AE AG AH Gh Gi D8 LK Io
attribute [go_sem] D3 AJ D0 D1 D2 AL AN AP Gj Gk LJ F3 LF Ij LG Ik LH Il F2 LI Ip DB Iq
attribute [go_sem] F8 F9 Ga Gb Gc Gd Ge Gf Gg DF DG DH DI DJ DK DL DM DN DO DP DQ DR DS DT DU DV DW DX DY DZ IC ID D9 Ea Eb Ec Ed Ee Gl Gm Ef Eg Eh IE IF Ei Gn Gp AQ AR AS AT IG II Ej Ek El Em En Eo Ep Er Es BR BS Et Eu Ev Ew LV LW Ey Ez EA BT BU LX LY LZ L0 BV BW BX BY B0 B1 B2 B3 B4 B5 B6 B7 B8 B9 EB EC ED EE L1 L2 Ca Cb L3 L4 IJ IK IL IM IN IP IQ IS IT Gq Gr Gs Gt Gu EF EG IU IV Gv L8 Gw L5 L6 L7
attribute [go_sem] List.map_cons List.map_nil List.getElem?_cons_zero List.getElem?_cons_succ List.length_cons List.length_nil List.set_cons_zero List.set_cons_succ List.take_succ_cons List.take_zero List.take_nil List.drop_succ_cons List.drop_zero List.drop_nil List.cons_append List.nil_append List.append_nil Nat.zero_add Nat.add_zero Option.map_some Option.map_none
attribute [go_sem] Bool.not_false Bool.not_true List.length_map List.getElem?_map Int.toNat_natCast Int.natCast_nonneg Int.toNat_zero and_self and_true true_and
attribute [go_sem_proc ↓] reduceIte
attribute [go_sem_proc] Int.reduceLE reduceCtorEq Nat.reduceEqDiff Nat.reduceLeDiff Nat.reduceAdd Nat.reduceMul Nat.reduceSub Nat.reduceLT
theorem cy {b:Bool} {A C:Prop} (h1:b=true→A) (h:b=true:=by assumption) : @CB (.bool b) ⟨A,C⟩:=NH h h1
theorem cz {b:Bool} {A C:Prop} (h1:b=false→C) (h:b=false:=by assumption) : @CB (.bool b) ⟨A,C⟩:=NK h h1
theorem cA {b:Bool} {A C:Prop} (h1:b=true→A) (h2:b=false→C) : @CB (.bool b) ⟨A,C⟩:=⟨h1,h2⟩
theorem aM {a b:Prop} (x:a) (y:b):a∧b:=⟨x,y⟩
theorem c9 {α:Type _} (a b:α):(some a=some b)=(a=b):=Option.some.injEq a b
theorem da {α:Sort _} {p:α→Prop} {a:α} : (∃ x,a=x∧p x)↔p a:=exists_eq_left'
theorem vf {n m:Nat} (h:Nat.ble n m=true):n≤m:=Nat.le_of_ble_eq_true h
theorem aJ {n m:Nat} {res:List (Nat×Option (Bool×Nat))} {d:D} {s':St} {e:Exit} {tm:Tm} {s:St} {Q:Exit→Tm→St→Prop} (hQ:nE n m res d s'=Q) (h : ∃ l,ay res tm s=some l∧Wk ((az l).fg n m) d∧fK (s.cut n m).au s'.au∧(s.cut n m).av=s'.av) (he:e = .ret∨e = .normal:=by first | exact .inl rfl | exact .inr rfl):Q e tm s:=by cases he with | inl x=>cases x;exact Qq hQ h | inr x=>cases x;exact Qr hQ h
theorem lq {p:Prop} (h:p:=by repeat' (first | exact Ok.out | with_reducible refine aM ?_ ?_ | (simp;done))):p:=h
theorem bo {p:Prop} (h:p:=by repeat' (first | exact Ok.out | with_reducible refine aM ?_ ?_)):p:=h
theorem jE {p:Prop} (h:p:=by(try cases h);simp only [ay,az,c9,da,go_sem,hD,hJ,hP,hY];repeat' (first | exact Ok.out | with_reducible refine aM ?_ ?_ | (simp;done))):p:=h
theorem RT {p:Prop} (h:p:=by simp only [go_sem,hD,hJ,hP,hY];repeat' (first | exact Ok.out | with_reducible refine aM ?_ ?_)):p:=h
theorem dD {P:Program} {B:fh} {nt:Nat} {a:AC} {Q:Exit→Tm→St→Prop} {tm bh:Tm} {s:St} {jv:List (List D)} (n m:Nat) (h:bp P B nt a Q bh ⟨jv,(s.cut n m).av⟩) (hn:B.s.au.length≤n:=by rw [hB];exact vf rfl) (hm:B.s.av.length≤m:=by rw [hB];exact vf rfl) (ht:qk tm n m bh:=by exact RT) (ho:fK (s.cut n m).au jv:=by exact RT):bp P B nt a Q tm s:=bp.re bh jv n m hn hm ht ho h
theorem dn {P:Program} {B:fh} {nt:Nat} {a:AC} {Q:Exit→Tm→St→Prop} {tm bh:Tm} {s:St} {jv:List (List D)} (n m:Nat) (ht:qk tm n m bh) (ho:fK (s.cut n m).au jv) (h:bp P B nt a Q bh ⟨jv,(s.cut n m).av⟩) (hn:B.s.au.length≤n:=by rw [hB];exact vf rfl) (hm:B.s.av.length≤m:=by rw [hB];exact vf rfl):bp P B nt a Q tm s:=bp.re bh jv n m hn hm ht ho h
theorem bZ:0<1∧0<1∧0<1∧0<1:=⟨Nat.zero_lt_one,Nat.zero_lt_one,Nat.zero_lt_one,Nat.zero_lt_one⟩
end Go.Abs

/-! Types -/

namespace Go.Abs
mutual
theorem EH (n m:Nat) : ∀ d,D.ok 0 0 d=true→D.fg n m d=d
 | .junk,_=>by simp [D.fg]
 | .int k n,_=>by simp [D.fg]
 | .bool b,_=>by simp [D.fg]
 | .str l,_=>by simp [D.fg]
 | .dT,_=>by simp [D.fg]
 | .val v,_=>by simp [D.fg]
 | .dU T o,h=>by simp [D.ok]at h
 | .eR o,h=>by simp [D.ok]at h
 | .eW f cs,h=>by
  simp only [D.ok]at h
  simp only [D.fg,fw n m cs h]
 | .ptr o f,h=>by simp [D.ok]at h
 | .cV r f,h=>by
  simp only [D.ok]at h
  simp only [D.fg,fw n m r h]
 | .slice g z rows,h=>by
  simp only [D.ok,Bool.and_eq_true]at h
  simp only [D.fg,AV n m rows h.2]
  cases g with
  | tok t y=>simp [Tag.ok]at h
  | full=>rfl
  | shared=>rfl
 | .agg cs,h=>by
  simp only [D.ok]at h
  simp only [D.fg,fw n m cs h]
 | .tuple cs,h=>by
  simp only [D.ok]at h
  simp only [D.fg,fw n m cs h]
theorem fw (n m:Nat) : ∀ l,D.bE 0 0 l=true→D.fk n m l=l
 | [],_=>by simp [D.fk]
 | d::r,h=>by
  simp only [D.bE,Bool.and_eq_true]at h
  simp only [D.fk,EH n m d h.1,fw n m r h.2]
theorem AV (n m:Nat) : ∀ l,D.gM 0 0 l=true→D.gL n m l=l
 | [],_=>by simp [D.gL]
 | d::r,h=>by
  simp only [D.gM,Bool.and_eq_true]at h
  simp only [D.gL,fw n m d h.1,AV n m r h.2]
end
theorem fi {α:Type} {f:α→List D} (h : ∀ x,D.bE 0 0 (f x)=true) (l:List α):D.gM 0 0 (l.map f)=true:=by
 simp [Am,h]
theorem jF {α:Type} {f:α→List D} (h : ∀ x,D.bE 0 0 (f x)=true) (n m:Nat) (l:List α):D.gL n m (l.map f)=l.map f:=AV n m _ (fi h l)
theorem Cy (n m:Nat) : ∀ a b,D.gL n m (a++b)=D.gL n m a++D.gL n m b
 | [],b=>by simp [D.gL]
 | x::a,b=>by simp [D.gL,Cy n m a b]
abbrev aD:=List UInt8
structure lI where
 kind:Int
 text:aD
 n:Int
 pos:Int
deriving DecidableEq
structure Ex where
 op:Int
 n:Int
 name:aD
 kids:List Ex
structure Ar where
 ref:Bool
 name:aD
 x:Ex
structure Sm where
 id:Int
 kind:Int
 labels:List aD
 name:aD
 proc:aD
 x:Ex
 has:Bool
 args:List Ar
 aZ:List Sm
 aQ:List Sm
structure Pm where
 name:aD
 ref:Bool
structure Pc where
 name:aD
 params:List Pm
 vars:List aD
 body:List Sm
 fin:List aD
structure Pg where
 globals:List aD
 procs:List Pc
def mC:Ex:=⟨0,0,[],[]⟩
def Ve:Ar:=⟨false,[],mC⟩
def AW:Sm:=⟨0,0,[],[],[],mC,false,[],[],[]⟩
def Gx:Pg:=⟨[],[]⟩
def encStr (s:aD):List D:= [.str s]
def gd (t:lI):List D:= [.int .i64 t.kind, .str t.text, .int .i64 t.n, .int .i64 t.pos]
def sl (z:Nat) (rows:List (List D)):D:= .slice .shared z rows
mutual
def bC:Ex→List D
 | ⟨op,n,name,kids⟩=> [.int .i64 op, .int .i64 n, .str name, .slice .shared 4 (pC kids)]
def pC:List Ex→List (List D)
 | []=> []
 | x::l=>bC x::pC l
end
theorem yy : ∀ l,pC l=l.map bC
 | []=>by simp [pC]
 | x::l=>by simp [pC,yy l]
theorem fG (x:Ex):bC x = [.int .i64 x.op, .int .i64 x.n, .str x.name, .slice .shared 4 (x.kids.map bC)]:=by
 cases x;simp [bC,yy]
def dh (a:Ar):List D:= [.bool a.ref, .str a.name, .int .i64 a.x.op, .int .i64 a.x.n, .str a.x.name, .slice .shared 4 (a.x.kids.map bC)]
mutual
def bd:Sm→List D
 | ⟨id,kind,labels,name,proc,x,has,args,aZ,aQ⟩=> [.int .i64 id, .int .i64 kind, .slice .shared 1 (labels.map encStr), .str name, .str proc,
  .int .i64 x.op, .int .i64 x.n, .str x.name, .slice .shared 4 (x.kids.map bC), .bool has, .slice .shared 6 (args.map dh), .slice .shared 13 (ou aZ), .slice .shared 13 (ou aQ)]
def ou:List Sm→List (List D)
 | []=> []
 | x::l=>bd x::ou l
end
theorem yz : ∀ l,ou l=l.map bd
 | []=>by simp [ou]
 | x::l=>by simp [ou,yz l]
theorem cB (s:Sm):bd s = [.int .i64 s.id, .int .i64 s.kind, .slice .shared 1 (s.labels.map encStr), .str s.name, .str s.proc,
 .int .i64 s.x.op, .int .i64 s.x.n, .str s.x.name, .slice .shared 4 (s.x.kids.map bC), .bool s.has, .slice .shared 6 (s.args.map dh), .slice .shared 13 (s.aZ.map bd), .slice .shared 13 (s.aQ.map bd)]:=by
 cases s;simp [bd,yz]
def fq (p:Pm):List D:= [.str p.name, .bool p.ref]
def bL (p:Pc):List D:= [.str p.name, .slice .shared 2 (p.params.map fq), .slice .shared 1 (p.vars.map encStr), .slice .shared 13 (p.body.map bd), .slice .shared 1 (p.fin.map encStr)]
def bN (p:Pg):List D:= [.slice .shared 1 (p.globals.map encStr), .slice .shared 5 (p.procs.map bL)]
theorem NO (x:lI):(gd x).length=4:=nd rfl
theorem Md (x:lI):List.take 4 (gd x)=gd x:=nd rfl
theorem Me (x:lI):List.drop 4 (gd x) = []:=nd rfl
theorem Gy (x:lI):(gd x)[0]? = some (.int .i64 x.kind):=nd rfl
theorem Gz (x:lI):(gd x)[1]? = some (.str x.text):=nd rfl
theorem GC (x:lI):(gd x)[2]? = some (.int .i64 x.n):=nd rfl
theorem GD (x:lI):(gd x)[3]? = some (.int .i64 x.pos):=nd rfl
theorem Qx (wE:Int) (KU:aD) (n_:Int) (NQ:Int):gd ⟨wE,KU,n_,NQ⟩ = [.int .i64 wE, .str KU, .int .i64 n_, .int .i64 NQ]:=by simp only [gd]
theorem KV (x:Ex):(bC x).length=4:=by simp only [fG];rfl
theorem NR (x:Ex):List.take 4 (bC x)=bC x:=by simp only [fG];rfl
theorem NS (x:Ex):List.drop 4 (bC x) = []:=by simp only [fG];rfl
theorem IX (x:Ex):(bC x)[0]? = some (.int .i64 x.op):=by simp only [fG];rfl
theorem IY (x:Ex):(bC x)[1]? = some (.int .i64 x.n):=by simp only [fG];rfl
theorem IZ (x:Ex):(bC x)[2]? = some (.str x.name):=by simp only [fG];rfl
theorem I0 (x:Ex):(bC x)[3]? = some (.slice .shared 4 (x.kids.map bC)):=by simp only [fG];rfl
theorem SV (RU:Int) (n_:Int) (kI:aD) (KW:List Ex):bC ⟨RU,n_,kI,KW⟩ = [.int .i64 RU, .int .i64 n_, .str kI, .slice .shared 4 (KW.map bC)]:=by simp only [fG]
theorem Qy (x:Ar):(dh x).length=6:=nd rfl
theorem NT (x:Ar):List.take 6 (dh x)=dh x:=nd rfl
theorem NU (x:Ar):List.drop 6 (dh x) = []:=nd rfl
theorem I1 (x:Ar):(dh x)[0]? = some (.bool x.ref):=nd rfl
theorem I2 (x:Ar):(dh x)[1]? = some (.str x.name):=nd rfl
theorem I3 (x:Ar):(dh x)[2]? = some (.int .i64 x.x.op):=nd rfl
theorem I4 (x:Ar):(dh x)[3]? = some (.int .i64 x.x.n):=nd rfl
theorem I5 (x:Ar):(dh x)[4]? = some (.str x.x.name):=nd rfl
theorem I6 (x:Ar):(dh x)[5]? = some (.slice .shared 4 (x.x.kids.map bC)):=nd rfl
theorem I7 (x:Ar):List.take 4 (List.drop 2 (dh x))=bC x.x:=by simp only [dh,fG];rfl
theorem SW (AX:Bool) (kI:aD) (x_:Ex):dh ⟨AX,kI,x_⟩ = [.bool AX, .str kI, .int .i64 x_.op, .int .i64 x_.n, .str x_.name, .slice .shared 4 (x_.kids.map bC)]:=by simp only [dh]
theorem zK (x:Sm):(bd x).length=13:=by simp only [cB];rfl
theorem NV (x:Sm):List.take 13 (bd x)=bd x:=by simp only [cB];rfl
theorem NW (x:Sm):List.drop 13 (bd x) = []:=by simp only [cB];rfl
theorem I8 (x:Sm):(bd x)[0]? = some (.int .i64 x.id):=by simp only [cB];rfl
theorem I9 (x:Sm):(bd x)[1]? = some (.int .i64 x.kind):=by simp only [cB];rfl
theorem Ja (x:Sm):(bd x)[2]? = some (.slice .shared 1 (x.labels.map encStr)):=by simp only [cB];rfl
theorem Jb (x:Sm):(bd x)[3]? = some (.str x.name):=by simp only [cB];rfl
theorem Jc (x:Sm):(bd x)[4]? = some (.str x.proc):=by simp only [cB];rfl
theorem Jd (x:Sm):(bd x)[5]? = some (.int .i64 x.x.op):=by simp only [cB];rfl
theorem Je (x:Sm):(bd x)[6]? = some (.int .i64 x.x.n):=by simp only [cB];rfl
theorem Jf (x:Sm):(bd x)[7]? = some (.str x.x.name):=by simp only [cB];rfl
theorem Jg (x:Sm):(bd x)[8]? = some (.slice .shared 4 (x.x.kids.map bC)):=by simp only [cB];rfl
theorem Jh (x:Sm):(bd x)[9]? = some (.bool x.has):=by simp only [cB];rfl
theorem GF (x:Sm):(bd x)[10]? = some (.slice .shared 6 (x.args.map dh)):=by simp only [cB];rfl
theorem GG (x:Sm):(bd x)[11]? = some (.slice .shared 13 (x.aZ.map bd)):=by simp only [cB];rfl
theorem GH (x:Sm):(bd x)[12]? = some (.slice .shared 13 (x.aQ.map bd)):=by simp only [cB];rfl
theorem Ji (x:Sm):List.take 4 (List.drop 5 (bd x))=bC x.x:=by simp only [cB,fG];rfl
theorem SX (RV:Int) (wE:Int) (Cz:List aD) (kI:aD) (KX:aD) (x_:Ex) (NY:Bool) (KY:List Ar) (NZ:List Sm) (N0:List Sm):bd ⟨RV,wE,Cz,kI,KX,x_,NY,KY,NZ,N0⟩ = [.int .i64 RV, .int .i64 wE, .slice .shared 1 (Cz.map encStr), .str kI, .str KX, .int .i64 x_.op, .int .i64 x_.n, .str x_.name, .slice .shared 4 (x_.kids.map bC), .bool NY, .slice .shared 6 (KY.map dh), .slice .shared 13 (NZ.map bd), .slice .shared 13 (N0.map bd)]:=by simp only [cB]
theorem Qz (x:Pm):(fq x).length=2:=nd rfl
theorem N1 (x:Pm):List.take 2 (fq x)=fq x:=nd rfl
theorem N2 (x:Pm):List.drop 2 (fq x) = []:=nd rfl
theorem Jj (x:Pm):(fq x)[0]? = some (.str x.name):=nd rfl
theorem Jk (x:Pm):(fq x)[1]? = some (.bool x.ref):=nd rfl
theorem SY (kI:aD) (AX:Bool):fq ⟨kI,AX⟩ = [.str kI, .bool AX]:=by simp only [fq]
theorem QA (x:Pc):(bL x).length=5:=nd rfl
theorem N3 (x:Pc):List.take 5 (bL x)=bL x:=nd rfl
theorem N4 (x:Pc):List.drop 5 (bL x) = []:=nd rfl
theorem Jl (x:Pc):(bL x)[0]? = some (.str x.name):=nd rfl
theorem Jm (x:Pc):(bL x)[1]? = some (.slice .shared 2 (x.params.map fq)):=nd rfl
theorem Jn (x:Pc):(bL x)[2]? = some (.slice .shared 1 (x.vars.map encStr)):=nd rfl
theorem Jo (x:Pc):(bL x)[3]? = some (.slice .shared 13 (x.body.map bd)):=nd rfl
theorem Jp (x:Pc):(bL x)[4]? = some (.slice .shared 1 (x.fin.map encStr)):=nd rfl
theorem SZ (kI:aD) (CA:List Pm) (KZ:List aD) (K0:List Sm) (N5:List aD):bL ⟨kI,CA,KZ,K0,N5⟩ = [.str kI, .slice .shared 2 (CA.map fq), .slice .shared 1 (KZ.map encStr), .slice .shared 13 (K0.map bd), .slice .shared 1 (N5.map encStr)]:=by simp only [bL]
theorem QB (x:Pg):(bN x).length=2:=nd rfl
theorem N6 (x:Pg):List.take 2 (bN x)=bN x:=nd rfl
theorem N7 (x:Pg):List.drop 2 (bN x) = []:=nd rfl
theorem Jq (x:Pg):(bN x)[0]? = some (.slice .shared 1 (x.globals.map encStr)):=nd rfl
theorem Jr (x:Pg):(bN x)[1]? = some (.slice .shared 5 (x.procs.map bL)):=nd rfl
theorem S1 (AY:List aD) (GK:List Pc):bN ⟨AY,GK⟩ = [.slice .shared 1 (AY.map encStr), .slice .shared 5 (GK.map bL)]:=by simp only [bN]
attribute [go_sem] NO Md Me Gy Gz GC GD Qx KV NR NS IX IY IZ I0 SV Qy NT NU I1 I2 I3 I4 I5 I6 I7 SW zK NV NW I8 I9 Ja Jb Jc Jd Je Jf Jg Jh GF GG GH Ji SX Qz N1 N2 Jj Jk SY QA N3 N4 Jl Jm Jn Jo Jp SZ QB N6 N7 Jq Jr S1
theorem wF (s:aD):D.bE 0 0 (encStr s)=true:=rfl
theorem K1 (t:lI):D.bE 0 0 (gd t)=true:=rfl
mutual
theorem ky : ∀ x,D.bE 0 0 (bC x)=true
 | ⟨op,n,name,kids⟩=>by simp [bC,D.bE,D.ok,Tag.ok,K3 kids]
theorem K3 : ∀ l,D.gM 0 0 (pC l)=true
 | []=>rfl
 | x::l=>by simp [pC,D.gM,ky x,K3 l]
end
theorem EI (a:Ar):D.bE 0 0 (dh a)=true:=by simp [dh,D.bE,D.ok,Tag.ok,fi ky]
mutual
theorem lX : ∀ x,D.bE 0 0 (bd x)=true
 | ⟨id,kind,labels,name,proc,x,has,args,aZ,aQ⟩=>by simp [bd,D.bE,D.ok,Tag.ok,EJ aZ,EJ aQ,fi wF,fi ky,fi EI]
theorem EJ : ∀ l,D.gM 0 0 (ou l)=true
 | []=>rfl
 | x::l=>by simp [ou,D.gM,lX x,EJ l]
end
theorem EK (p:Pm):D.bE 0 0 (fq p)=true:=rfl
theorem tM (p:Pc):D.bE 0 0 (bL p)=true:=by simp [bL,D.bE,D.ok,Tag.ok,fi EK,fi wF,fi lX]
theorem jh (p:Pg):D.bE 0 0 (bN p)=true:=by simp [bN,D.bE,D.ok,Tag.ok,fi wF,fi tM]
theorem N8 (n m:Nat) (x:lI):D.fk n m (gd x)=gd x:=fw n m _ (K1 x)
theorem QC (n m:Nat) (x:Ex):D.fk n m (bC x)=bC x:=fw n m _ (ky x)
theorem QD (n m:Nat) (x:Ar):D.fk n m (dh x)=dh x:=fw n m _ (EI x)
theorem QE (n m:Nat) (x:Sm):D.fk n m (bd x)=bd x:=fw n m _ (lX x)
theorem QF (n m:Nat) (x:Pm):D.fk n m (fq x)=fq x:=fw n m _ (EK x)
theorem QG (n m:Nat) (x:Pc):D.fk n m (bL x)=bL x:=fw n m _ (tM x)
theorem QH (n m:Nat) (x:Pg):D.fk n m (bN x)=bN x:=fw n m _ (jh x)
attribute [go_sem] N8 QC QD QE QF QG QH
theorem e9 (l:List aD):D.gM 0 0 (l.map encStr)=true:=fi wF l
theorem K4 (l:List Ex):D.gM 0 0 (l.map bC)=true:=fi ky l
theorem zL (l:List Ar):D.gM 0 0 (l.map dh)=true:=fi EI l
theorem o6 (l:List Sm):D.gM 0 0 (l.map bd)=true:=fi lX l
theorem QI (l:List Pm):D.gM 0 0 (l.map fq)=true:=fi EK l
theorem zM (l:List Pc):D.gM 0 0 (l.map bL)=true:=fi tM l
theorem GM (n m:Nat) (l:List aD):D.gL n m (l.map encStr)=l.map encStr:=jF wF n m l
theorem N9 (n m:Nat) (l:List lI):D.gL n m (l.map gd)=l.map gd:=jF K1 n m l
theorem QJ (n m:Nat) (l:List Ex):D.gL n m (l.map bC)=l.map bC:=jF ky n m l
theorem QK (n m:Nat) (l:List Ar):D.gL n m (l.map dh)=l.map dh:=jF EI n m l
theorem QL (n m:Nat) (l:List Sm):D.gL n m (l.map bd)=l.map bd:=jF lX n m l
theorem QM (n m:Nat) (l:List Pm):D.gL n m (l.map fq)=l.map fq:=jF EK n m l
theorem K5 (n m:Nat) (l:List Pc):D.gL n m (l.map bL)=l.map bL:=jF tM n m l
theorem Oa (x:Ex) (r:List D):bC x++r = .int .i64 x.op:: .int .i64 x.n:: .str x.name:: .slice .shared 4 (x.kids.map bC)::r:=by rw [fG];rfl
theorem Mf (d:D) (x:Ex):d::bC x = [d, .int .i64 x.op, .int .i64 x.n, .str x.name, .slice .shared 4 (x.kids.map bC)]:=by rw [fG]
attribute [go_sem] Oa Mf
theorem QN:((0:Nat):Int)=0:=nd rfl
theorem QO:((1:Nat):Int)=1:=nd rfl
theorem QP:((2:Nat):Int)=2:=nd rfl
attribute [go_sem] QN QO QP Cy List.length_append List.map_append encStr mC Ve AW Gx GM N9 QJ QK QL QM K5
theorem mx (a b:Nat):(if(b:Int) > (a:Int)then(b:Int)else(a:Int))=((max a b:Nat):Int):=by split <;> omega
theorem dj {x:Int} (h1 : -9223372036854775808≤x) (h2:x<9223372036854775808):IntKind.wrap .i64 x=x:=by
 rw [IntKind.wrap_i64];omega
@[go_sem] theorem aF {n:Nat} (h:n<4611686018427387904):IntKind.wrap .i64 ((n:Int)+1)=((n+1:Nat):Int):=by
 rw [dj] <;> omega
def inc (n:Nat):Option Nat:=if n<4611686018427387904 then some (n+1)else none
def S2 (n:Int):Option Int:=if -4611686018427387904<n∧n<4611686018427387904 then some (n+1)else none
@[go_sem] theorem RW {n:Nat} (h:n+1<4611686018427387904):IntKind.wrap .i64 ((n:Int)+1)=((n+1:Nat):Int):=by
 rw [dj] <;> omega
@[go_sem] theorem RX {n:Nat} (h:n<4611686018427387904):IntKind.wrap .i64 ((n:Int)+2)=((n+2:Nat):Int):=by
 rw [dj] <;> omega
def Oc {α:Type} (l:List α) (i:Nat):Option α:=if i<4611686018427387904 then l[i]? else none
def push {α:Type} (k:Nat) (l:List α) (x:α):Option (List α):=if(l.length+1)*k≤bF then some (l++ [x])else none
end Go.Abs

/-! Mir -/

namespace Go.Abs
mutual
def Ex.size:Ex→Nat
 | ⟨_,_,_,kids⟩=>1+Ex.aS kids
def Ex.aS:List Ex→Nat
 | []=>0
 | x::l=>1+x.size+Ex.aS l
end
mutual
def Ex.depth:Ex→Nat
 | ⟨_,_,_,kids⟩=>Ex.lJ kids+1
def Ex.lJ:List Ex→Nat
 | []=>0
 | x::l=>max x.depth (Ex.lJ l)
end
def Od (x:Ex):Option Int:=if x.size<4611686018427387904 then some (x.depth:Int)else none
theorem Ex.b7 {x:Ex} : ∀ {l:List Ex},x∈l→x.size<Ex.aS l
 | y::l,h=>by
  simp only [Ex.aS]
  rcases List.mem_cons.1 h with rfl | h
  ·omega
  ·have:=Ex.b7 h;omega
theorem Ex.cZ : ∀ (l:List Ex),l.length≤Ex.aS l
 | []=>Nat.le_refl _
 | x::l=>by simp only [Ex.aS,List.length_cons];have:=Ex.cZ l;omega
def EL (t:lI):Int×Int:=
 if t.kind != 4 then(0,0)
 else if t.text == [124,124]then(17,1)
 else if t.text == [38,38]then(16,2)
 else if t.text == [61,61]then(14,3)
 else if t.text == [33,61]then(15,3)
 else if t.text == [60]then(10,4)
 else if t.text == [60,61]then(11,4)
 else if t.text == [62]then(12,4)
 else if t.text == [62,61]then(13,4)
 else if t.text == [43]then(8,5)
 else if t.text == [45]then(9,5)
 else if t.text == [42]then(5,6)
 else if t.text == [47]then(6,6)
 else if t.text == [37]then(7,6)
 else(0,0)
structure Rd where
 l:List lI
 i:Nat
 code:Int
 AZ:Int
 n:Nat
abbrev Rd.good (r:Rd):Bool:=r.code==0
def Rd.pD (r:Rd):Option lI:=(Oc r.l r.i).bind fun t=>if decide (0≤t.kind) && decide (t.kind≤4)then some t else none
def Rd.bad (c:Int) (r:Rd):Option Rd:=if r.good then r.pD.bind fun t=>some {r with code:=c,AZ:=t.pos}else some r
def Rd.is (text:aD) (r:Rd):Option Bool:=r.pD.bind fun t=>some ((t.kind==3 || t.kind==4) && t.text==text)
def Rd.take (text:aD) (r:Rd):Option (Bool×Rd):=
 if !r.good then some (false,r)else(r.is text).bind fun b=>if !b then some (false,r)else some (true,{r with i:=r.i+1})
def Rd.want (text:aD) (r:Rd):Option Rd:=(r.take text).bind fun p=>if !p.1 then p.2.bad 3 else some p.2
def Rd.name (room:Bool) (r:Rd):Option (aD×Rd):=
 r.pD.bind fun t=>if !r.good || t.kind != 1 then(r.bad 3).bind fun r=>some ([],r)else if !room then(r.bad 4).bind fun r=>some ([],r)else some (t.text,{r with i:=r.i+1})
def Rd.on (r:Rd):Rd:= {r with i:=r.i+1}
mutual
def Rd.one:Nat→Rd→Option (Ex×Rd)
 | 0,_=>none
 | n+1,r=>r.pD.bind fun t=>
  if !r.good then some (mC,r)
  else if t.kind==2 then some (⟨1,t.n,[],[]⟩,{r with i:=r.i+1})
  else if t.kind==1 then some (⟨2,0,t.text,[]⟩,{r with i:=r.i+1})
  else(r.take [40]).bind fun p=>
   if p.1 then(Rd.two n 1 p.2).bind fun x=>(x.2.want [41]).bind fun r=>some (x.1,r)
   else(p.2.take [45]).bind fun p=>
    if p.1 then(Rd.one n p.2).bind fun x=>some (⟨3,0,[],[x.1]⟩,x.2)
    else(p.2.take [33]).bind fun p=>
     if p.1 then(Rd.one n p.2).bind fun x=>some (⟨4,0,[],[x.1]⟩,x.2)
     else(p.2.bad 3).bind fun r=>some (mC,r)
def Rd.two:Nat→Int→Rd→Option (Ex×Rd)
 | 0,_,_=>none
 | n+1,least,r=>(Rd.one n r).bind fun x=>Rd.Oe n least x.1 x.2
def Rd.Oe:Nat→Int→Ex→Rd→Option (Ex×Rd)
 | 0,_,_,_=>none
 | n+1,least,x,r=>
  if r.good then r.pD.bind fun t=>
   if decide ((EL t).2<least) || (EL t).1==0 then some (x,r)
   else(Rd.two n ((EL t).2+1) {r with i:=r.i+1}).bind fun y=>Rd.Oe n least ⟨(EL t).1,0,[],[x,y.1]⟩ y.2
  else some (x,r)
end
def Rd.whole (n:Nat) (r:Rd):Option (Ex×Rd):=
 r.pD.bind fun t=>(Rd.two n 1 r).bind fun x=>
  if x.2.good then(Od x.1).bind fun d=>if decide (d > 20)then some (x.1,{x.2 with code:=4,AZ:=t.pos})else some (x.1,x.2)
  else some (x.1,x.2)
def Rd.names:Nat→List aD→Int→Rd→Option (List aD×Rd)
 | 0,_,_,_=>none
 | n+1,l,Og,r=>
  if r.good then(r.name (decide ((l.length:Int)<Og))).bind fun p=>(push 17 l p.1).bind fun l=>(p.2.take [44]).bind fun q=>
   if !q.1 then(q.2.want [59]).bind fun r=>some (l,r)else Rd.names n l Og q.2
  else some (l,r)
def Rd.ahead (sign:aD) (r:Rd):Option Bool:=
 if r.good then r.pD.bind fun t=>if t.kind==1 then(Oc r.l (r.i+1)).bind fun u=>some (u.kind==4 && u.text==sign)else some false
 else some false
def Rd.labels:Nat→List aD→Rd→Option (List aD×Rd)
 | 0,_,_=>none
 | n+1,l,r=>(r.ahead [58]).bind fun b=>if b then r.pD.bind fun t=>(push 17 l t.text).bind fun l=>Rd.labels n l {r with i:=r.i+2}else some (l,r)
def Rd.Oh (r:Rd):Option Bool:=
 r.pD.bind fun t=>some (if t.kind==1 then true else if t.kind != 3 then false
  else t.text == [105,102] || t.text == [119,104,105,108,101] || t.text == [98,114,101,97,107] || t.text == [99,111,110,116,105,110,117,101] || t.text == [114,101,116,117,114,110] || t.text == [103,111,116,111] || t.text == [114,101,97,100] || t.text == [112,114,105,110,116])
def Rd.EM (m:Nat):Nat→List Ar→Rd→Option (List Ar×Rd)
 | 0,_,_=>none
 | n+1,l,r=>
  if r.good then(r.take [114,101,102]).bind fun p=>
   if p.1 then(p.2.name true).bind fun x=>(push 81 l ⟨true,x.1,mC⟩).bind fun l=>(x.2.take [44]).bind fun c=>if !c.1 then some (l,c.2)else Rd.EM m n l c.2
   else(Rd.whole m p.2).bind fun x=>(push 81 l ⟨false,[],x.1⟩).bind fun l=>(x.2.take [44]).bind fun c=>if !c.1 then some (l,c.2)else Rd.EM m n l c.2
  else some (l,r)
def Rd.other (sign:aD) (r:Rd):Option Bool:=if r.good then(r.is sign).bind fun b=>some !b else some false
def Rd.call (m:Nat) (name proc:aD) (r:Rd):Option (Sm×Rd):=
 (r.want [40]).bind fun r=>(r.other [41]).bind fun b=>
  if b then(Rd.EM m m [] r).bind fun q=>(q.2.want [41]).bind fun r=>(r.want [59]).bind fun r=>some (⟨0,4,[],name,proc,mC,false,q.1,[],[]⟩,r)
  else(r.want [41]).bind fun r=>(r.want [59]).bind fun r=>some (⟨0,4,[],name,proc,mC,false,[],[],[]⟩,r)
def Rd.named (m:Nat) (r:Rd):Option (Sm×Rd):=
 (r.name true).bind fun x=>(x.2.is [40]).bind fun b=>
  if b then Rd.call m [] x.1 x.2
  else(x.2.want [61]).bind fun r=>(r.ahead [40]).bind fun b=>
   if b then(r.name true).bind fun y=>Rd.call m x.1 y.1 y.2
   else(Rd.whole m r).bind fun y=>(y.2.want [59]).bind fun r=>some (⟨0,1,[],x.1,[],y.1,false,[],[],[]⟩,r)
def Rd.plain (m:Nat) (word:aD) (r:Rd):Option (Sm×Rd):=
 if word == [98,114,101,97,107]then some (⟨0,7,[],[],[],mC,false,[],[],[]⟩,r)
 else if word == [99,111,110,116,105,110,117,101]then some (⟨0,8,[],[],[],mC,false,[],[],[]⟩,r)
 else if word == [114,101,116,117,114,110]then(r.is [59]).bind fun b=>
  if !b then(Rd.whole m r).bind fun x=>some (⟨0,9,[],[],[],x.1,true,[],[],[]⟩,x.2)else some (⟨0,9,[],[],[],mC,false,[],[],[]⟩,r)
 else if word == [103,111,116,111]then(r.name true).bind fun x=>some (⟨0,10,[],x.1,[],mC,false,[],[],[]⟩,x.2)
 else if word == [114,101,97,100]then(r.name true).bind fun x=>some (⟨0,2,[],x.1,[],mC,false,[],[],[]⟩,x.2)
 else if word == [112,114,105,110,116]then(Rd.whole m r).bind fun x=>some (⟨0,3,[],[],[],x.1,false,[],[],[]⟩,x.2)
 else some (AW,r)
def Rd.head (m:Nat) (r:Rd):Option (Ex×Rd):=(r.want [40]).bind fun r=>(Rd.whole m r).bind fun x=>(x.2.want [41]).bind fun r=>some (x.1,r)
mutual
def Rd.rows (m:Nat):Nat→Int→Bool→Rd→Option ((List Sm×List aD)×Rd)
 | 0,_,_,_=>none
 | n+1,nest,body,r=>Rd.K6 m n nest body [] r
def Rd.K6 (m:Nat):Nat→Int→Bool→List Sm→Rd→Option ((List Sm×List aD)×Rd)
 | 0,_,_,_,_=>none
 | n+1,nest,body,out,r=>
  if r.good then(Rd.labels m [] r).bind fun l=>(l.2.is [125]).bind fun b=>
   if b && (body || (l.1.length:Int)==0)then some ((out,l.1),{l.2 with i:=l.2.i+1})
   else(Rd.stmt m n nest l.2).bind fun s=>(push 209 out {s.1 with labels:=l.1}).bind fun out=>Rd.K6 m n nest body out s.2
  else some (([],[]),r)
def Rd.stmt (m:Nat):Nat→Int→Rd→Option (Sm×Rd)
 | 0,_,_=>none
 | n+1,nest,r=>r.Oh.bind fun b=>
  if !b then(r.bad 3).bind fun r=>some (AW,r)
  else(inc r.n).bind fun k=>
   if decide ((k:Int) > 200) || decide (nest > 12)then(({r with n:=k} : Rd).bad 4).bind fun r=>some (AW,r)
   else({r with n:=k} : Rd).pD.bind fun t=>
    if t.kind==1 then Rd.named m {r with n:=k}
    else if t.text == [105,102]then Rd.choice m n nest {r with n:=k,i:=r.i+1}
    else if t.text == [119,104,105,108,101]then(Rd.head m {r with n:=k,i:=r.i+1}).bind fun x=>(Rd.block m n nest x.2).bind fun b=>some (⟨0,6,[],[],[],x.1,false,[],b.1,[]⟩,b.2)
    else(Rd.plain m t.text {r with n:=k,i:=r.i+1}).bind fun s=>(s.2.want [59]).bind fun r=>some (s.1,r)
def Rd.block (m:Nat):Nat→Int→Rd→Option (List Sm×Rd)
 | 0,_,_=>none
 | n+1,nest,r=>(r.want [123]).bind fun r=>(S2 nest).bind fun k=>(Rd.rows m n k false r).bind fun p=>some (p.1.1,p.2)
def Rd.choice (m:Nat):Nat→Int→Rd→Option (Sm×Rd)
 | 0,_,_=>none
 | n+1,nest,r=>(Rd.head m r).bind fun x=>(Rd.block m n nest x.2).bind fun t=>(t.2.take [101,108,115,101]).bind fun q=>
  if q.1 then(Rd.block m n nest q.2).bind fun e=>some (⟨0,5,[],[],[],x.1,false,[],t.1,e.1⟩,e.2)
  else some (⟨0,5,[],[],[],x.1,false,[],t.1,[]⟩,q.2)
end
def Rd.params:Nat→List Pm→Rd→Option (List Pm×Rd)
 | 0,_,_=>none
 | n+1,l,r=>
  if r.good then(r.take [114,101,102]).bind fun q=>(q.2.name (decide ((l.length:Int)<8))).bind fun x=>(push 25 l ⟨x.1,q.1⟩).bind fun l=>(x.2.take [44]).bind fun c=>
   if !c.1 then some (l,c.2)else Rd.params n l c.2
  else some (l,r)
def Rd.vars (m:Nat):Nat→List aD→Rd→Option (List aD×Rd)
 | 0,_,_=>none
 | n+1,l,r=>(r.take [118,97,114]).bind fun q=>if q.1 then(Rd.names m l 16 q.2).bind fun x=>Rd.vars m n x.1 x.2 else some (l,q.2)
def Rd.K7 (m:Nat) (name:aD) (ps:List Pm) (r:Rd):Option (Pc×Rd):=
 (Rd.vars m m [] r).bind fun v=>(Rd.rows m m 1 true v.2).bind fun b=>some (⟨name,ps,v.1,b.1.1,b.1.2⟩,b.2)
def Rd.proc (m:Nat) (r:Rd):Option (Pc×Rd):=
 (r.name true).bind fun x=>(x.2.want [40]).bind fun r=>(r.other [41]).bind fun b=>
  if b then(Rd.params m [] r).bind fun q=>(q.2.want [41]).bind fun r=>(r.want [123]).bind fun r=>Rd.K7 m x.1 q.1 r
  else(r.want [41]).bind fun r=>(r.want [123]).bind fun r=>Rd.K7 m x.1 [] r
def Rd.globals (m:Nat):Nat→List aD→Rd→Option (List aD×Rd)
 | 0,_,_=>none
 | n+1,l,r=>(r.take [103,108,111,98,97,108]).bind fun q=>if q.1 then(Rd.names m l 16 q.2).bind fun x=>Rd.globals m n x.1 x.2 else some (l,q.2)
def Rd.Oi (r:Rd):Option Bool:=if r.good then r.is [112,114,111,99]else some false
def Rd.GN (r:Rd):Option Bool:=if r.good then r.pD.bind fun t=>some (t.kind != 0)else some false
def Rd.procs (m:Nat):Nat→List Pc→Rd→Option (List Pc×Rd)
 | 0,_,_=>none
 | n+1,l,r=>r.Oi.bind fun b=>
  if b then
   if(l.length:Int)==16 then(r.bad 4).bind fun r=>some (l,r)
   else(Rd.proc m {r with i:=r.i+1}).bind fun x=>(push 113 l x.1).bind fun l=>Rd.procs m n l x.2
  else r.GN.bind fun b=>if b then(r.bad 3).bind fun r=>some (l,r)else some (l,r)
def Rd.program (m:Nat) (r:Rd):Option (Pg×Rd):=(Rd.globals m m [] r).bind fun g=>(Rd.procs m m [] g.2).bind fun q=>some (⟨g.1,q.1⟩,q.2)
mutual
def Ex.beq:Ex→Ex→Bool
 | ⟨op,n,name,kids⟩,⟨Vf,n',EN,K8⟩=>if op != Vf || n != n' || !(name==EN) || (kids.length:Int) != (K8.length:Int)then false else Ex.lz kids K8
def Ex.lz:List Ex→List Ex→Bool
 | [],_=>true
 | _::_,[]=>true
 | x::l,y::l'=>if !Ex.beq x y then false else Ex.lz l l'
end
end Go.Abs

/-! MirTree -/

namespace Go.Abs
def Ar.aS:List Ar→Nat
 | []=>0
 | a::l=>1+a.x.size+Ar.aS l
mutual
def Sm.size:Sm→Nat
 | ⟨_,_,labels,_,_,x,_,args,aZ,aQ⟩=>1+labels.length+x.size+Ar.aS args+Sm.aS aZ+Sm.aS aQ
def Sm.aS:List Sm→Nat
 | []=>0
 | s::l=>1+s.size+Sm.aS l
end
def Pc.size (f:Pc):Nat:=1+f.params.length+f.vars.length+f.fin.length+Sm.aS f.body
def Pc.aS:List Pc→Nat
 | []=>0
 | f::l=>1+f.size+Pc.aS l
def Pg.size (p:Pg):Nat:=1+p.globals.length+Pc.aS p.procs
mutual
def Sm.num (b:Bool) (n:Nat):Sm→Sm×Nat
 | ⟨id,kind,labels,name,proc,x,has,args,aZ,aQ⟩=>
  (⟨if b then((n+1:Nat):Int)else id,kind,labels,name,proc,x,has,args,(Sm.oG b (n+1) aZ).1,(Sm.oG b (Sm.oG b (n+1) aZ).2 aQ).1⟩,(Sm.oG b (Sm.oG b (n+1) aZ).2 aQ).2)
def Sm.oG (b:Bool) (n:Nat):List Sm→List Sm×Nat
 | []=>([],n)
 | s::l=>((Sm.num b n s).1::(Sm.oG b (Sm.num b n s).2 l).1,(Sm.oG b (Sm.num b n s).2 l).2)
end
def Pc.oG (n:Nat):List Pc→List Pc
 | []=> []
 | f::l=> {f with body:=(Sm.oG true n f.body).1}::Pc.oG (Sm.oG true n f.body).2 l
def Pg.number (p:Pg):Pg:= {p with procs:=Pc.oG 0 p.procs}
def Pg.Mg (p:Pg):Option Pg:=if p.size<1073741824 then some p.number else none
theorem Sm.cZ : ∀ (l:List Sm),l.length≤Sm.aS l
 | []=>Nat.le_refl _
 | x::l=>by simp only [Sm.aS,List.length_cons];have:=Sm.cZ l;omega
theorem Ar.cZ : ∀ (l:List Ar),l.length≤Ar.aS l
 | []=>Nat.le_refl _
 | x::l=>by simp only [Ar.aS,List.length_cons];have:=Ar.cZ l;omega
theorem Pc.cZ : ∀ (l:List Pc),l.length≤Pc.aS l
 | []=>Nat.le_refl _
 | x::l=>by simp only [Pc.aS,List.length_cons];have:=Pc.cZ l;omega
theorem Ar.b7 {x:Ar} : ∀ {l:List Ar},x∈l→x.x.size<Ar.aS l
 | y::l,h=>by
  simp only [Ar.aS]
  rcases List.mem_cons.1 h with rfl | h
  ·omega
  ·have:=Ar.b7 h;omega
theorem Sm.b7 {x:Sm} : ∀ {l:List Sm},x∈l→x.size<Sm.aS l
 | y::l,h=>by
  simp only [Sm.aS]
  rcases List.mem_cons.1 h with rfl | h
  ·omega
  ·have:=Sm.b7 h;omega
theorem Pc.b7 {x:Pc} : ∀ {l:List Pc},x∈l→x.size<Pc.aS l
 | y::l,h=>by
  simp only [Pc.aS]
  rcases List.mem_cons.1 h with rfl | h
  ·omega
  ·have:=Pc.b7 h;omega
end Go.Abs

/-! MirFlat -/

namespace Go.Abs
structure Im where
 s:Sm
 proc:Int
 up:Int
 next:Int
 loop:Int
mutual
def Sm.gp:Sm→Nat
 | ⟨_,_,_,_,_,_,_,_,aZ,aQ⟩=>1+Sm.fY aZ+Sm.fY aQ
def Sm.fY:List Sm→Nat
 | []=>0
 | s::l=>s.gp+Sm.fY l
end
mutual
def Im.one (proc up next loop:Int) (out:List Im):Sm→List Im
 | ⟨id,kind,labels,name,pc,x,has,args,aZ,aQ⟩=>
  Im.rows proc ((out.length:Int)+1) (if kind==6 then(out.length:Int)+1 else next) (if kind==6 then(out.length:Int)+1 else loop)
   (Im.rows proc ((out.length:Int)+1) (if kind==6 then(out.length:Int)+1 else next) (if kind==6 then(out.length:Int)+1 else loop) (out++ [⟨⟨id,kind,labels,name,pc,x,has,args,aZ,aQ⟩,proc,up,next,loop⟩]) aZ) aQ
def Im.rows (proc up next loop:Int) (out:List Im):List Sm→List Im
 | []=>out
 | s::l=>Im.rows proc up next loop (Im.one proc up (if l.length=0 then next else(out.length:Int)+1+(s.gp:Int)) loop out s) l
end
theorem Im.Oj (proc up next loop:Int) (out:List Im) (s:Sm):Im.one proc up next loop out s =
 Im.rows proc ((out.length:Int)+1) (if s.kind==6 then(out.length:Int)+1 else next) (if s.kind==6 then(out.length:Int)+1 else loop)
  (Im.rows proc ((out.length:Int)+1) (if s.kind==6 then(out.length:Int)+1 else next) (if s.kind==6 then(out.length:Int)+1 else loop) (out++ [⟨s,proc,up,next,loop⟩]) s.aZ) s.aQ:=by
 cases s;simp only [Im.one]
mutual
theorem Mh (proc up next loop:Int) (out:List Im) : ∀ s:Sm,(Im.one proc up next loop out s).length=out.length+s.gp
 | ⟨id,kind,labels,name,pc,x,has,args,aZ,aQ⟩=>by
  simp only [Im.one,Sm.gp]
  rw [eI,eI]
  simp only [List.length_append,List.length_cons,List.length_nil];omega
theorem eI (proc up next loop:Int) (out:List Im) : ∀ l:List Sm,(Im.rows proc up next loop out l).length=out.length+Sm.fY l
 | []=>rfl
 | s::l=>by
  simp only [Im.rows,Sm.fY]
  rw [eI,Mh];omega
end
mutual
theorem vC : ∀ s:Sm,s.gp≤s.size
 | ⟨_,_,labels,_,_,x,_,args,aZ,aQ⟩=>by
  have:=kZ aZ;have:=kZ aQ
  simp only [Sm.gp,Sm.size];omega
theorem kZ : ∀ l:List Sm,Sm.fY l≤Sm.aS l
 | []=>Nat.le_refl _
 | s::l=>by
  have:=vC s;have:=kZ l
  simp only [Sm.fY,Sm.aS];omega
end
structure Sh where
 L:List Im
 lo:List Int
 hi:List Int
def Sh.go (i:Nat) (h:Sh):List Pc→Sh
 | []=>h
 | f::l=>Sh.go (i+1) ⟨Im.rows i 0 (-1) 0 h.L f.body,h.lo++ [(h.L.length:Int)+1],h.hi++ [((Im.rows i 0 (-1) 0 h.L f.body).length:Int)+1]⟩ l
def Pg.dQ (p:Pg):Sh:=Sh.go 0 ⟨[],[],[]⟩ p.procs
end Go.Abs

/-! Nums -/

namespace Go.Abs
def Mi:Nat:=3
def GQ:Nat:=4
def HO:Nat:=5
def nq:Nat:=6
def K9:Nat:=7
def qO:Nat:=8
def kl:Nat:=9
def P1:Nat:=10
def MN:Nat:=11
def ql:Nat:=12
def sa:Nat:=13
def MO:Nat:=14
def MP:Nat:=15
def iX:Nat:=16
def oH:Nat:=17
def km:Nat:=18
def lP:Nat:=19
def qP:Nat:=20
def sb:Nat:=21
def qQ:Nat:=22
def QQ:Nat:=23
def sc:Nat:=24
def qR:Nat:=25
def fU:Nat:=26
def ey:Nat:=27
def gO:Nat:=28
def sd:Nat:=29
def fL:Nat:=30
def kn:Nat:=31
def jY:Nat:=32
def qS:Nat:=33
def eh:Nat:=34
def kJ:Nat:=35
def bH:Nat:=36
def iY:Nat:=37
def lQ:Nat:=38
def oI:Nat:=39
def qT:Nat:=40
def oJ:Nat:=41
def jw:Nat:=42
def mD:Nat:=43
def fS:Nat:=44
def fZ:Nat:=45
def mE:Nat:=46
def mF:Nat:=47
def lf:Nat:=48
def qU:Nat:=49
def Ol:Nat:=50
def QR:Nat:=51
def n4:Nat:=52
def mH:Nat:=53
def gZ:Nat:=54
def o7:Nat:=55
def gk:Nat:=56
def jG:Nat:=57
def jZ:Nat:=58
def gx:Nat:=59
def gl:Nat:=60
def gS:Nat:=61
def pE:Nat:=62
def eO:Nat:=63
def kK:Nat:=64
def ep:Nat:=65
def iE:Nat:=66
def mI:Nat:=67
def wG:Nat:=68
def La:Nat:=69
def pF:Nat:=70
def pG:Nat:=71
def Mj:Nat:=72
def ji:Nat:=73
def mJ:Nat:=74
def tO:Nat:=75
def se:Nat:=76
def oK:Nat:=77
def jj:Nat:=78
def lg:Nat:=79
def fB:Nat:=80
def tP:Nat:=81
def vU:Nat:=82
def tQ:Nat:=83
def uQ:Nat:=84
def uH:Nat:=85
def q9:Nat:=86
def HP:Nat:=87
def s5:Nat:=88
def vD:Nat:=89
def HQ:Nat:=90
def HR:Nat:=91
def Lb:Nat:=92
def qV:Nat:=93
def k6:Nat:=94
def mK:Nat:=95
def oL:Nat:=96
def lK:Nat:=97
def vV:Nat:=98
def BI:Nat:=99
def Cc:Nat:=100
def s6:Nat:=101
def xp:Nat:=102
def GR:Nat:=103
def qW:Nat:=104
def qX:Nat:=105
def xq:Nat:=106
end Go.Abs

/-! Codes0 -/

namespace Go.Abs
abbrev AI.o (t:Nat) (a:AO):AI:= .op (some t) none a
abbrev AI.g (t c:Nat) (b:Bool) (a:AO):AI:= .op (some t) (some (c,b)) a
abbrev AI.c (t f:Nat) (l:List X):AI:= .call (some t) none f l
abbrev AI.d (t c:Nat) (b:Bool) (f:Nat) (l:List X):AI:= .call (some t) (some (c,b)) f l
abbrev AI.m (t:Nat) (x:X):AI:= .op (some t) none (.mv x)
abbrev bK:X:= .s 0
abbrev bt:X:= .s 1
abbrev dd:X:= .s 2
abbrev c6:X:= .s 3
abbrev dZ:X:= .s 4
abbrev bO:X:= .s 5
abbrev de:X:= .s 6
abbrev cb:X:= .s 7
abbrev cL:X:= .s 8
abbrev dE:X:= .s 9
abbrev cD:X:= .s 10
abbrev ct:X:= .s 11
abbrev cu:X:= .s 12
abbrev cR:X:= .s 13
abbrev cG:X:= .s 14
abbrev du:X:= .s 15
abbrev cO:X:= .s 16
abbrev dB:X:= .s 17
abbrev dM:X:= .s 18
abbrev dW:X:= .s 19
abbrev ei:X:= .s 20
abbrev dX:X:= .s 21
abbrev ez:X:= .s 22
abbrev eA:X:= .s 23
abbrev fj:X:= .s 24
abbrev fa:X:= .s 25
abbrev fH:X:= .s 26
abbrev fx:X:= .s 27
abbrev gm:X:= .s 28
abbrev gn:X:= .s 29
abbrev gG:X:= .s 30
abbrev gy:X:= .s 31
abbrev gA:X:= .s 32
abbrev gH:X:= .s 33
abbrev jk:X:= .s 34
abbrev iB:X:= .s 35
abbrev jH:X:= .s 36
abbrev kz:X:= .s 37
abbrev lA:X:= .s 38
abbrev kA:X:= .s 39
abbrev lY:X:= .s 40
abbrev lB:X:= .s 41
abbrev mL:X:= .s 42
abbrev mM:X:= .s 43
abbrev mN:X:= .s 44
abbrev nG:X:= .s 45
abbrev nH:X:= .s 46
abbrev nI:X:= .s 47
abbrev nJ:X:= .s 48
abbrev mO:X:= .s 49
abbrev nK:X:= .s 50
abbrev lZ:X:= .s 51
abbrev nL:X:= .s 52
abbrev nM:X:= .s 53
abbrev nN:X:= .s 54
abbrev pH:X:= .s 55
abbrev pI:X:= .s 56
abbrev pJ:X:= .s 57
abbrev pK:X:= .s 58
abbrev mP:X:= .s 59
abbrev sf:X:= .s 60
abbrev vE:X:= .s 61
abbrev tR:X:= .s 62
abbrev vF:X:= .s 63
abbrev sg:X:= .s 64
abbrev xI:X:= .s 65
abbrev A0:X:= .s 66
abbrev xJ:X:= .s 67
abbrev xK:X:= .s 68
abbrev A1:X:= .s 69
abbrev A2:X:= .s 70
abbrev Js:X:= .s 71
abbrev EO:X:= .s 72
abbrev Jt:X:= .s 73
abbrev Ju:X:= .s 74
abbrev Jv:X:= .s 75
abbrev EP:X:= .s 76
abbrev Jw:X:= .s 77
abbrev A3:X:= .s 78
abbrev Om:X:= .s 79
abbrev On:X:= .s 80
abbrev Oo:X:= .s 81
abbrev Oq:X:= .s 82
abbrev Ot:X:= .s 83
abbrev Ou:X:= .s 84
abbrev Ov:X:= .s 85
abbrev Ow:X:= .s 86
abbrev Ox:X:= .s 87
abbrev Oy:X:= .s 88
abbrev Oz:X:= .s 89
abbrev OA:X:= .s 90
abbrev OB:X:= .s 91
abbrev OC:X:= .s 92
abbrev S3:X:= .s 93
abbrev S4:X:= .s 94
abbrev S5:X:= .s 95
abbrev Vg:AC:= .cond dE (.seq (.run [.o 4 (.mv (.k (.bool false)))]) .ret) .skip
abbrev Vh:AC:= .cond cu (.seq (.run [.o 4 (.mv (.k (.bool true)))]) .ret) .skip
abbrev Vi:AC:= .cond ez (.seq (.run [.o 4 (.mv (.k (.bool true)))]) .ret) .skip
abbrev Vj:AC:= .par [.o 23 (.load dd true 2), .o 24 (.load dd true 2), .c 25 sb [fj,(.k (.int .i64 4))], .m 26 bt, .c 27 qP [fa,fH], .c 28 qQ [eA,fx], .o 5 (.alloc [(.int .i64 0),(.int .i64 0),(.slice .full 0 []),(.str []),(.str []),(.int .i64 0),(.int .i64 0),(.str []),(.slice .full 0 []),(.bool false),(.slice .full 0 []),(.slice .full 0 []),(.slice .full 0 [])]), .op none none (.store bO gm 13)] [(1,0),(2,0),(3,0),(4,0),(0,2),(5,0),(6,0),(7,0)]
abbrev Vk:AC:= .par [.o 36 (.aB cb 0), .o 37 (.load jH false 1), .m 38 kz, .g 39 38 true (.aB dd 0), .g 40 38 true (.load kA false 1), .g 41 38 true (.aB cb 1), .g 42 38 true (.load lB false 1), .d 43 38 true ql [lY,mL], .o 44 (.pick lA mM (.k (.bool false))), .m 45 mN, .g 46 45 true (.load dd true 2), .g 47 45 true (.aB bO 4), .g 48 45 true (.load nI false 1), .d 49 45 true iX [nH,nJ], .g 50 45 true (.aB cb 1), .g 51 45 true (.load nK false 1), .d 52 45 true ql [mO,lZ], .o 53 (.pick nG nL (.k (.bool false)))] [(0,0),(1,0),(2,0),(3,0),(4,0),(5,0),(6,0),(7,0),(8,0),(9,0),(10,0),(11,0),(12,0),(13,0),(14,0),(15,1),(16,0),(17,0)]
abbrev Vl:AC:= .cond nM (.seq (.run [.o 4 (.mv (.k (.bool false)))]) .ret) .skip
abbrev Vm:AC:= .seq (.block 1 (.seq (.run [.o 34 (.bR gG gA 6), .o 35 (.load jk true 6), .o 7 (.alloc [(.bool false),(.str []),(.int .i64 0),(.int .i64 0),(.str []),(.slice .full 0 [])]), .op none none (.store cb iB 6)]) (.seq Vk Vl))) (.run [.o 54 (.bin .add gA (.k (.int .i64 1))), .m 32 nN])
abbrev Vn:AC:= .block 0 (.loop (.seq (.run [.o 33 (.bin .lss gA gy)]) (.seq (.cond gH .skip (.exit 0)) Vm)))
abbrev Vo:AC:= .seq (.seq (.run [.o 29 (.aB bO 10), .o 30 (.load gn false 1), .o 31 (.len gG), .o 32 (.mv (.k (.int .i64 0)))]) Vn) (.seq (.run [.o 4 (.mv (.k (.bool true)))]) .ret)
abbrev Vp:AC:= .seq (.seq (.run [.o 13 (.load dd true 2), .c 14 km [cR], .o 15 (.sD cG 0 false 1), .o 16 (.bin .neq du (.k (.int .i64 0))), .m 17 cO, .g 18 17 false (.load dd true 2), .d 19 17 false lP [dM], .g 20 17 false (.sD dW 0 false 1), .g 21 17 false (.bin .neq ei (.k (.int .i64 0))), .o 22 (.pick dB (.k (.bool true)) dX)]) Vi) (.seq Vj Vo)
abbrev Vq:AC:= .seq (.run [.o 2 (.box bK), .o 4 (.mv (.k (.bool false)))]) (.seq (.seq (.run [.c 8 oH [], .o 9 (.un .not cL)]) Vg) (.seq (.seq (.run [.o 10 (.load dd true 2), .c 11 qO [cD], .o 12 (.un .not ct)]) Vh) Vp))
abbrev Vr:AC:= .par [.o 26 (.aB bO 4), .o 27 (.load fH false 1), .o 28 (.aB bO 2), .o 29 (.load gm false 1), .o 30 (.aB bO 0), .o 31 (.load gG false 1), .m 32 c6, .c 33 ey [gy,gA], .c 34 fU [gn,gH], .c 35 fU [fx,jk], .m 3 iB] [(4,0),(5,0),(6,0),(7,0),(2,0),(3,1),(8,0),(0,0),(1,2),(9,0),(10,0)]
abbrev Vs:AC:= .seq (.seq (.run [.m 36 de, .o 37 (.aB bO 1), .o 38 (.load kz false 1), .o 39 (.len lA), .o 40 (.bin .lss jH kA), .m 41 lY, .g 42 41 true (.mv c6), .g 43 41 true (.bin .leq mL (.k (.int .i64 20000))), .o 44 (.pick lB mM (.k (.bool false)))]) (.cond mN .skip (.exit 2))) (.seq (.block 3 (.run [.o 47 (.aB bO 1), .o 48 (.load nI false 1), .m 49 de, .o 50 (.bR nJ mO 2), .o 51 (.aB nK 0), .o 52 (.load lZ false 1), .m 53 c6, .c 54 ey [nL,nM], .m 3 nN])) (.run [.m 45 de, .o 46 (.bin .add nG (.k (.int .i64 1))), .m 6 nH]))
abbrev Vt:AC:= .seq (.seq (.run [.o 6 (.mv (.k (.int .i64 0)))]) (.block 2 (.loop Vs))) (.run [.o 55 (.aB bO 3), .o 56 (.load pH false 1), .m 57 c6, .c 58 gO [pI,pJ], .m 3 pK])
abbrev Vu:AC:= .seq (.block 1 (.seq (.run [.o 21 (.aB bt 1), .o 22 (.load dX false 1), .m 23 dZ, .o 24 (.bR ez eA 5), .o 25 (.load fj true 5), .o 5 (.alloc [(.str []),(.slice .full 0 []),(.slice .full 0 []),(.slice .full 0 []),(.slice .full 0 [])]), .op none none (.store bO fa 5)]) (.seq Vr Vt))) (.run [.m 19 dZ, .o 20 (.bin .add dW (.k (.int .i64 1))), .m 4 ei])
abbrev Vv:AC:= .seq (.seq (.run [.m 10 dZ, .o 11 (.aB bt 1), .o 12 (.load ct false 1), .o 13 (.len cu), .o 14 (.bin .lss cD cR), .m 15 cG, .g 16 15 true (.mv c6), .g 17 15 true (.bin .leq cO (.k (.int .i64 20000))), .o 18 (.pick du dB (.k (.bool false)))]) (.cond dM .skip (.exit 0))) Vu
abbrev Vw:AC:= .seq (.seq (.run [.o 4 (.mv (.k (.int .i64 0)))]) (.block 0 (.loop Vv))) (.seq (.run [.m 59 c6, .o 60 (.bin .leq mP (.k (.int .i64 20000))), .m 2 sf]) .ret)
abbrev Vx:AC:= .seq (.run [.o 1 (.box bK), .o 2 (.mv (.k (.bool false)))]) (.seq (.run [.o 7 (.aB bt 0), .o 8 (.load cb false 1), .c 9 fU [cL,(.k (.int .i64 0))], .m 3 dE]) Vw)
abbrev Vy:AC:= .seq (.run [(.o 16 (.build [(.int .i64 0),(.int .i64 0)] [(0,(1,(.k (.int .i64 1))))])), .op none none (.store dd cO 2)]) .ret
abbrev Vz:AC:= .seq (.block 1 (.seq (.run [.o 22 (.bR dM ei 5), .o 23 (.load ez true 5), .o 5 (.alloc [(.str []),(.slice .full 0 []),(.slice .full 0 []),(.slice .full 0 []),(.slice .full 0 [])]), .op none none (.store bO eA 5)]) (.run [.m 24 c6, .o 25 (.aB bO 0), .o 26 (.load fa false 1), .o 27 (.dc [(.str [])] 1 1 [(0,fH)]), .o 28 (.app 1 16 fj fx), .m 3 gm]))) (.run [.o 29 (.bin .add ei (.k (.int .i64 1))), .m 20 gn])
abbrev VA:AC:= .block 0 (.loop (.seq (.run [.o 21 (.bin .lss ei dW)]) (.seq (.cond dX .skip (.exit 0)) Vz)))
abbrev VB:AC:= .seq (.run [(.o 53 (.build [(.int .i64 0),(.int .i64 0)] [(0,(1,(.k (.int .i64 5))))])), .op none none (.store dd nM 2)]) .ret
abbrev VC:AC:= .seq (.run [(.o 73 (.build [(.int .i64 0),(.int .i64 0)] [(0,(1,(.k (.int .i64 5))))])), .op none none (.store dd Jt 2)]) .ret
abbrev VD:AC:= .seq (.run [.o 89 (.aB cu 0), .o 90 (.aB Oz 0), .o 91 (.load OA false 1),(.o 92 (.build [(.int .i64 0),(.int .i64 0)] [(0,(1,(.k (.int .i64 5)))),(1,(1,OB))])), .op none none (.store dd OC 2)]) .ret
abbrev VE:AC:= .seq (.block 5 (.seq (.run [.o 80 (.bR EP A3 17), .o 81 (.load On true 17), .o 12 (.alloc [(.int .i64 0),(.int .i64 0),(.slice .full 0 []),(.str []),(.str []),(.int .i64 0),(.int .i64 0),(.str []),(.slice .full 0 []),(.bool false),(.slice .full 0 []),(.slice .full 0 []),(.slice .full 0 []),(.int .i64 0),(.int .i64 0),(.int .i64 0),(.int .i64 0)]), .op none none (.store cu Oo 17)]) (.seq (.run [.o 82 (.load bt true 2), .o 83 (.load dE true 5), .m 84 c6, .o 85 (.aB cu 0), .o 86 (.load Ov true 13), .c 87 lQ [Oq,Ot,Ou,Ow], .o 88 (.un .not Ox)]) (.cond Oy VD .skip)))) (.run [.o 93 (.bin .add A3 (.k (.int .i64 1))), .m 78 S3])
abbrev VF:AC:= .block 4 (.loop (.seq (.run [.o 79 (.bin .lss A3 Jw)]) (.seq (.cond Om .skip (.exit 4)) VE)))
abbrev VG:AC:= .seq (.seq (.run [.m 66 cD, .c 67 kn [A0], .m 68 xJ, .g 69 68 false (.mv cD), .g 70 68 false (.oU 35 [bt]), .d 71 68 false eh [A1,A2], .o 72 (.pick xK (.k (.bool true)) Js)]) (.cond EO VC .skip)) (.seq (.run [.m 74 cb, .m 75 cL, .c 76 iY [Ju,Jv], .o 77 (.len EP), .o 78 (.mv (.k (.int .i64 0)))]) VF)
abbrev VH:AC:= .seq (.block 3 (.seq (.run [.m 61 mP, .o 62 (.bR pJ mP 5), .o 63 (.load tR true 5), .o 9 (.alloc [(.str []),(.slice .full 0 []),(.slice .full 0 []),(.slice .full 0 []),(.slice .full 0 [])]), .m 8 vE, .op none none (.store dE vF 5)]) (.seq (.run [.o 64 (.load dE true 5), .c 65 qS [sg], .m 10 xI]) VG))) (.run [.o 94 (.bin .add mP (.k (.int .i64 1))), .m 59 S4])
abbrev VI:AC:= .block 2 (.loop (.seq (.run [.o 60 (.bin .lss mP pK)]) (.seq (.cond sf .skip (.exit 2)) VH)))
abbrev VJ:AC:= .seq (.seq (.run [.o 56 (.aB bt 1), .o 57 (.load pI false 1), .o 58 (.len pJ), .o 59 (.mv (.k (.int .i64 0)))]) VI) (.seq (.run [.o 95 (.build [(.int .i64 0),(.int .i64 0)] []), .op none none (.store dd S5 2)]) .ret)
abbrev VK:AC:= .seq (.seq (.run [.o 32 (.aB bt 0), .o 33 (.load gA false 1), .c 34 kn [gH], .m 35 jk, .g 36 35 false (.mv c6), .d 37 35 false kn [jH], .o 38 (.pick iB (.k (.bool true)) kz), .m 39 lA, .g 40 39 false (.mv de), .g 41 39 false (.bin .lss lY (.k (.int .i64 0))), .o 42 (.pick kA (.k (.bool true)) lB), .m 43 mL, .g 44 43 false (.aB bt 1), .g 45 43 false (.load mN false 1), .g 46 43 false (.mv de), .g 47 43 false (.bR nG nH 5), .g 48 43 false (.aB nI 1), .g 49 43 false (.load nJ false 1), .g 50 43 false (.len mO), .g 51 43 false (.bin .gtr nK (.k (.int .i64 0))), .o 52 (.pick mM (.k (.bool true)) lZ)]) (.cond nL VB .skip)) (.seq (.run [.o 54 (.load bt true 2), .c 55 jY [nN], .m 7 pH]) VJ)
abbrev VL:AC:= .seq (.seq (.run [.o 17 (.aB bt 1), .o 18 (.load dB false 1), .o 19 (.len dM), .o 20 (.mv (.k (.int .i64 0)))]) VA) (.seq (.run [.m 30 c6,(.c 31 fL [gG,(.k (.str [109,97,105,110]))]), .m 6 gy]) VK)
abbrev VM:AC:= .seq (.seq (.run [.o 13 (.load bt true 2), .c 14 sd [cR], .o 15 (.un .not cG)]) (.cond du Vy .skip)) (.seq (.run [.o 3 (.mv (.k (.slice .full 0 [])))]) VL)
abbrev VN:AC:= .seq (.run [.o 1 (.box bK), .o 2 (.alloc [(.int .i64 0),(.int .i64 0)])]) VM
abbrev VO:AC:= .cond cO (.seq (.run [.o 4 (.mv (.k (.bool true)))]) .ret) .skip
abbrev VP:AC:= .seq (.block 1 (.seq (.run [.m 10 cL, .m 5 cD]) (.seq (.run [.m 11 bK, .m 12 bO, .o 13 (.bR ct cu 1), .o 14 (.load cR false 1), .m 15 bt, .o 16 (.bin .eql cG du)]) VO))) (.run [.o 17 (.bin .add cL (.k (.int .i64 1))), .m 8 dB])
abbrev VQ:AC:= .block 0 (.loop (.seq (.run [.o 9 (.bin .lss cL cb)]) (.seq (.cond dE .skip (.exit 0)) VP)))
abbrev VR:AC:= .seq (.seq (.run [.m 6 bK, .o 7 (.len de), .o 8 (.mv (.k (.int .i64 0)))]) VQ) (.seq (.run [.o 4 (.mv (.k (.bool false)))]) .ret)
abbrev VS:AC:= .seq (.run [.o 4 (.mv (.k (.bool false)))]) VR
abbrev VT:AC:= .cond de (.seq (.run [.o 4 (.mv (.k (.int .i64 0)))]) .ret) .skip
abbrev VU:AC:= .seq (.seq (.run [.m 10 bK, .o 11 (.bin .lss cD (.k (.int .i64 0)))]) (.cond ct (.seq (.run [.m 12 bK, .m 13 bt, .o 14 (.bin .add cu cR), .m 4 cG]) .ret) .skip)) (.seq (.run [.m 15 bK, .m 4 du]) .ret)
abbrev VV:AC:= .seq (.seq (.run [.m 5 bt, .o 6 (.bin .lss bO (.k (.int .i64 1)))]) VT) (.seq (.run [.m 7 bK, .m 8 bt, .o 9 (.bin .rem cb cL), .m 0 dE]) VU)
abbrev VW:AC:= .seq (.run [.o 4 (.mv (.k (.int .i64 0)))]) VV
abbrev VX:AC:= .cond cO (.seq (.run [.o 4 (.mv (.k (.slice .full 0 [])))]) .ret) .skip
abbrev VY:AC:= .seq (.run [.o 43 (.bR kA lB 1), .o 44 (.load mM false 1), .m 12 mN]) (.seq (.run [.o 45 (.aB dd 0), .o 46 (.load nG false 1), .m 47 cu, .c 48 bH [nH,nI]]) (.cond nJ (.run [.m 49 de, .m 50 cu, .o 51 (.dc [(.str [])] 1 1 [(0,nK)]), .o 52 (.app 1 16 mO lZ), .m 6 nL]) .skip))
abbrev VZ:AC:= .seq (.cond mL .skip (.exit 4)) (.seq (.block 5 VY) (.run [.o 53 (.bin .add lB (.k (.int .i64 1))), .m 41 nM]))
abbrev V0:AC:= .seq (.run [.o 37 (.aB cD 0), .o 38 (.load kz true 13), .c 39 mD [lA], .o 40 (.len kA), .o 41 (.mv (.k (.int .i64 0)))]) (.block 4 (.loop (.seq (.run [.o 42 (.bin .lss lB lY)]) VZ)))
abbrev V1:AC:= .seq (.block 3 (.seq (.run [.o 35 (.bR gy gH 17), .o 36 (.load iB true 17), .o 10 (.alloc [(.int .i64 0),(.int .i64 0),(.slice .full 0 []),(.str []),(.str []),(.int .i64 0),(.int .i64 0),(.str []),(.slice .full 0 []),(.bool false),(.slice .full 0 []),(.slice .full 0 []),(.slice .full 0 []),(.int .i64 0),(.int .i64 0),(.int .i64 0),(.int .i64 0)]), .op none none (.store cD jH 17)]) V0)) (.run [.o 54 (.bin .add gH (.k (.int .i64 1))), .m 33 nN])
abbrev V2:AC:= .block 2 (.loop (.seq (.run [.o 34 (.bin .lss gH gA)]) (.seq (.cond jk .skip (.exit 2)) V1)))
abbrev V3:AC:= .seq (.run [.o 25 (.bR dX eA 1), .o 26 (.load fa false 1), .m 8 fH]) (.seq (.run [.m 27 bO, .m 28 bO, .m 29 cL, .c 30 jw [gm,gn], .c 31 iY [fx,gG], .o 32 (.len gy), .o 33 (.mv (.k (.int .i64 0)))]) V2)
abbrev V4:AC:= .seq (.cond fj .skip (.exit 0)) (.seq (.block 1 V3) (.run [.o 55 (.bin .add eA (.k (.int .i64 1))), .m 23 pH]))
abbrev V5:AC:= .seq (.run [.m 19 bO, .m 20 bt, .c 21 qT [dW,ei], .o 22 (.len dX), .o 23 (.mv (.k (.int .i64 0)))]) (.block 0 (.loop (.seq (.run [.o 24 (.bin .lss eA ez)]) V4)))
abbrev V6:AC:= .seq (.run [.o 17 (.load dd true 2), .c 18 jY [dB], .m 5 dM]) (.seq (.run [.o 6 (.mv (.k (.slice .full 0 [])))]) (.seq V5 (.seq (.run [.m 56 de, .c 57 fS [pI]]) (.seq (.run [.m 58 de, .c 59 fZ [pK], .m 4 mP]) .ret))))
abbrev V7:AC:= .seq (.run [.o 2 (.box bK), .o 4 (.mv (.k (.slice .full 0 [])))]) (.seq (.seq (.run [.o 13 (.load dd true 2), .m 14 bt, .c 15 oI [cR,cG], .o 16 (.un .not du)]) VX) V6)
abbrev V8:AC:= .seq (.run [.o 14 (.load bt true 2), .o 15 (.load dd true 13), .c 16 mE [cG,du], .m 17 cO, .g 18 17 true (.load bt true 2), .g 19 17 true (.load c6 true 13), .d 20 17 true mE [dM,dW], .g 21 17 true (.un .not ei), .o 22 (.pick dB dX (.k (.bool false))), .m 23 ez, .g 24 23 true (.build [(.slice .full 0 []),(.slice .full 0 [])] []), .d 25 23 true lP [fj],(.g 26 23 true (.build [(.int .i64 0),(.int .i64 0)] [(0,(1,(.k (.int .i64 1))))])), .g 27 23 true (.eqs false [0,0] fa fH), .o 28 (.pick eA fx (.k (.bool false))), .m 0 gm]) .ret
abbrev V9:AC:= .seq (.run [.o 12 (.load dd true 13), .o 3 (.alloc [(.int .i64 0),(.int .i64 0),(.slice .full 0 []),(.str []),(.str []),(.int .i64 0),(.int .i64 0),(.str []),(.slice .full 0 []),(.bool false),(.slice .full 0 []),(.slice .full 0 []),(.slice .full 0 [])]), .op none none (.store c6 cu 13)]) (.seq (.run [.o 13 (.aB c6 3), .op none none (.store cR (.k (.str [118])) 1)]) V8)
abbrev Wa:AC:= .seq (.run [.c 4 qR [], .o 1 (.alloc [(.slice .full 0 []),(.slice .full 0 [])]), .op none none (.store bt dZ 2)]) (.seq (.run [.o 5 (.aB bt 1), .o 6 (.load bO false 1), .o 7 (.bR de (.k (.int .i64 0)) 5), .o 8 (.aB cb 3), .o 9 (.load cL false 1), .o 10 (.bR dE (.k (.int .i64 1)) 13), .o 11 (.load cD true 13), .o 2 (.alloc [(.int .i64 0),(.int .i64 0),(.slice .full 0 []),(.str []),(.str []),(.int .i64 0),(.int .i64 0),(.str []),(.slice .full 0 []),(.bool false),(.slice .full 0 []),(.slice .full 0 []),(.slice .full 0 [])]), .op none none (.store dd ct 13)]) V9)
abbrev Wb:AC:= .seq (.run [.o 0 (.mv (.k (.bool false)))]) Wa
abbrev Wc:AC:= .seq (.run [(.o 9 (.build [(.int .i64 0),(.int .i64 0)] [(0,(1,(.k (.int .i64 1))))])), .op none none (.store dd dE 2)]) .ret
abbrev Wd:AC:= .seq (.run [.o 31 (.aB dZ 0), .o 32 (.aB gy 0), .o 33 (.load gA false 1),(.o 34 (.build [(.int .i64 0),(.int .i64 0)] [(0,(1,(.k (.int .i64 6)))),(1,(1,gH))])), .op none none (.store dd jk 2)]) .ret
abbrev Wf:AC:= .seq (.run [.o 18 (.bR cG cO 17), .o 19 (.load dM true 17), .o 4 (.alloc [(.int .i64 0),(.int .i64 0),(.slice .full 0 []),(.str []),(.str []),(.int .i64 0),(.int .i64 0),(.str []),(.slice .full 0 []),(.bool false),(.slice .full 0 []),(.slice .full 0 []),(.slice .full 0 []),(.int .i64 0),(.int .i64 0),(.int .i64 0),(.int .i64 0)]), .op none none (.store dZ dW 17)]) (.seq (.run [.o 20 (.aB dZ 0), .o 21 (.aB ei 1), .o 22 (.load dX false 1), .o 23 (.bin .eql ez (.k (.int .i64 4))), .m 24 eA, .g 25 24 true (.load bt true 2), .g 26 24 true (.aB dZ 0), .g 27 24 true (.load fH true 13), .d 28 24 true mF [fa,fx], .g 29 24 true (.un .not gm), .o 30 (.pick fj gn (.k (.bool false)))]) (.cond gG Wd .skip))
abbrev Wg:AC:= .seq (.cond dB .skip (.exit 0)) (.seq (.block 1 Wf) (.run [.o 35 (.bin .add cO (.k (.int .i64 1))), .m 16 iB]))
abbrev Wh:AC:= .seq (.run [.o 10 (.load bt true 2), .c 11 jY [cD], .o 12 (.fM ct), .o 13 (.aB cu 2), .o 14 (.load cR false 1), .o 15 (.len cG), .o 16 (.mv (.k (.int .i64 0)))]) (.block 0 (.loop (.seq (.run [.o 17 (.bin .lss cO du)]) Wg)))
abbrev Wi:AC:= .seq (.seq (.run [.o 5 (.load bt true 2), .c 6 kl [bO], .o 7 (.sD de 0 false 1), .o 8 (.bin .neq cb (.k (.int .i64 0)))]) (.cond cL Wc .skip)) (.seq Wh (.seq (.run [.o 36 (.build [(.int .i64 0),(.int .i64 0)] []), .op none none (.store dd jH 2)]) .ret))
abbrev Wj:AC:= .seq (.run [.o 1 (.box bK), .o 2 (.alloc [(.int .i64 0),(.int .i64 0)])]) Wi
abbrev Wl:AC:= .seq (.run [(.o 12 (.build [(.int .i64 0),(.int .i64 0)] [(0,(1,(.k (.int .i64 1))))])), .op none none (.store dd cu 2)]) .ret
abbrev Wm:AC:= .par [.m 21 c6, .o 22 (.aB bO 0), .o 23 (.load ez false 1), .o 24 (.load bt true 2), .o 25 (.aB bO 0), .o 26 (.load fa false 1), .c 27 iX [fj,fH], .op none none (.rN dX eA fx)] [(3,0),(4,0),(5,0),(6,0),(0,0),(1,0),(2,1),(7,0)]
abbrev Wn:AC:= .seq (.block 1 (.seq (.run [.o 19 (.bR du dB 5), .o 20 (.load dW true 5), .o 5 (.alloc [(.str []),(.slice .full 0 []),(.slice .full 0 []),(.slice .full 0 []),(.slice .full 0 [])]), .op none none (.store bO ei 5)]) Wm)) (.run [.o 28 (.bin .add dB (.k (.int .i64 1))), .m 17 gm])
abbrev Wo:AC:= .block 0 (.loop (.seq (.run [.o 18 (.bin .lss dB cO)]) (.seq (.cond dM .skip (.exit 0)) Wn)))
abbrev Wp:AC:= .seq (.run [.o 54 (.aB cb 0), .o 55 (.aB nN 0), .o 56 (.load pH false 1),(.o 57 (.build [(.int .i64 0),(.int .i64 0)] [(0,(1,(.k (.int .i64 8)))),(1,(1,pI))])), .op none none (.store dd pJ 2)]) .ret
abbrev Wq:AC:= .seq (.run [.o 37 (.bR gH iB 17), .o 38 (.load kz true 17), .o 7 (.alloc [(.int .i64 0),(.int .i64 0),(.slice .full 0 []),(.str []),(.str []),(.int .i64 0),(.int .i64 0),(.str []),(.slice .full 0 []),(.bool false),(.slice .full 0 []),(.slice .full 0 []),(.slice .full 0 []),(.int .i64 0),(.int .i64 0),(.int .i64 0),(.int .i64 0)]), .op none none (.store cb lA 17)]) (.seq (.run [.o 39 (.aB cb 0), .o 40 (.aB kA 1), .o 41 (.load lY false 1), .o 42 (.bin .eql lB (.k (.int .i64 4))), .m 43 mL, .g 44 43 true (.aB cb 0), .g 45 43 true (.load mN true 13), .g 46 43 true (.mv c6), .g 47 43 true (.aB cb 0), .g 48 43 true (.aB nI 4), .g 49 43 true (.load nJ false 1), .g 50 43 true (.pY nH mO (.slice .full 0 [])), .d 51 43 true lf [nG,nK], .g 52 43 true (.un .not lZ), .o 53 (.pick mM nL (.k (.bool false)))]) (.cond nM Wp .skip))
abbrev Wr:AC:= .seq (.cond jH .skip (.exit 2)) (.seq (.block 3 Wq) (.run [.o 58 (.bin .add iB (.k (.int .i64 1))), .m 35 pK]))
abbrev Ws:AC:= .seq (.run [.o 29 (.load bt true 2), .c 30 jY [gn], .o 31 (.fM gG), .o 32 (.aB gy 2), .o 33 (.load gA false 1), .o 34 (.len gH), .o 35 (.mv (.k (.int .i64 0)))]) (.block 2 (.loop (.seq (.run [.o 36 (.bin .lss iB jk)]) Wr)))
abbrev Wt:AC:= .seq (.seq (.run [.o 14 (.aB bt 1), .o 15 (.load cG false 1), .o 16 (.len du), .o 17 (.mv (.k (.int .i64 0)))]) Wo) (.seq Ws (.seq (.run [.o 59 (.build [(.int .i64 0),(.int .i64 0)] []), .op none none (.store dd mP 2)]) .ret))
abbrev Wu:AC:= .seq (.seq (.run [.o 8 (.load bt true 2), .c 9 km [cL], .o 10 (.sD dE 0 false 1), .o 11 (.bin .neq cD (.k (.int .i64 0)))]) (.cond ct Wl .skip)) (.seq (.run [.op (some 13) none .oV, .m 3 cR]) Wt)
abbrev Wv:AC:= .seq (.run [.o 1 (.box bK), .o 2 (.alloc [(.int .i64 0),(.int .i64 0)])]) Wu
abbrev Ww:AC:= .cond cb (.seq (.run [.o 4 (.mv (.k (.int .i64 0)))]) .ret) .skip
abbrev Wx:AC:= .seq (.seq (.run [.m 5 bK, .o 6 (.len bO), .o 7 (.bin .eql de (.k (.int .i64 0)))]) Ww) (.seq (.run [.m 8 bK, .m 9 bt, .m 10 bK, .o 11 (.len cD), .c 12 sa [dE,ct], .o 13 (.bR cL cu 1), .o 14 (.load cR false 1), .m 4 cG]) .ret)
abbrev Wy:AC:= .seq (.run [.o 4 (.mv (.k (.int .i64 0)))]) Wx
abbrev Wz:AC:= .seq (.run [.o 13 (.bR dE ct 16), .o 14 (.load cR true 16), .o 7 (.alloc [(.int .i64 0),(.int .i64 0),(.slice .full 0 []),(.str []),(.str []),(.int .i64 0),(.int .i64 0),(.str []),(.slice .full 0 []),(.bool false),(.slice .full 0 []),(.slice .full 0 []),(.slice .full 0 []),(.int .i64 0),(.int .i64 0),(.bool false)]), .op none none (.store cb cG 16)]) (.seq (.run [.m 15 bt, .o 16 (.bin .eql du (.k (.int .i64 0))), .m 17 cO, .g 18 17 false (.aB cb 0), .g 19 17 false (.aB dM 1), .g 20 17 false (.load dW false 1), .g 21 17 false (.mv bt), .g 22 17 false (.bin .eql ei dX), .o 23 (.pick dB (.k (.bool true)) ez)]) (.cond eA (.run [.m 24 bO, .o 25 (.aB cb 0), .o 26 (.aB fa 0), .o 27 (.load fH false 1), .o 28 (.dc [(.int .i64 0)] 1 1 [(0,fx)]), .o 29 (.app 1 8 fj gm), .m 5 gn]) .skip))
abbrev WA:AC:= .seq (.cond cu .skip (.exit 0)) (.seq (.block 1 Wz) (.run [.o 30 (.bin .add ct (.k (.int .i64 1))), .m 11 gG]))
abbrev WB:AC:= .seq (.run [.o 8 (.load dd true 2), .c 9 sc [cL], .o 10 (.len dE), .o 11 (.mv (.k (.int .i64 0)))]) (.block 0 (.loop (.seq (.run [.o 12 (.bin .lss ct cD)]) WA)))
abbrev WC:AC:= .seq (.run [.o 2 (.box bK), .o 4 (.mv (.k (.slice .full 0 [])))]) (.seq (.run [.o 5 (.mv (.k (.slice .full 0 [])))]) (.seq WB (.seq (.run [.m 31 bO, .m 4 gy]) .ret)))
abbrev WD:AC:= .seq (.run [.o 2 (.box bK), .o 4 (.alloc [(.int .i64 0),(.int .i64 0),(.slice .full 0 []),(.str []),(.str []),(.int .i64 0),(.int .i64 0),(.str []),(.slice .full 0 []),(.bool false),(.slice .full 0 []),(.slice .full 0 []),(.slice .full 0 [])])]) (.seq (.run [.o 9 (.load dd true 2), .m 10 bt, .c 11 qU [dE,cD], .m 8 ct, .o 12 (.ext cL 0), .o 13 (.ext cL 1), .o 14 (.ext cL 2), .o 5 (.alloc [(.int .i64 0),(.int .i64 0),(.slice .full 0 []),(.str []),(.str []),(.int .i64 0),(.int .i64 0),(.str []),(.slice .full 0 []),(.bool false),(.slice .full 0 []),(.slice .full 0 []),(.slice .full 0 []),(.int .i64 0),(.int .i64 0),(.bool false)]), .op none none (.store bO cu 16), .m 6 cR, .m 7 cG]) (.seq (.run [.o 15 (.aB bO 0), .o 16 (.load du true 13), .op none none (.store dZ cO 13)]) .ret))
abbrev WE:AC:= .seq (.run [.m 13 c6, .o 14 (.load bO true 5), .c 15 n4 [cG], .o 16 (.app 16 232 cR du), .m 3 cO]) (.seq (.run [.m 17 c6, .o 18 (.len dB), .o 19 (.bin .gtr dM (.k (.int .i64 200)))]) (.cond dW (.seq (.run [.m 20 c6, .m 2 ei]) .ret) .skip))
abbrev WG:AC:= .seq (.block 1 (.seq (.run [.o 11 (.bR cb dE 5), .o 12 (.load ct true 5), .o 5 (.alloc [(.str []),(.slice .full 0 []),(.slice .full 0 []),(.slice .full 0 []),(.slice .full 0 [])]), .op none none (.store bO cu 5)]) WE)) (.run [.o 21 (.bin .add dE (.k (.int .i64 1))), .m 9 dX])
abbrev WH:AC:= .block 0 (.loop (.seq (.run [.o 10 (.bin .lss dE cL)]) (.seq (.cond cD .skip (.exit 0)) WG)))
abbrev WI:AC:= .seq (.seq (.run [.o 6 (.aB bt 1), .o 7 (.load de false 1), .o 8 (.len cb), .o 9 (.mv (.k (.int .i64 0)))]) WH) (.seq (.run [.m 22 c6, .m 2 ez]) .ret)
abbrev WJ:AC:= .seq (.run [.o 1 (.box bK), .o 2 (.mv (.k (.slice .full 0 [])))]) (.seq (.run [.o 3 (.mv (.k (.slice .full 0 [])))]) WI)
abbrev WK:AC:= .run [(.o 3 (.dc [(.str [])] 1 1 [(0,(.k (.str [118])))])), .c 4 mH [(.k (.int .i64 2))],(.o 5 (.build [(.int .i64 0),(.int .i64 0),(.slice .full 0 []),(.str []),(.str []),(.int .i64 0),(.int .i64 0),(.str []),(.slice .full 0 []),(.bool false),(.slice .full 0 []),(.slice .full 0 []),(.slice .full 0 [])] [(0,(1,(.k (.int .i64 1)))),(1,(1,(.k (.int .i64 1)))),(3,(1,(.k (.str [118])))),(5,(4,dZ))])), .c 6 mH [(.k (.int .i64 3))], .o 7 (.build [(.bool false),(.str []),(.int .i64 0),(.int .i64 0),(.str []),(.slice .full 0 [])] [(2,(4,de))]),(.o 8 (.build [(.bool false),(.str []),(.int .i64 0),(.int .i64 0),(.str []),(.slice .full 0 [])] [(0,(1,(.k (.bool true)))),(1,(1,(.k (.str [118]))))])), .o 9 (.dc [(.bool false),(.str []),(.int .i64 0),(.int .i64 0),(.str []),(.slice .full 0 [])] 6 2 [(0,cb),(1,cL)]),(.o 10 (.build [(.int .i64 0),(.int .i64 0),(.slice .full 0 []),(.str []),(.str []),(.int .i64 0),(.int .i64 0),(.str []),(.slice .full 0 []),(.bool false),(.slice .full 0 []),(.slice .full 0 []),(.slice .full 0 [])] [(0,(1,(.k (.int .i64 2)))),(1,(1,(.k (.int .i64 4)))),(3,(1,(.k (.str [103])))),(4,(1,(.k (.str [112])))),(10,(1,dE))])),(.c 11 gZ [(.k (.str [118]))]),(.o 12 (.build [(.int .i64 0),(.int .i64 0),(.slice .full 0 []),(.str []),(.str []),(.int .i64 0),(.int .i64 0),(.str []),(.slice .full 0 []),(.bool false),(.slice .full 0 []),(.slice .full 0 []),(.slice .full 0 [])] [(0,(1,(.k (.int .i64 3)))),(1,(1,(.k (.int .i64 3)))),(5,(4,ct))])),(.c 13 gZ [(.k (.str [103]))]),(.o 14 (.build [(.int .i64 0),(.int .i64 0),(.slice .full 0 []),(.str []),(.str []),(.int .i64 0),(.int .i64 0),(.str []),(.slice .full 0 []),(.bool false),(.slice .full 0 []),(.slice .full 0 []),(.slice .full 0 [])] [(0,(1,(.k (.int .i64 4)))),(1,(1,(.k (.int .i64 3)))),(5,(4,cR))])), .o 15 (.dc [(.int .i64 0),(.int .i64 0),(.slice .full 0 []),(.str []),(.str []),(.int .i64 0),(.int .i64 0),(.str []),(.slice .full 0 []),(.bool false),(.slice .full 0 []),(.slice .full 0 []),(.slice .full 0 [])] 13 4 [(0,bO),(1,cD),(2,cu),(3,cG)]),(.o 16 (.build [(.str []),(.slice .full 0 []),(.slice .full 0 []),(.slice .full 0 []),(.slice .full 0 [])] [(0,(1,(.k (.str [109,97,105,110])))),(2,(1,c6)),(3,(1,du))])), .o 1 (.alloc [(.str []),(.slice .full 0 []),(.slice .full 0 []),(.slice .full 0 []),(.slice .full 0 [])]), .op none none (.store bt cO 5)]
abbrev WL:AC:= .run [(.o 17 (.build [(.str []),(.bool false)] [(0,(1,(.k (.str [120]))))])),(.o 18 (.build [(.str []),(.bool false)] [(0,(1,(.k (.str [121])))),(1,(1,(.k (.bool true))))])), .o 19 (.dc [(.str []),(.bool false)] 2 2 [(0,dB),(1,dM)]),(.o 20 (.dc [(.str [])] 1 1 [(0,(.k (.str [101])))])),(.c 21 gZ [(.k (.str [121]))]),(.c 22 gZ [(.k (.str [120]))]), .c 23 o7 [(.k (.int .i64 8)),dX,ez],(.o 24 (.build [(.int .i64 0),(.int .i64 0),(.slice .full 0 []),(.str []),(.str []),(.int .i64 0),(.int .i64 0),(.str []),(.slice .full 0 []),(.bool false),(.slice .full 0 []),(.slice .full 0 []),(.slice .full 0 [])] [(0,(1,(.k (.int .i64 5)))),(1,(1,(.k (.int .i64 1)))),(3,(1,(.k (.str [121])))),(5,(4,eA))])),(.c 25 gZ [(.k (.str [121]))]), .c 26 mH [(.k (.int .i64 9))], .c 27 o7 [(.k (.int .i64 12)),fa,fH],(.o 28 (.build [(.int .i64 0),(.int .i64 0),(.slice .full 0 []),(.str []),(.str []),(.int .i64 0),(.int .i64 0),(.str []),(.slice .full 0 []),(.bool false),(.slice .full 0 []),(.slice .full 0 []),(.slice .full 0 [])] [(0,(1,(.k (.int .i64 7)))),(1,(1,(.k (.int .i64 10)))),(3,(1,(.k (.str [101]))))])), .o 29 (.dc [(.int .i64 0),(.int .i64 0),(.slice .full 0 []),(.str []),(.str []),(.int .i64 0),(.int .i64 0),(.str []),(.slice .full 0 []),(.bool false),(.slice .full 0 []),(.slice .full 0 []),(.slice .full 0 [])] 13 1 [(0,gm)]),(.o 30 (.build [(.int .i64 0),(.int .i64 0),(.slice .full 0 []),(.str []),(.str []),(.int .i64 0),(.int .i64 0),(.str []),(.slice .full 0 []),(.bool false),(.slice .full 0 []),(.slice .full 0 []),(.slice .full 0 [])] [(0,(1,(.k (.int .i64 6)))),(1,(1,(.k (.int .i64 5)))),(5,(4,fx)),(11,(1,gn))])),(.c 31 gZ [(.k (.str [121]))]),(.o 32 (.build [(.int .i64 0),(.int .i64 0),(.slice .full 0 []),(.str []),(.str []),(.int .i64 0),(.int .i64 0),(.str []),(.slice .full 0 []),(.bool false),(.slice .full 0 []),(.slice .full 0 []),(.slice .full 0 [])] [(0,(1,(.k (.int .i64 8)))),(1,(1,(.k (.int .i64 9)))),(9,(1,(.k (.bool true)))),(5,(4,gy))])), .o 33 (.dc [(.int .i64 0),(.int .i64 0),(.slice .full 0 []),(.str []),(.str []),(.int .i64 0),(.int .i64 0),(.str []),(.slice .full 0 []),(.bool false),(.slice .full 0 []),(.slice .full 0 []),(.slice .full 0 [])] 13 3 [(0,fj),(1,gG),(2,gA)]),(.o 34 (.build [(.str []),(.slice .full 0 []),(.slice .full 0 []),(.slice .full 0 []),(.slice .full 0 [])] [(0,(1,(.k (.str [112])))),(1,(1,dW)),(4,(1,ei)),(3,(1,gH))])), .o 2 (.alloc [(.str []),(.slice .full 0 []),(.slice .full 0 []),(.slice .full 0 []),(.slice .full 0 [])]), .op none none (.store dd jk 5)]
abbrev WM:AC:= .seq (.run [(.o 35 (.dc [(.str [])] 1 1 [(0,(.k (.str [103])))])), .o 36 (.load bt true 5), .o 37 (.load dd true 5), .o 38 (.dc [(.str []),(.slice .full 0 []),(.slice .full 0 []),(.slice .full 0 []),(.slice .full 0 [])] 5 2 [(0,jH),(1,kz)]), .o 39 (.build [(.slice .full 0 []),(.slice .full 0 [])] [(0,(1,iB)),(1,(1,lA))]), .op none none (.store bK kA 2)]) .ret
abbrev WN:AC:= .seq (.run [.o 0 (.alloc [(.slice .full 0 []),(.slice .full 0 [])])]) (.seq WK (.seq WL WM))
abbrev WO:AC:= .seq (.seq (.run [.m 6 bO, .m 7 bK, .o 8 (.len cb), .o 9 (.bin .lss de cL), .m 10 dE, .g 11 10 true (.mv bt), .g 12 10 true (.bin .leq ct (.k (.int .i64 20000))), .o 13 (.pick cD cu (.k (.bool false)))]) (.cond cR .skip (.exit 0))) (.seq (.block 1 (.run [.m 16 bK, .m 17 bO, .o 18 (.bR cO dB 1), .o 19 (.load dM false 1), .m 20 bt, .c 21 ey [dW,ei], .m 1 dX])) (.run [.m 14 bO, .o 15 (.bin .add cG (.k (.int .i64 1))), .m 5 du]))
abbrev WQ:AC:= .seq (.seq (.run [.o 5 (.mv (.k (.int .i64 0)))]) (.block 0 (.loop WO))) (.seq (.run [.m 22 bt, .m 4 ez]) .ret)
abbrev WR:AC:= .seq (.run [.o 4 (.mv (.k (.int .i64 0)))]) WQ
abbrev WS:AC:= .cond cR (.seq (.run [.o 4 (.mv (.k (.int .i64 20001)))]) .ret) .skip
abbrev WT:AC:= .seq (.seq (.run [.m 5 bt, .o 6 (.bin .gtr bO (.k (.int .i64 20000))), .m 7 de, .g 8 7 false (.mv bK), .g 9 7 false (.pj cL), .g 10 7 false (.mv bt), .g 11 7 false (.bin .sub (.k (.int .i64 20000)) cD), .g 12 7 false (.bin .geq dE ct), .o 13 (.pick cb (.k (.bool true)) cu)]) WS) (.seq (.run [.m 14 bt, .o 15 (.bin .add cG (.k (.int .i64 1))), .m 16 bK, .o 17 (.pj cO), .o 18 (.bin .add du dB), .m 4 dM]) .ret)
abbrev WU:AC:= .seq (.run [.o 4 (.mv (.k (.int .i64 0)))]) WT
abbrev WV:AC:= .par [.o 22 (.aB de 4), .o 23 (.load ez false 1), .o 24 (.aB de 3), .o 25 (.load fj false 1), .o 26 (.aB de 2), .o 27 (.load fH false 1), .o 28 (.aB de 5), .o 29 (.load gm true 4), .m 30 bt, .c 31 gk [gn,gG], .c 32 fU [fx,gy], .c 33 ey [fa,gA], .c 34 ey [eA,gH], .m 1 jk] [(6,0),(7,0),(8,0),(9,0),(4,0),(5,1),(10,0),(2,0),(3,2),(11,0),(0,0),(1,3),(12,0),(13,0)]
abbrev WW:AC:= .par [.o 46 (.aB de 10), .o 47 (.load nH false 1), .m 48 cb, .o 49 (.bR nI nJ 6), .o 50 (.aB mO 1), .o 51 (.load nK false 1), .o 52 (.aB de 10), .o 53 (.load nL false 1), .m 54 cb, .o 55 (.bR nM nN 6), .o 56 (.aB pH 2), .o 57 (.load pI true 4), .m 58 bt, .c 59 gk [pJ,pK], .c 60 ey [lZ,mP], .m 1 sf] [(6,0),(7,0),(8,0),(9,0),(10,0),(11,0),(12,0),(13,0),(0,0),(1,1),(2,0),(3,0),(4,0),(5,1),(14,0),(15,0)]
abbrev WX:AC:= .seq (.seq (.run [.m 35 cb, .o 36 (.aB de 10), .o 37 (.load jH false 1), .o 38 (.len kz), .o 39 (.bin .lss iB lA), .m 40 kA, .g 41 40 true (.mv bt), .g 42 40 true (.bin .leq lB (.k (.int .i64 20000))), .o 43 (.pick lY mL (.k (.bool false)))]) (.cond mM .skip (.exit 2))) (.seq (.block 3 WW) (.run [.m 44 cb, .o 45 (.bin .add mN (.k (.int .i64 1))), .m 7 nG]))
abbrev WY:AC:= .par [.o 61 (.aB de 12), .o 62 (.load vE false 1), .o 63 (.aB de 11), .o 64 (.load vF false 1), .m 65 bt, .c 66 gO [sg,xI], .c 67 gO [tR,A0], .m 1 xJ] [(2,0),(3,0),(4,0),(5,0),(0,0),(1,1),(6,0),(7,0)]
abbrev WZ:AC:= .seq (.seq (.run [.o 7 (.mv (.k (.int .i64 0)))]) (.block 2 (.loop WX))) WY
abbrev W0:AC:= .seq (.block 1 (.seq (.run [.m 18 bK, .m 19 bO, .o 20 (.bR dM dW 13), .o 21 (.load ei true 13), .o 6 (.alloc [(.int .i64 0),(.int .i64 0),(.slice .full 0 []),(.str []),(.str []),(.int .i64 0),(.int .i64 0),(.str []),(.slice .full 0 []),(.bool false),(.slice .full 0 []),(.slice .full 0 []),(.slice .full 0 [])]), .op none none (.store de dX 13)]) (.seq WV WZ))) (.run [.m 16 bO, .o 17 (.bin .add cO (.k (.int .i64 1))), .m 5 dB])
abbrev W1:AC:= .seq (.seq (.run [.m 8 bO, .m 9 bK, .o 10 (.len dE), .o 11 (.bin .lss cL cD), .m 12 ct, .g 13 12 true (.mv bt), .g 14 12 true (.bin .leq cR (.k (.int .i64 20000))), .o 15 (.pick cu cG (.k (.bool false)))]) (.cond du .skip (.exit 0))) W0
abbrev W2:AC:= .seq (.seq (.run [.o 5 (.mv (.k (.int .i64 0)))]) (.block 0 (.loop W1))) (.seq (.run [.m 68 bt, .m 4 xK]) .ret)
abbrev W3:AC:= .seq (.run [.o 4 (.mv (.k (.int .i64 0)))]) W2
abbrev W4:AC:= .cond eA (.seq (.run [.o 2 (.mv (.k (.bool false)))]) .ret) .skip
abbrev W5:AC:= .run [.o 33 (.aB bO 1), .o 34 (.load gH false 1), .o 35 (.len jk), .o 36 (.bin .gtr iB (.k (.int .i64 8))), .m 37 jH, .g 38 37 false (.aB bO 2), .g 39 37 false (.load lA false 1), .g 40 37 false (.len kA), .g 41 37 false (.bin .gtr lY (.k (.int .i64 16))), .o 42 (.pick kz (.k (.bool true)) lB), .m 43 mL, .g 44 43 false (.aB bO 0), .g 45 43 false (.load mN false 1), .d 46 43 false jZ [nG], .g 47 43 false (.un .not nH), .o 48 (.pick mM (.k (.bool true)) nI), .m 49 nJ, .g 50 49 false (.aB bO 2), .g 51 49 false (.load nK false 1), .d 52 49 false jG [lZ], .g 53 49 false (.un .not nL), .o 54 (.pick mO (.k (.bool true)) nM), .m 55 nN, .g 56 55 false (.aB bO 4), .g 57 55 false (.load pI false 1), .d 58 55 false jG [pJ], .g 59 55 false (.un .not pK), .o 60 (.pick pH (.k (.bool true)) mP)]
abbrev W6:AC:= .cond sf (.seq (.run [.o 2 (.mv (.k (.bool false)))]) .ret) .skip
abbrev W7:AC:= .cond Js (.seq (.run [.o 2 (.mv (.k (.bool false)))]) .ret) .skip
abbrev W8:AC:= .seq (.block 3 (.seq (.run [.o 66 (.bR tR sg 2), .o 67 (.load A0 true 2), .o 7 (.alloc [(.str []),(.bool false)]), .op none none (.store cb xJ 2)]) (.seq (.run [.o 68 (.aB cb 0), .o 69 (.load xK false 1), .c 70 jZ [A1], .o 71 (.un .not A2)]) W7))) (.run [.o 72 (.bin .add sg (.k (.int .i64 1))), .m 64 EO])
abbrev W9:AC:= .block 2 (.loop (.seq (.run [.o 65 (.bin .lss sg vF)]) (.seq (.cond xI .skip (.exit 2)) W8)))
abbrev Xa:AC:= .cond Jw (.seq (.run [.o 2 (.mv (.k (.bool false)))]) .ret) .skip
abbrev Xb:AC:= .seq (.seq (.run [.o 61 (.aB bO 1), .o 62 (.load vE false 1), .o 63 (.len tR), .o 64 (.mv (.k (.int .i64 0)))]) W9) (.seq (.run [.m 73 c6, .o 74 (.aB bO 3), .o 75 (.load Ju false 1), .c 76 gx [Jt,Jv,(.k (.int .i64 1))], .o 77 (.un .not EP)]) Xa)
abbrev Xc:AC:= .seq (.block 1 (.seq (.run [.o 31 (.bR fx gn 5), .o 32 (.load gy true 5), .o 5 (.alloc [(.str []),(.slice .full 0 []),(.slice .full 0 []),(.slice .full 0 []),(.slice .full 0 [])]), .op none none (.store bO gA 5)]) (.seq (.seq W5 W6) Xb))) (.run [.o 78 (.bin .add gn (.k (.int .i64 1))), .m 29 A3])
abbrev Xd:AC:= .block 0 (.loop (.seq (.run [.o 30 (.bin .lss gn gm)]) (.seq (.cond gG .skip (.exit 0)) Xc)))
abbrev Xe:AC:= .seq (.seq (.run [.o 26 (.aB bt 1), .o 27 (.load fH false 1), .o 28 (.len fx), .o 29 (.mv (.k (.int .i64 0)))]) Xd) (.seq (.run [.o 2 (.mv (.k (.bool true)))]) .ret)
abbrev Xf:AC:= .seq (.seq (.run [.o 8 (.aB bt 0), .o 9 (.load cL false 1), .o 10 (.len dE), .o 11 (.bin .gtr cD (.k (.int .i64 16))), .m 12 ct, .g 13 12 false (.aB bt 1), .g 14 12 false (.load cR false 1), .g 15 12 false (.len cG), .g 16 12 false (.bin .gtr du (.k (.int .i64 16))), .o 17 (.pick cu (.k (.bool true)) cO), .m 18 dB, .g 19 18 false (.aB bt 0), .g 20 18 false (.load dW false 1), .d 21 18 false jG [ei], .g 22 18 false (.un .not dX), .o 23 (.pick dM (.k (.bool true)) ez)]) W4) (.seq (.run [.o 24 (.build [(.int .i64 0)] []), .o 25 (.box fj), .m 3 fa]) Xe)
abbrev Xg:AC:= .seq (.run [.o 1 (.box bK), .o 2 (.mv (.k (.bool false)))]) Xf
abbrev Xh:AC:= .block 1 (.seq (.run [.m 10 cL, .m 5 cD]) (.seq (.run [.m 11 bt, .m 12 bK, .m 13 bO, .o 14 (.bR cu cR 1), .o 15 (.load cG false 1), .o 16 (.bin .eql ct du)]) (.cond cO (.seq (.run [.m 17 bO, .m 4 dB]) .ret) .skip)))
abbrev Xi:AC:= .seq (.cond dE .skip (.exit 0)) (.seq Xh (.run [.o 18 (.bin .add cL (.k (.int .i64 1))), .m 8 dM]))
abbrev Xj:AC:= .seq (.run [.m 6 bK, .o 7 (.len de), .o 8 (.mv (.k (.int .i64 0)))]) (.block 0 (.loop (.seq (.run [.o 9 (.bin .lss cL cb)]) Xi)))
abbrev Xk:AC:= .seq (.run [(.o 4 (.mv (.k (.int .i64 (-1)))))]) .ret
abbrev Xl:AC:= .seq (.run [.o 4 (.mv (.k (.int .i64 0)))]) (.seq Xj Xk)
abbrev Xm:AC:= .cond cO (.seq (.run [.o 2 (.mv (.k (.bool true)))]) .ret) .skip
abbrev Xn:AC:= .block 1 (.seq (.run [.m 9 cb, .o 10 (.bR bO cb 1), .o 11 (.load cD false 1), .m 3 dE, .m 4 ct]) (.seq (.run [.m 12 bK, .m 13 c6, .o 14 (.zT 1 cu none (some cR)), .m 15 dZ, .c 16 bH [cG,du]]) Xm))
abbrev Xo:AC:= .seq (.cond cL .skip (.exit 0)) (.seq Xn (.run [.o 17 (.bin .add cb (.k (.int .i64 1))), .m 7 dB]))
abbrev Xp:AC:= .seq (.run [.m 5 bK, .o 6 (.len bO), .o 7 (.mv (.k (.int .i64 0)))]) (.block 0 (.loop (.seq (.run [.o 8 (.bin .lss cb de)]) Xo)))
abbrev Xq:AC:= .seq Xp (.seq (.run [.o 2 (.mv (.k (.bool false)))]) .ret)
abbrev Xr:AC:= .seq (.run [.o 2 (.mv (.k (.bool false)))]) Xq
end Go.Abs

/-! Have0 -/

namespace Go.Abs
open Go.Proofs
theorem gD:Has Try.prog nq 55 [(4,none)] Vq:=⟨Try.f6,by kernel_rfl,by kernel_rfl⟩
theorem zm:Has Try.prog qO 61 [(2,none)] Vx:=⟨Try.f8,by kernel_rfl,by kernel_rfl⟩
theorem qm:Has Try.prog kl 96 [(2,(some (true,2)))] VN:=⟨Try.f9,by kernel_rfl,by kernel_rfl⟩
theorem Cd:Has Try.prog ql 18 [(4,none)] VS:=⟨Try.f12,by kernel_rfl,by kernel_rfl⟩
theorem tT:Has Try.prog sa 16 [(4,none)] VW:=⟨Try.f13,by kernel_rfl,by kernel_rfl⟩
theorem oS:Has Try.prog iX 60 [(4,none)] V7:=⟨Try.f16,by kernel_rfl,by kernel_rfl⟩
theorem wH:Has Try.prog oH 29 [(0,none)] Wb:=⟨Try.f17,by kernel_rfl,by kernel_rfl⟩
theorem qn:Has Try.prog km 37 [(2,(some (true,2)))] Wj:=⟨Try.f18,by kernel_rfl,by kernel_rfl⟩
theorem qo:Has Try.prog lP 60 [(2,(some (true,2)))] Wv:=⟨Try.f19,by kernel_rfl,by kernel_rfl⟩
theorem sO:Has Try.prog qP 15 [(4,none)] Wy:=⟨Try.f20,by kernel_rfl,by kernel_rfl⟩
theorem A4:Has Try.prog sb 32 [(4,none)] WC:=⟨Try.f21,by kernel_rfl,by kernel_rfl⟩
theorem sP:Has Try.prog qQ 17 [(4,(some (true,13)))] WD:=⟨Try.f22,by kernel_rfl,by kernel_rfl⟩
theorem A5:Has Try.prog sc 23 [(2,none)] WJ:=⟨Try.f24,by kernel_rfl,by kernel_rfl⟩
theorem zn:Has Try.prog qR 40 [(0,(some (true,2)))] WN:=⟨Try.f25,by kernel_rfl,by kernel_rfl⟩
theorem sY:Has Try.prog fU 23 [(4,none)] WR:=⟨Try.f26,by kernel_rfl,by kernel_rfl⟩
theorem k7:Has Try.prog ey 19 [(4,none)] WU:=⟨Try.f27,by kernel_rfl,by kernel_rfl⟩
theorem nr:Has Try.prog gO 69 [(4,none)] W3:=⟨Try.f28,by kernel_rfl,by kernel_rfl⟩
theorem A6:Has Try.prog sd 79 [(2,none)] Xg:=⟨Try.f29,by kernel_rfl,by kernel_rfl⟩
theorem pX:Has Try.prog fL 19 [(4,none)] Xl:=⟨Try.f30,by kernel_rfl,by kernel_rfl⟩
theorem wI:Has Try.prog kn 18 [(2,none)] Xr:=⟨Try.f31,by kernel_rfl,by kernel_rfl⟩
end Go.Abs

/-! Codes1 -/

namespace Go.Abs
abbrev Xs:AC:= .par [.m 17 c6, .m 18 c6, .o 19 (.fM dM), .o 20 (.aB dW 3), .o 21 (.load ei false 1), .m 22 c6, .o 23 (.fM ez), .o 24 (.aB eA 2), .o 25 (.load fj false 1), .o 26 (.len fa), .o 27 (.bin .add fH (.k (.int .i64 1))), .o 28 (.dc [(.int .i64 0)] 1 1 [(0,fx)]), .o 29 (.app 1 8 dX gm), .o 30 (.fM dB), .o 31 (.aB gG 3), .op none none (.store gy gn 1)] [(1,0),(2,0),(3,0),(4,0),(5,0),(6,0),(7,0),(8,0),(9,0),(10,0),(11,0),(12,0),(0,0),(13,0),(14,0),(15,0)]
abbrev Xt:AC:= .par [.m 38 c6, .m 39 c6, .o 40 (.fM kA), .o 41 (.aB lY 4), .o 42 (.load lB false 1), .m 43 c6, .o 44 (.fM mM), .o 45 (.aB mN 2), .o 46 (.load nG false 1), .o 47 (.len nH), .o 48 (.bin .add nI (.k (.int .i64 1))), .o 49 (.dc [(.int .i64 0)] 1 1 [(0,nJ)]), .o 50 (.app 1 8 mL mO), .o 51 (.fM lA), .o 52 (.aB lZ 4), .op none none (.store nL nK 1)] [(1,0),(2,0),(3,0),(4,0),(5,0),(6,0),(7,0),(8,0),(9,0),(10,0),(11,0),(12,0),(0,0),(13,0),(14,0),(15,0)]
abbrev Xu:AC:= .seq (.run [.m 32 c6, .o 33 (.aB bO 3), .o 34 (.load gH false 1), .m 35 dZ,(.o 36 (.build [(.int .i64 0),(.int .i64 0),(.slice .full 0 []),(.str []),(.str []),(.int .i64 0),(.int .i64 0),(.str []),(.slice .full 0 []),(.bool false),(.slice .full 0 []),(.slice .full 0 []),(.slice .full 0 []),(.int .i64 0),(.int .i64 0),(.int .i64 0),(.int .i64 0)] [(13,(1,iB)),(15,(1,(.k (.int .i64 (-1)))))])), .c 37 gl [gA,jk,jH]]) Xt
abbrev Xv:AC:= .seq (.block 1 (.seq (.run [.m 14 cu, .o 15 (.bR cD cu 5), .o 16 (.load du true 5), .o 5 (.alloc [(.str []),(.slice .full 0 []),(.slice .full 0 []),(.slice .full 0 []),(.slice .full 0 [])]), .m 4 cG, .op none none (.store bO cO 5)]) (.seq Xs Xu))) (.run [.o 53 (.bin .add cu (.k (.int .i64 1))), .m 12 nM])
abbrev Xw:AC:= .block 0 (.loop (.seq (.run [.o 13 (.bin .lss cu ct)]) (.seq (.cond cR .skip (.exit 0)) Xv)))
abbrev Xx:AC:= .seq (.seq (.run [.o 9 (.aB bt 1), .o 10 (.load dE false 1), .o 11 (.len cD), .o 12 (.mv (.k (.int .i64 0)))]) Xw) (.seq (.run [.m 54 c6, .m 2 nN]) .ret)
abbrev Xy:AC:= .seq (.run [.o 1 (.box bK), .o 2 (.mv (.k .dT))]) (.seq (.run [.o 6 (.load bt true 2), .o 7 (.build [(.slice .full 0 []),(.slice .full 0 []),(.slice .full 0 []),(.slice .full 0 []),(.slice .full 0 [])] [(0,(2,de))]), .o 8 (.box cb), .m 3 cL]) Xx)
abbrev Xz:AC:= .seq (.block 1 (.seq (.run [.o 11 (.bR cb dE 2), .o 12 (.load ct true 2), .o 5 (.alloc [(.str []),(.bool false)]), .op none none (.store bO cu 2)]) (.run [.m 13 c6, .o 14 (.aB bO 0), .o 15 (.load cG false 1), .o 16 (.dc [(.str [])] 1 1 [(0,du)]), .o 17 (.app 1 16 cR cO), .m 3 dB]))) (.run [.o 18 (.bin .add dE (.k (.int .i64 1))), .m 9 dM])
abbrev XA:AC:= .block 0 (.loop (.seq (.run [.o 10 (.bin .lss dE cL)]) (.seq (.cond cD .skip (.exit 0)) Xz)))
abbrev XB:AC:= .seq (.seq (.run [.o 6 (.aB bt 1), .o 7 (.load de false 1), .o 8 (.len cb), .o 9 (.mv (.k (.int .i64 0)))]) XA) (.seq (.run [.m 19 c6, .o 20 (.aB bt 2), .o 21 (.load ei false 1), .o 22 (.app 1 16 dW dX), .m 2 ez]) .ret)
abbrev XC:AC:= .seq (.run [.o 1 (.box bK), .o 2 (.mv (.k (.slice .full 0 [])))]) (.seq (.run [.o 3 (.mv (.k (.slice .full 0 [])))]) XB)
abbrev XD:AC:= .seq (.run [.o 4 (.mv (.k (.bool false)))]) (.seq (.run [.m 5 bK, .m 6 bt, .c 7 gS [bO,de], .o 8 (.bin .geq cb (.k (.int .i64 0))), .m 4 cL]) .ret)
abbrev XE:AC:= .seq (.run [.o 3 (.mv (.k (.bool false)))]) (.seq (.run [.o 4 (.aB bt 0), .o 5 (.load dZ false 1), .m 6 bK, .c 7 bH [bO,de], .m 3 cb]) .ret)
abbrev XF:AC:= .seq (.run [.o 4 (.mv (.k (.bool false)))]) (.seq (.run [.m 5 bK, .m 6 bt, .c 7 fL [bO,de], .o 8 (.bin .geq cb (.k (.int .i64 0))), .m 4 cL]) .ret)
abbrev XG:AC:= .par [.m 5 bK, .o 6 (.fM bO), .o 7 (.aB de 2), .o 8 (.load cb false 1), .m 9 bK, .o 10 (.fM dE), .o 11 (.aB cD 3), .o 12 (.load ct false 1), .m 13 bt, .o 14 (.bR cu cR 1), .o 15 (.load cG false 1), .o 16 (.bin .sub du (.k (.int .i64 1))), .m 17 bK, .o 18 (.fM dB), .o 19 (.aB dM 4), .o 20 (.load dW false 1), .m 21 bt, .o 22 (.bR ei dX 1), .o 23 (.load ez false 1), .o 24 (.bin .sub eA (.k (.int .i64 1))), .o 25 (.zT 17 cL (some cO) (some fj)), .m 4 fa] [(0,0),(1,0),(2,0),(3,0),(4,0),(5,0),(6,0),(7,0),(8,0),(9,0),(10,0),(11,0),(12,0),(13,0),(14,0),(15,0),(16,0),(17,0),(18,0),(19,0),(20,0),(21,0)]
abbrev XH:AC:= .seq (.run [.o 4 (.mv (.k (.slice .full 0 [])))]) (.seq XG .ret)
abbrev XI:AC:= .cond ez (.seq (.run [.o 8 (.mv (.k (.bool false)))]) .ret) .skip
abbrev XJ:AC:= .seq (.run [.o 16 (.bR cu cG 1), .o 17 (.load cO false 1), .m 10 dB]) (.seq (.run [.o 18 (.load dZ true 2), .o 19 (.load bO true 5), .m 20 cD, .c 21 pE [dM,dW,ei], .o 22 (.bin .eql dX (.k (.int .i64 0)))]) XI)
abbrev XK:AC:= .seq (.cond du .skip (.exit 0)) (.seq (.block 1 XJ) (.run [.o 23 (.bin .add cG (.k (.int .i64 1))), .m 14 eA]))
abbrev XL:AC:= .seq (.run [.o 11 (.load cb true 13), .c 12 mD [ct], .o 13 (.len cu), .o 14 (.mv (.k (.int .i64 0)))]) (.block 0 (.loop (.seq (.run [.o 15 (.bin .lss cG cR)]) XK)))
abbrev XM:AC:= .seq XL (.seq (.run [.o 24 (.aB cb 1), .o 25 (.load fj false 1), .o 26 (.bin .neq fa (.k (.int .i64 4))), .m 27 fH, .g 28 27 false (.aB cb 4), .g 29 27 false (.load gm false 1), .g 30 27 false (.bin .neq gn (.k (.str [109,97,105,110]))), .g 31 27 false (.mv gG), .g 32 31 true (.mv dd), .g 33 31 true (.aB cb 4), .g 34 31 true (.load gH false 1), .d 35 31 true bH [gA,jk], .g 36 27 false (.pick gy iB (.k (.bool false))), .o 37 (.pick fx (.k (.bool true)) jH), .m 8 kz]) .ret)
abbrev XN:AC:= .seq (.run [.o 4 (.box bK), .o 5 (.box bt), .o 7 (.box c6), .o 8 (.mv (.k (.bool false)))]) XM
abbrev XO:AC:= .seq (.run [.o 2 (.box bK), .o 3 (.box bt), .o 4 (.mv (.k (.bool false)))]) (.seq (.run [.o 5 (.load dd true 2), .c 6 kl [bO], .o 7 (.sD de 0 false 1), .o 8 (.bin .eql cb (.k (.int .i64 0))), .m 9 cL, .g 10 9 true (.aB dd 1), .g 11 9 true (.load cD false 1), .g 12 9 true (.oU 64 [c6]), .d 13 9 true eO [ct,cu], .o 14 (.pick dE cR (.k (.bool false))), .m 4 cG]) .ret)
abbrev XP:AC:= .seq (.run [.o 26 (.bR ez fj 1), .o 27 (.load fH false 1), .m 8 fx]) (.seq (.run [.m 28 bO, .m 29 cL, .c 30 bH [gm,gn], .o 31 (.un .not gG)]) (.cond gy (.run [.m 32 bO, .m 33 cL, .o 34 (.dc [(.str [])] 1 1 [(0,gH)]), .o 35 (.app 1 16 gA jk), .m 5 iB]) .skip))
abbrev XQ:AC:= .seq (.cond fa .skip (.exit 2)) (.seq (.block 3 XP) (.run [.o 36 (.bin .add fj (.k (.int .i64 1))), .m 24 jH]))
abbrev XR:AC:= .seq (.run [.m 17 bK, .m 18 bO, .m 19 de, .o 20 (.bR dM dW 1), .o 21 (.load ei false 1), .c 22 oJ [dB,dX], .o 23 (.len ez), .o 24 (.mv (.k (.int .i64 0)))]) (.block 2 (.loop (.seq (.run [.o 25 (.bin .lss fj eA)]) XQ)))
abbrev XS:AC:= .seq (.seq (.run [.m 11 de, .m 12 bO, .o 13 (.len cu), .o 14 (.bin .lss ct cR)]) (.cond cG .skip (.exit 0))) (.seq (.block 1 XR) (.run [.m 15 de, .o 16 (.bin .add du (.k (.int .i64 1))), .m 6 cO]))
abbrev RY:AC:= .seq (.run [.m 39 bO, .m 4 kA]) .ret
abbrev XT:AC:= .seq (.seq (.run [.o 6 (.mv (.k (.int .i64 0)))]) (.block 0 (.loop XS))) (.seq (.run [.m 37 bO, .c 38 fS [kz]]) RY)
abbrev XU:AC:= .seq (.run [.o 4 (.mv (.k (.slice .full 0 [])))]) (.seq (.run [.m 9 bt, .o 10 (.dc [(.str [])] 1 1 [(0,dE)]), .m 5 cD]) XT)
abbrev XV:AC:= .seq (.run [.o 16 (.bR cu cG 17), .o 17 (.load cO true 17), .o 7 (.alloc [(.int .i64 0),(.int .i64 0),(.slice .full 0 []),(.str []),(.str []),(.int .i64 0),(.int .i64 0),(.str []),(.slice .full 0 []),(.bool false),(.slice .full 0 []),(.slice .full 0 []),(.slice .full 0 []),(.int .i64 0),(.int .i64 0),(.int .i64 0),(.int .i64 0)]), .op none none (.store cb dB 17)]) (.seq (.run [.o 18 (.aB cb 0), .o 19 (.aB dM 1), .o 20 (.load dW false 1), .o 21 (.bin .eql ei (.k (.int .i64 4)))]) (.cond dX (.run [.m 22 bO, .o 23 (.aB cb 0), .o 24 (.aB eA 4), .o 25 (.load fj false 1), .o 26 (.dc [(.str [])] 1 1 [(0,fa)]), .o 27 (.app 1 16 ez fH), .m 5 fx]) .skip))
abbrev XW:AC:= .seq (.cond du .skip (.exit 0)) (.seq (.block 1 XV) (.run [.o 28 (.bin .add cG (.k (.int .i64 1))), .m 14 gm]))
abbrev XX:AC:= .seq (.run [.m 8 bK, .m 9 bK, .m 10 bt, .c 11 jw [dE,cD], .c 12 iY [cL,ct], .o 13 (.len cu), .o 14 (.mv (.k (.int .i64 0)))]) (.block 0 (.loop (.seq (.run [.o 15 (.bin .lss cG cR)]) XW)))
abbrev XY:AC:= .seq (.run [.o 4 (.mv (.k (.slice .full 0 [])))]) (.seq (.run [.o 5 (.mv (.k (.slice .full 0 [])))]) (.seq XX (.seq (.run [.m 29 bO, .c 30 fS [gn]]) (.seq (.run [.m 31 bO, .c 32 fZ [gy], .m 4 gA]) .ret))))
abbrev XZ:AC:= .seq (.run [.o 3 (.box bt), .o 4 (.mv (.k (.int .i64 0)))]) (.seq (.run [.m 5 bK, .o 6 (.fM bO), .o 7 (.aB de 0), .o 8 (.aB cb 1), .o 9 (.load cL false 1), .o 10 (.oU 66 [c6]), .c 11 ep [dE,cD], .m 4 ct]) .ret)
abbrev X0:AC:= .seq (.seq (.run [.o 31 (.aB bO 0), .o 32 (.load gy false 1)]) (.cond gA (.run [.m 33 c6, .o 34 (.aB bO 1), .o 35 (.load jk false 1), .o 36 (.dc [(.str [])] 1 1 [(0,iB)]), .o 37 (.app 1 16 gH jH), .m 3 kz]) .skip)) (.run [.m 38 c6, .o 39 (.aB bO 2), .o 40 (.load kA true 4), .c 41 mI [lY], .o 42 (.app 1 16 lA lB), .m 3 mL])
abbrev X1:AC:= .seq (.block 1 (.seq (.run [.o 29 (.bR fa fx 6), .o 30 (.load gn true 6), .o 5 (.alloc [(.bool false),(.str []),(.int .i64 0),(.int .i64 0),(.str []),(.slice .full 0 [])]), .op none none (.store bO gG 6)]) X0)) (.run [.o 43 (.bin .add fx (.k (.int .i64 1))), .m 27 mM])
abbrev X2:AC:= .block 0 (.loop (.seq (.run [.o 28 (.bin .lss fx fH)]) (.seq (.cond gm .skip (.exit 0)) X1)))
abbrev X3:AC:= .seq (.seq (.run [.o 24 (.aB bt 10), .o 25 (.load fj false 1), .o 26 (.len fa), .o 27 (.mv (.k (.int .i64 0)))]) X2) (.seq (.run [.m 44 c6, .m 2 mN]) .ret)
abbrev X4:AC:= .seq (.seq (.run [.o 6 (.aB bt 1), .o 7 (.load de false 1), .o 8 (.bin .neq cb (.k (.int .i64 10))), .m 9 cL, .g 10 9 true (.aB bt 3), .g 11 9 true (.load cD false 1), .g 12 9 true (.bin .neq ct (.k (.str []))), .o 13 (.pick dE cu (.k (.bool false)))]) (.cond cR (.run [.m 14 c6, .o 15 (.aB bt 3), .o 16 (.load du false 1), .o 17 (.dc [(.str [])] 1 1 [(0,cO)]), .o 18 (.app 1 16 cG dB), .m 3 dM]) .skip)) (.seq (.run [.m 19 c6, .o 20 (.aB bt 5), .o 21 (.load ei true 4), .c 22 mI [dX], .o 23 (.app 1 16 dW ez), .m 3 eA]) X3)
abbrev X5:AC:= .seq (.run [.o 1 (.box bK), .o 2 (.mv (.k (.slice .full 0 [])))]) (.seq (.run [.o 3 (.mv (.k (.slice .full 0 [])))]) X4)
abbrev X6:AC:= .cond cG (.seq (.run [.o 4 (.mv (.k (.bool false)))]) .ret) .skip
abbrev X7:AC:= .par [.o 15 (.load c6 true 13), .o 16 (.load dd true 2), .o 17 (.aB c6 4), .o 18 (.load dB false 1), .c 19 iX [cO,dM], .c 20 lf [du,dW], .m 4 ei] [(1,0),(2,0),(3,0),(4,0),(0,1),(5,0),(6,0)]
abbrev X8:AC:= .seq (.seq (.run [.o 5 (.load dd true 2), .c 6 km [bO], .o 7 (.sD de 0 false 1), .o 8 (.bin .neq cb (.k (.int .i64 0))), .m 9 cL, .g 10 9 false (.load dd true 2), .g 11 9 false (.load c6 true 13), .d 12 9 false pF [cD,ct], .g 13 9 false (.un .not cu), .o 14 (.pick dE (.k (.bool true)) cR)]) X6) (.seq X7 .ret)
abbrev X9:AC:= .seq (.run [.o 2 (.box bK), .o 3 (.box bt), .o 4 (.mv (.k (.bool false)))]) X8
abbrev Ya:AC:= .cond dE (.seq (.run [.o 4 (.mv (.k (.bool false)))]) .ret) .skip
abbrev Yb:AC:= .seq (.run [.o 15 (.bR ct cR 5), .o 16 (.load du true 5), .o 6 (.alloc [(.str []),(.slice .full 0 []),(.slice .full 0 []),(.slice .full 0 []),(.slice .full 0 [])]), .op none none (.store de cO 5)]) (.seq (.run [.o 17 (.aB de 0), .o 18 (.load dB false 1), .o 19 (.aB c6 4), .o 20 (.load dW false 1), .o 21 (.bin .eql dM ei)]) (.cond dX (.seq (.run [.o 22 (.aB de 1), .o 23 (.load ez false 1), .o 24 (.aB c6 10), .o 25 (.load fj false 1), .c 26 pG [eA,fa], .m 4 fH]) .ret) .skip))
abbrev Yc:AC:= .seq (.cond cG .skip (.exit 0)) (.seq (.block 1 Yb) (.run [.o 27 (.bin .add cR (.k (.int .i64 1))), .m 13 fx]))
abbrev Yd:AC:= .seq (.run [.o 10 (.aB dd 1), .o 11 (.load cD false 1), .o 12 (.len ct), .o 13 (.mv (.k (.int .i64 0)))]) (.block 0 (.loop (.seq (.run [.o 14 (.bin .lss cR cu)]) Yc)))
abbrev Ye:AC:= .seq Yd (.seq (.run [.o 4 (.mv (.k (.bool false)))]) .ret)
abbrev Yf:AC:= .seq (.seq (.run [.o 7 (.aB c6 1), .o 8 (.load cb false 1), .o 9 (.bin .neq cL (.k (.int .i64 4)))]) Ya) Ye
abbrev Yg:AC:= .seq (.run [.o 2 (.box bK), .o 3 (.box bt), .o 4 (.mv (.k (.bool false)))]) Yf
abbrev Yh:AC:= .cond jk (.seq (.run [.o 4 (.mv (.k (.bool false)))]) .ret) .skip
abbrev Yi:AC:= .seq (.seq (.run [.m 18 bO, .o 19 (.aB cb 1), .o 20 (.load dW false 1), .c 21 bH [dM,ei], .m 22 dX, .g 23 22 false (.aB cb 1), .g 24 22 false (.load eA false 1), .g 25 22 false (.aB dd 3), .g 26 22 false (.load fa false 1), .g 27 22 false (.bin .eql fj fH), .o 28 (.pick ez (.k (.bool true)) fx), .m 29 gm, .g 30 29 false (.mv bt), .g 31 29 false (.aB cb 1), .g 32 29 false (.load gy false 1), .d 33 29 false bH [gG,gA], .o 34 (.pick gn (.k (.bool true)) gH)]) Yh) (.run [.m 35 bO, .o 36 (.aB cb 1), .o 37 (.load jH false 1), .o 38 (.dc [(.str [])] 1 1 [(0,kz)]), .o 39 (.app 1 16 iB lA), .m 5 kA])
abbrev Yj:AC:= .block 1 (.seq (.run [.o 13 (.bR dE ct 6), .o 14 (.load cR true 6), .o 7 (.alloc [(.bool false),(.str []),(.int .i64 0),(.int .i64 0),(.str []),(.slice .full 0 [])]), .op none none (.store cb cG 6)]) (.seq (.seq (.run [.o 15 (.aB cb 0), .o 16 (.load du false 1), .o 17 (.un .not cO)]) (.cond dB (.exit 1) .skip)) Yi))
abbrev Yk:AC:= .seq (.cond cu .skip (.exit 0)) (.seq Yj (.run [.o 40 (.bin .add ct (.k (.int .i64 1))), .m 11 lY]))
abbrev Yl:AC:= .seq (.run [.o 8 (.aB dd 10), .o 9 (.load cL false 1), .o 10 (.len dE), .o 11 (.mv (.k (.int .i64 0)))]) (.block 0 (.loop (.seq (.run [.o 12 (.bin .lss ct cD)]) Yk)))
abbrev Ym:AC:= .seq Yl (.seq (.run [.o 4 (.mv (.k (.bool true)))]) .ret)
abbrev Yn:AC:= .seq (.run [.o 2 (.box bK), .o 4 (.mv (.k (.bool false)))]) (.seq (.run [.o 5 (.mv (.k (.slice .full 0 [])))]) Ym)
abbrev Yo:AC:= .par [.o 30 (.load cD true 16), .o 31 (.aB cL 0), .o 32 (.load gy false 1), .op none none (.store dZ gG 16), .m 5 gA, .o 6 (.mv (.k (.bool true)))] [(0,0),(3,0),(1,0),(2,1),(4,0),(5,0)]
abbrev Yp:AC:= .seq (.block 3 (.seq (.run [.o 23 (.bR dW dX 16), .o 24 (.load eA true 16), .o 10 (.alloc [(.int .i64 0),(.int .i64 0),(.slice .full 0 []),(.str []),(.str []),(.int .i64 0),(.int .i64 0),(.str []),(.slice .full 0 []),(.bool false),(.slice .full 0 []),(.slice .full 0 []),(.slice .full 0 []),(.int .i64 0),(.int .i64 0),(.bool false)]), .op none none (.store cD fj 16)]) (.seq (.run [.o 25 (.aB cD 0), .o 26 (.aB fa 0), .o 27 (.load fH false 1), .m 28 bt, .o 29 (.bin .eql fx gm)]) (.cond gn (.seq Yo .ret) .skip)))) (.run [.o 33 (.bin .add dX (.k (.int .i64 1))), .m 21 gH])
abbrev Yq:AC:= .block 2 (.loop (.seq (.run [.o 22 (.bin .lss dX ei)]) (.seq (.cond ez .skip (.exit 2)) Yp)))
abbrev Yr:AC:= .seq (.run [.o 16 (.bR cu cG 5), .o 17 (.load cO true 5), .o 8 (.alloc [(.str []),(.slice .full 0 []),(.slice .full 0 []),(.slice .full 0 []),(.slice .full 0 [])]), .op none none (.store cL dB 5)]) (.seq (.run [.o 18 (.load cL true 5), .c 19 n4 [dM], .o 20 (.len dW), .o 21 (.mv (.k (.int .i64 0)))]) Yq)
abbrev Ys:AC:= .seq (.cond du .skip (.exit 0)) (.seq (.block 1 Yr) (.run [.o 34 (.bin .add cG (.k (.int .i64 1))), .m 14 jk]))
abbrev Yt:AC:= .seq (.run [.o 11 (.aB dd 1), .o 12 (.load ct false 1), .o 13 (.len cu), .o 14 (.mv (.k (.int .i64 0)))]) (.block 0 (.loop (.seq (.run [.o 15 (.bin .lss cG cR)]) Ys)))
abbrev Yu:AC:= .seq Yt (.seq (.run [.o 35 (.build [(.int .i64 0),(.int .i64 0),(.slice .full 0 []),(.str []),(.str []),(.int .i64 0),(.int .i64 0),(.str []),(.slice .full 0 []),(.bool false),(.slice .full 0 []),(.slice .full 0 []),(.slice .full 0 []),(.int .i64 0),(.int .i64 0),(.bool false)] []), .op none none (.store dZ iB 16), .o 5 (.mv (.k (.str []))), .o 6 (.mv (.k (.bool false)))]) .ret)
abbrev Yv:AC:= .seq (.run [.o 2 (.box bK), .o 4 (.alloc [(.int .i64 0),(.int .i64 0),(.slice .full 0 []),(.str []),(.str []),(.int .i64 0),(.int .i64 0),(.str []),(.slice .full 0 []),(.bool false),(.slice .full 0 []),(.slice .full 0 []),(.slice .full 0 []),(.int .i64 0),(.int .i64 0),(.bool false)]), .o 5 (.mv (.k (.str []))), .o 6 (.mv (.k (.bool false)))]) Yu
abbrev Yw:AC:= .seq (.run [.o 1 (.box bK), .o 2 (.mv (.k (.slice .full 0 [])))]) (.seq (.run [.o 3 (.aB bt 3), .o 4 (.load c6 false 1),(.c 5 ji [dZ,(.k (.int .i64 1)),(.k (.int .i64 0)),(.k (.bool false)),(.k (.slice .full 0 []))]), .m 2 bO]) .ret)
abbrev Yx:AC:= .seq (.run [.m 3 bK,(.o 4 (.build [(.int .i64 0),(.int .i64 0),(.str []),(.slice .full 0 [])] [(0,(1,(.k (.int .i64 1)))),(1,(1,c6))])), .op none none (.store dd dZ 4)]) .ret
abbrev Yy:AC:= .seq (.run [.o 2 (.alloc [(.int .i64 0),(.int .i64 0),(.str []),(.slice .full 0 [])])]) Yx
abbrev Yz:AC:= .seq (.run [.m 3 bK,(.o 4 (.build [(.int .i64 0),(.int .i64 0),(.str []),(.slice .full 0 [])] [(0,(1,(.k (.int .i64 2)))),(2,(1,c6))])), .op none none (.store dd dZ 4)]) .ret
abbrev YA:AC:= .seq (.run [.o 2 (.alloc [(.int .i64 0),(.int .i64 0),(.str []),(.slice .full 0 [])])]) Yz
abbrev YB:AC:= .seq (.run [.o 4 (.box bt), .o 5 (.box dd), .o 6 (.alloc [(.int .i64 0),(.int .i64 0),(.str []),(.slice .full 0 [])])]) (.seq (.run [.m 7 bK, .o 8 (.load dZ true 4), .o 9 (.load bO true 4), .o 10 (.dc [(.int .i64 0),(.int .i64 0),(.str []),(.slice .full 0 [])] 4 2 [(0,cL),(1,dE)]), .o 11 (.build [(.int .i64 0),(.int .i64 0),(.str []),(.slice .full 0 [])] [(0,(1,cb)),(3,(1,cD))]), .op none none (.store de ct 4)]) .ret)
abbrev YC:AC:= .seq (.seq (.run [.m 10 bO, .o 11 (.aB dd 3), .o 12 (.load ct false 1), .o 13 (.len cu), .o 14 (.bin .lss cD cR), .m 15 cG, .g 16 15 true (.mv bt), .g 17 15 true (.bin .leq cO (.k (.int .i64 20000))), .o 18 (.pick du dB (.k (.bool false)))]) (.cond dM .skip (.exit 0))) (.seq (.block 1 (.run [.o 21 (.aB dd 3), .o 22 (.load dX false 1), .m 23 bO, .o 24 (.bR ez eA 4), .o 25 (.load fj true 4), .m 26 bt, .c 27 gk [fa,fH], .m 1 fx])) (.run [.m 19 bO, .o 20 (.bin .add dW (.k (.int .i64 1))), .m 5 ei]))
abbrev YD:AC:= .seq (.seq (.run [.o 5 (.mv (.k (.int .i64 0)))]) (.block 0 (.loop YC))) (.seq (.run [.m 28 bt, .m 4 gm]) .ret)
abbrev YE:AC:= .seq (.run [.o 2 (.box bK), .o 4 (.mv (.k (.int .i64 0)))]) (.seq (.run [.o 6 (.aB dd 2), .o 7 (.load de false 1), .m 8 bt, .c 9 ey [cb,cL], .m 1 dE]) YD)
abbrev YF:AC:= .cond cR (.seq (.run [.o 2 (.mv (.k (.bool false)))]) .ret) .skip
abbrev YG:AC:= .seq (.block 1 (.seq (.run [.o 9 (.bR bO cb 1), .o 10 (.load dE false 1), .m 4 cD]) (.seq (.run [.m 11 dZ, .c 12 jZ [ct], .o 13 (.un .not cu)]) YF))) (.run [.o 14 (.bin .add cb (.k (.int .i64 1))), .m 7 cG])
abbrev YH:AC:= .block 0 (.loop (.seq (.run [.o 8 (.bin .lss cb de)]) (.seq (.cond cL .skip (.exit 0)) YG)))
abbrev YI:AC:= .seq (.seq (.run [.m 5 bK, .o 6 (.len bO), .o 7 (.mv (.k (.int .i64 0)))]) YH) (.seq (.run [.o 2 (.mv (.k (.bool true)))]) .ret)
abbrev YJ:AC:= .seq (.run [.o 2 (.mv (.k (.bool false)))]) YI
abbrev YK:AC:= .cond cO (.seq (.run [.o 2 (.mv (.k (.bool false)))]) .ret) .skip
abbrev YL:AC:= .seq (.seq (.run [.m 3 bK, .o 4 (.pj c6), .o 5 (.bin .lss dZ (.k (.int .i64 1))), .m 6 bO, .g 7 6 false (.mv bK), .g 8 6 false (.pj cb), .g 9 6 false (.bin .gtr cL (.k (.int .i64 8))), .o 10 (.pick de (.k (.bool true)) dE), .m 11 cD, .g 12 11 false (.mv bK), .g 13 11 false (.s9 cu (.k (.int .i64 0))), .d 14 11 false mJ [cR], .g 15 11 false (.un .not cG), .o 16 (.pick ct (.k (.bool true)) du)]) YK) (.seq (.run [.m 17 bK, .c 18 tO [dB,(.k (.int .i64 0))], .m 19 bK, .o 20 (.pj dW), .o 21 (.bin .eql dM ei), .m 22 dX, .g 23 22 true (.mv bK), .d 24 22 true se [eA], .g 25 22 true (.un .not fj), .o 26 (.pick ez fa (.k (.bool false))), .m 2 fH]) .ret)
abbrev YM:AC:= .seq (.run [.o 2 (.mv (.k (.bool false)))]) YL
abbrev YN:AC:= .cond du (.seq (.run [.o 6 (.mv (.k (.bool false)))]) .ret) .skip
abbrev YO:AC:= .par [.m 29 bK, .o 30 (.fM gn), .o 31 (.aB gG 0), .o 32 (.load gy false 1), .o 33 (.bin .gtr gA (.k (.int .i64 200))), .m 34 gH, .g 35 34 false (.aB cL 0), .g 36 34 false (.load iB false 1), .g 37 34 false (.mv bK), .g 38 34 false (.fM kz), .g 39 34 false (.aB lA 0), .g 40 34 false (.load kA false 1), .g 41 34 false (.bin .neq jH lY), .o 42 (.pick jk (.k (.bool true)) lB), .m 43 mL, .g 44 43 false (.aB cL 2), .g 45 43 false (.load mN false 1), .d 46 43 false jG [nG], .g 47 43 false (.un .not nH), .o 48 (.pick mM (.k (.bool true)) nI), .m 49 nJ, .g 50 49 false (.load cL true 13), .d 51 49 false oK [nK], .g 52 49 false (.un .not lZ), .o 53 (.pick mO (.k (.bool true)) nL)] [(0,0),(1,0),(2,0),(3,0),(4,0),(5,0),(6,0),(7,0),(8,0),(9,0),(10,0),(11,0),(12,0),(13,0),(14,0),(15,0),(16,0),(17,0),(18,0),(19,0),(20,0),(21,0),(22,0),(23,0),(24,0)]
abbrev YP:AC:= .cond nM (.seq (.run [.o 6 (.mv (.k (.bool false)))]) .ret) .skip
abbrev YQ:AC:= .cond A1 (.seq (.run [.o 6 (.mv (.k (.bool false)))]) .ret) .skip
abbrev YR:AC:= .seq (.seq YO YP) (.seq (.run [.m 54 bK, .o 55 (.aB cL 11), .o 56 (.load pH false 1), .m 57 dd, .o 58 (.bin .add pJ (.k (.int .i64 1))), .c 59 gx [nN,pI,pK], .o 60 (.un .not mP), .m 61 sf, .g 62 61 false (.mv bK), .g 63 61 false (.aB cL 12), .g 64 61 false (.load vF false 1), .g 65 61 false (.mv dd), .g 66 61 false (.bin .add xI (.k (.int .i64 1))), .d 67 61 false gx [tR,sg,A0], .g 68 61 false (.un .not xJ), .o 69 (.pick vE (.k (.bool true)) xK)]) YQ)
abbrev YS:AC:= .seq (.run [.o 20 (.bR cO dM 13), .o 21 (.load ei true 13), .o 8 (.alloc [(.int .i64 0),(.int .i64 0),(.slice .full 0 []),(.str []),(.str []),(.int .i64 0),(.int .i64 0),(.str []),(.slice .full 0 []),(.bool false),(.slice .full 0 []),(.slice .full 0 []),(.slice .full 0 [])]), .op none none (.store cL dX 13)]) (.seq (.run [.m 22 bK, .o 23 (.fM ez), .o 24 (.aB eA 0), .o 25 (.load fj false 1), .o 26 (.bin .add fa (.k (.int .i64 1))), .o 27 (.fM ez), .o 28 (.aB fx 0), .op none none (.store gm fH 1)]) YR)
abbrev YT:AC:= .seq (.cond dW .skip (.exit 0)) (.seq (.block 1 YS) (.run [.o 70 (.bin .add dM (.k (.int .i64 1))), .m 18 A2]))
abbrev YU:AC:= .seq (.run [.m 16 bt, .o 17 (.len cO), .o 18 (.mv (.k (.int .i64 0)))]) (.block 0 (.loop (.seq (.run [.o 19 (.bin .lss dM dB)]) YT)))
abbrev YV:AC:= .seq YU (.seq (.run [.o 6 (.mv (.k (.bool true)))]) .ret)
abbrev YW:AC:= .seq (.seq (.run [.m 9 dd, .o 10 (.bin .gtr dE (.k (.int .i64 12))), .m 11 cD, .g 12 11 true (.mv bt), .g 13 11 true (.len cu), .g 14 11 true (.bin .gtr cR (.k (.int .i64 0))), .o 15 (.pick ct cG (.k (.bool false)))]) YN) YV
abbrev YX:AC:= .seq (.run [.o 6 (.mv (.k (.bool false)))]) YW
abbrev YY:AC:= .par [.m 37 bK, .m 38 bK, .o 39 (.fM lA), .o 40 (.aB kA 2), .o 41 (.load lY false 1), .o 42 (.load dE true 17), .o 43 (.dc [(.int .i64 0),(.int .i64 0),(.slice .full 0 []),(.str []),(.str []),(.int .i64 0),(.int .i64 0),(.str []),(.slice .full 0 []),(.bool false),(.slice .full 0 []),(.slice .full 0 []),(.slice .full 0 []),(.int .i64 0),(.int .i64 0),(.int .i64 0),(.int .i64 0)] 17 1 [(0,mL)]), .o 44 (.app 17 240 lB mM), .o 45 (.fM kz), .o 46 (.aB nG 2), .op none none (.store nH mN 1)] [(1,0),(2,0),(3,0),(4,0),(5,0),(6,0),(7,0),(0,0),(8,0),(9,0),(10,0)]
abbrev YZ:AC:= .run [.o 47 (.aB bO 13), .o 48 (.load nI false 1), .m 49 cL, .o 50 (.aB dE 15), .o 51 (.load nK false 1), .o 52 (.aB bO 16), .o 53 (.load nL false 1), .o 54 (.build [(.int .i64 0),(.int .i64 0),(.slice .full 0 []),(.str []),(.str []),(.int .i64 0),(.int .i64 0),(.str []),(.slice .full 0 []),(.bool false),(.slice .full 0 []),(.slice .full 0 []),(.slice .full 0 []),(.int .i64 0),(.int .i64 0),(.int .i64 0),(.int .i64 0)] [(13,(1,nJ)),(14,(1,mO)),(15,(1,lZ)),(16,(1,nM))]), .o 10 (.alloc [(.int .i64 0),(.int .i64 0),(.slice .full 0 []),(.str []),(.str []),(.int .i64 0),(.int .i64 0),(.str []),(.slice .full 0 []),(.bool false),(.slice .full 0 []),(.slice .full 0 []),(.slice .full 0 []),(.int .i64 0),(.int .i64 0),(.int .i64 0),(.int .i64 0)]), .op none none (.store cD nN 17)]
abbrev Y0:AC:= .seq (.seq (.run [.o 55 (.aB cb 1), .o 56 (.load pH false 1), .o 57 (.bin .eql pI (.k (.int .i64 6)))]) (.cond pJ (.run [.m 58 cL, .m 59 cL, .o 60 (.aB cD 15), .op none none (.store sf pK 1), .o 61 (.aB cD 16), .op none none (.store vE mP 1)]) .skip)) (.seq (.run [.m 62 bK, .o 63 (.aB cb 11), .o 64 (.load vF false 1), .o 65 (.load cD true 17), .c 66 gl [tR,sg,xI]]) (.run [.m 67 bK, .o 68 (.aB cb 12), .o 69 (.load xK false 1), .o 70 (.load cD true 17), .c 71 gl [xJ,A1,A2]]))
abbrev Y1:AC:= .seq (.seq (.run [.m 27 de, .o 28 (.bin .add fx (.k (.int .i64 1))), .m 29 bt, .o 30 (.len gn), .o 31 (.bin .lss gm gG)]) (.cond gy (.run [.m 32 cL, .o 33 (.load cb true 13), .c 34 jj [gH], .o 35 (.bin .add gA jk), .o 36 (.aB dE 15), .op none none (.store jH iB 1)]) .skip)) (.seq YY (.seq YZ Y0))
abbrev Y2:AC:= .seq (.run [.m 15 cR, .o 16 (.bR ct cR 13), .o 17 (.load cO true 13), .o 7 (.alloc [(.int .i64 0),(.int .i64 0),(.slice .full 0 []),(.str []),(.str []),(.int .i64 0),(.int .i64 0),(.str []),(.slice .full 0 []),(.bool false),(.slice .full 0 []),(.slice .full 0 []),(.slice .full 0 [])]), .m 6 du, .op none none (.store cb dB 13)]) (.seq (.run [.m 18 bK, .o 19 (.fM dM), .o 20 (.aB dW 2), .o 21 (.load ei false 1), .o 22 (.len dX), .o 23 (.bin .add ez (.k (.int .i64 1))), .m 8 eA]) (.seq (.run [.o 24 (.load bO true 17), .o 9 (.alloc [(.int .i64 0),(.int .i64 0),(.slice .full 0 []),(.str []),(.str []),(.int .i64 0),(.int .i64 0),(.str []),(.slice .full 0 []),(.bool false),(.slice .full 0 []),(.slice .full 0 []),(.slice .full 0 []),(.int .i64 0),(.int .i64 0),(.int .i64 0),(.int .i64 0)]), .op none none (.store dE fj 17)]) (.seq (.run [.o 25 (.load cb true 13), .o 26 (.aB dE 0), .op none none (.store fH fa 13)]) Y1)))
abbrev Y3:AC:= .seq (.cond cG .skip (.exit 0)) (.seq (.block 1 Y2) (.run [.o 72 (.bin .add cR (.k (.int .i64 1))), .m 13 EO]))
abbrev Y4:AC:= .seq (.run [.m 11 bt, .o 12 (.len ct), .o 13 (.mv (.k (.int .i64 0)))]) (.block 0 (.loop (.seq (.run [.o 14 (.bin .lss cR cu)]) Y3)))
abbrev Y5:AC:= .seq (.run [.o 5 (.box dd)]) Y4
abbrev Y6:AC:= .block 1 (.seq (.run [.m 10 cL, .m 5 cD]) (.seq (.run [.m 11 bt, .m 12 bK, .m 13 bO, .o 14 (.bR cu cR 1), .o 15 (.load cG false 1),(.fQ (some 16) none 11 [du])]) (.cond cO (.seq (.run [.m 17 bO, .m 4 dB]) .ret) .skip)))
abbrev Y7:AC:= .seq (.cond dE .skip (.exit 0)) (.seq Y6 (.run [.o 18 (.bin .add cL (.k (.int .i64 1))), .m 8 dM]))
abbrev Y8:AC:= .seq (.run [.m 6 bK, .o 7 (.len de), .o 8 (.mv (.k (.int .i64 0)))]) (.block 0 (.loop (.seq (.run [.o 9 (.bin .lss cL cb)]) Y7)))
abbrev Y9:AC:= .seq (.run [(.o 4 (.mv (.k (.int .i64 (-1)))))]) .ret
abbrev Za:AC:= .seq (.run [.o 4 (.mv (.k (.int .i64 0)))]) (.seq Y8 Y9)
abbrev Zb:AC:= .cond eA (.seq (.run [.o 6 (.mv (.k (.int .i64 3)))]) .ret) .skip
abbrev Zc:AC:= .cond fx (.seq (.run [.o 6 (.mv (.k (.int .i64 2)))]) .ret) .skip
abbrev Zd:AC:= .seq (.seq (.run [.o 16 (.aB cL 0), .o 17 (.load cO false 1), .m 18 dd, .o 19 (.bin .eql dB dM), .m 20 dW, .g 21 20 true (.aB cL 1), .g 22 20 true (.load dX false 1), .o 23 (.pick ei ez (.k (.bool false)))]) Zb) (.seq (.run [.o 24 (.aB cL 0), .o 25 (.load fj false 1), .m 26 dd, .o 27 (.bin .eql fa fH)]) Zc)
abbrev Ze:AC:= .seq (.block 1 (.seq (.run [.o 14 (.bR cD cu 2), .o 15 (.load cG true 2), .o 8 (.alloc [(.str []),(.bool false)]), .op none none (.store cL du 2)]) Zd)) (.run [.o 28 (.bin .add cu (.k (.int .i64 1))), .m 12 gm])
abbrev Zf:AC:= .block 0 (.loop (.seq (.run [.o 13 (.bin .lss cu ct)]) (.seq (.cond cR .skip (.exit 0)) Ze)))
abbrev Zg:AC:= .cond gA (.seq (.run [.o 6 (.mv (.k (.int .i64 4)))]) .ret) .skip
abbrev Zh:AC:= .cond jH (.seq (.run [.o 6 (.mv (.k (.int .i64 1)))]) .ret) .skip
abbrev Zi:AC:= .seq (.seq (.run [.o 33 (.aB c6 0), .o 34 (.load gH false 1), .m 35 dd, .c 36 bH [jk,iB]]) Zh) (.seq (.run [.o 6 (.mv (.k (.int .i64 0)))]) .ret)
abbrev Zj:AC:= .seq (.seq (.run [.o 9 (.aB dZ 1), .o 10 (.load dE false 1), .o 11 (.len cD), .o 12 (.mv (.k (.int .i64 0)))]) Zf) (.seq (.seq (.run [.o 29 (.aB dZ 2), .o 30 (.load gn false 1), .m 31 dd, .c 32 bH [gG,gy]]) Zg) Zi)
abbrev Zk:AC:= .seq (.run [.o 3 (.box bK), .o 4 (.box bt), .o 6 (.mv (.k (.int .i64 0)))]) Zj
abbrev Zl:AC:= .seq (.run [.o 4 (.mv (.k (.bool false)))]) (.seq (.run [.m 5 bK, .m 6 bt, .c 7 ep [bO,de], .o 8 (.bin .geq cb (.k (.int .i64 0))), .m 4 cL]) .ret)
abbrev Zm:AC:= .seq (.run [.o 2 (.box bK), .o 3 (.mv (.k (.bool false)))]) (.seq (.run [.o 4 (.aB dd 0), .o 5 (.load dZ false 1), .o 6 (.load bt false 1), .o 7 (.bin .eql bO de), .m 3 cb]) .ret)
abbrev Zn:AC:= .block 1 (.seq (.run [.m 10 cL, .m 5 cD]) (.seq (.run [.m 11 bt, .m 12 bK, .m 13 bO, .o 14 (.bR cu cR 5), .o 15 (.load cG true 5),(.fQ (some 16) none 11 [du])]) (.cond cO (.seq (.run [.m 17 bO, .m 4 dB]) .ret) .skip)))
abbrev Zo:AC:= .seq (.cond dE .skip (.exit 0)) (.seq Zn (.run [.o 18 (.bin .add cL (.k (.int .i64 1))), .m 8 dM]))
abbrev Zp:AC:= .seq (.run [.m 6 bK, .o 7 (.len de), .o 8 (.mv (.k (.int .i64 0)))]) (.block 0 (.loop (.seq (.run [.o 9 (.bin .lss cL cb)]) Zo)))
abbrev Zq:AC:= .seq (.run [(.o 4 (.mv (.k (.int .i64 (-1)))))]) .ret
abbrev Zr:AC:= .seq (.run [.o 4 (.mv (.k (.int .i64 0)))]) (.seq Zp Zq)
abbrev Zs:AC:= .seq (.run [.o 2 (.box bK), .o 3 (.mv (.k (.bool false)))]) (.seq (.run [.o 4 (.aB dd 0), .o 5 (.load dZ false 1), .o 6 (.load bt false 1), .o 7 (.bin .eql bO de), .m 3 cb]) .ret)
abbrev Zt:AC:= .cond bO (.seq (.run [.o 2 (.mv (.k (.slice .full 0 [])))]) .ret) .skip
abbrev Zu:AC:= .seq (.seq (.run [.o 3 (.load bt true 4), .c 4 lg [c6], .o 5 (.un .not dZ)]) Zt) (.seq (.run [.o 6 (.load bt true 4),(.c 7 fB [de,(.k (.slice .full 0 []))]), .m 2 cb]) .ret)
abbrev Zv:AC:= .seq (.run [.o 1 (.box bK), .o 2 (.mv (.k (.slice .full 0 [])))]) Zu
abbrev Zw:AC:= .seq (.run [.o 2 (.box bK), .o 3 (.box bt), .o 4 (.mv (.k (.bool false)))]) (.seq (.run [.o 5 (.load dd true 2), .c 6 kl [bO], .o 7 (.sD de 0 false 1), .o 8 (.bin .eql cb (.k (.int .i64 0))), .m 9 cL, .g 10 9 true (.load dd true 2), .g 11 9 true (.load c6 true 13), .d 12 9 true mF [cD,ct], .o 13 (.pick dE cu (.k (.bool false))), .m 4 cR]) .ret)
abbrev Zx:AC:= .cond ct (.seq (.run [.o 4 (.mv (.k (.bool false)))]) .ret) .skip
abbrev Zy:AC:= .par [.o 19 (.aB de 1), .o 20 (.load dW false 1), .m 21 bt, .m 22 bO, .o 23 (.bR dX ez 6), .o 24 (.aB eA 0), .o 25 (.load fj false 1), .o 26 (.yd true ei fa)] [(0,0),(1,0),(2,0),(3,0),(4,0),(5,0),(6,0),(7,0)]
abbrev Zz:AC:= .cond fH (.seq (.run [.o 4 (.mv (.k (.bool false)))]) .ret) .skip
abbrev ZA:AC:= .seq (.block 1 (.seq (.run [.m 16 cG, .o 17 (.bR cu cG 2), .o 18 (.load dB true 2), .o 6 (.alloc [(.str []),(.bool false)]), .m 5 cO, .op none none (.store de dM 2)]) (.seq Zy Zz))) (.run [.o 27 (.bin .add cG (.k (.int .i64 1))), .m 14 fx])
abbrev ZB:AC:= .block 0 (.loop (.seq (.run [.o 15 (.bin .lss cG cR)]) (.seq (.cond du .skip (.exit 0)) ZA)))
abbrev ZC:AC:= .seq (.seq (.run [.m 12 bK, .o 13 (.len cu), .o 14 (.mv (.k (.int .i64 0)))]) ZB) (.seq (.run [.o 4 (.mv (.k (.bool true)))]) .ret)
abbrev ZD:AC:= .seq (.run [.o 4 (.mv (.k (.bool false)))]) (.seq (.seq (.run [.m 7 bK, .o 8 (.len cb), .m 9 bt, .o 10 (.len dE), .o 11 (.bin .neq cL cD)]) Zx) ZC)
abbrev ZE:AC:= .run [.m 23 dZ, .m 24 bK, .m 25 ct, .o 26 (.bR fj fa 13), .o 27 (.load fH true 13), .m 28 bt, .m 29 dd, .m 30 c6, .o 31 (.build [(.int .i64 0),(.int .i64 0),(.slice .full 0 []),(.str []),(.str []),(.int .i64 0),(.int .i64 0),(.str []),(.slice .full 0 []),(.bool false),(.slice .full 0 []),(.slice .full 0 []),(.slice .full 0 []),(.int .i64 0),(.int .i64 0),(.bool false)] [(0,(13,fx)),(13,(1,gm)),(14,(1,gn)),(15,(1,gG))]), .o 32 (.dc [(.int .i64 0),(.int .i64 0),(.slice .full 0 []),(.str []),(.str []),(.int .i64 0),(.int .i64 0),(.str []),(.slice .full 0 []),(.bool false),(.slice .full 0 []),(.slice .full 0 []),(.slice .full 0 []),(.int .i64 0),(.int .i64 0),(.bool false)] 16 1 [(0,gy)]), .o 33 (.app 16 232 eA gA), .m 4 gH]
abbrev ZF:AC:= .par [.m 36 bK, .m 37 ct, .o 38 (.bR jH kz 13), .o 39 (.aB lA 11), .o 40 (.load kA false 1), .m 41 bt, .o 42 (.bin .add lB (.k (.int .i64 1))), .m 43 bK, .m 44 ct, .o 45 (.bR mM mN 13), .o 46 (.aB nG 0), .o 47 (.load nH false 1), .m 48 dZ, .c 49 ji [lY,mL,nI,(.k (.bool false)),nJ], .m 4 mO] [(0,0),(1,0),(2,0),(3,0),(4,0),(5,0),(6,0),(7,0),(8,0),(9,0),(10,0),(11,0),(12,0),(13,0),(14,0)]
abbrev ZG:AC:= .par [.m 50 bK, .m 51 ct, .o 52 (.bR nK lZ 13), .o 53 (.aB nL 12), .o 54 (.load nM false 1), .m 55 bt, .o 56 (.bin .add pH (.k (.int .i64 1))), .m 57 bK, .m 58 ct, .o 59 (.bR pJ pK 13), .o 60 (.aB mP 0), .o 61 (.load sf false 1), .m 62 dZ, .c 63 ji [nN,pI,vE,(.k (.bool true)),tR], .m 4 vF] [(0,0),(1,0),(2,0),(3,0),(4,0),(5,0),(6,0),(7,0),(8,0),(9,0),(10,0),(11,0),(12,0),(13,0),(14,0)]
abbrev ZH:AC:= .seq ZE (.seq (.run [.m 34 bt, .o 35 (.bin .leq jk (.k (.int .i64 12)))]) (.cond iB (.seq ZF ZG) .skip))
abbrev ZI:AC:= .seq (.seq (.run [.m 12 ct, .m 13 bK, .o 14 (.len cR), .o 15 (.bin .lss cu cG), .m 16 du, .g 17 16 true (.mv dZ), .g 18 16 true (.len dB), .g 19 16 true (.bin .leq dM (.k (.int .i64 200))), .o 20 (.pick cO dW (.k (.bool false)))]) (.cond ei .skip (.exit 0))) (.seq (.block 1 ZH) (.run [.m 21 ct, .o 22 (.bin .add dX (.k (.int .i64 1))), .m 11 ez]))
abbrev ZJ:AC:= .seq (.seq (.run [.o 11 (.mv (.k (.int .i64 0)))]) (.block 0 (.loop ZI))) (.seq (.run [.m 64 dZ, .m 10 sg]) .ret)
abbrev ZK:AC:= .seq (.run [.o 10 (.mv (.k (.slice .full 0 [])))]) ZJ
abbrev ZL:AC:= .seq (.run [.o 2 (.mv (.k (.bool false)))]) (.seq (.run [.m 3 bK, .o 4 (.bin .geq c6 (.k (.int .u8 97))), .m 5 dZ, .g 6 5 true (.mv bK), .g 7 5 true (.bin .leq de (.k (.int .u8 122))), .o 8 (.pick bO cb (.k (.bool false))), .m 2 cL]) .ret)
abbrev ZM:AC:= .seq (.seq (.run [.m 5 bt, .m 6 bK, .o 7 (.pj de), .o 8 (.bin .lss bO cb), .m 9 cL, .g 10 9 true (.mv bK), .g 11 9 true (.mv bt), .g 12 9 true (.s9 cD ct), .d 13 9 true mJ [cu], .g 14 9 true (.mv cR), .g 15 14 false (.mv bK), .g 16 14 false (.mv bt), .g 17 14 false (.s9 du cO), .d 18 14 false qV [dB], .g 19 9 true (.pick cG (.k (.bool true)) dM), .o 20 (.pick dE dW (.k (.bool false)))]) (.cond ei .skip (.exit 0))) (.block 1 (.run [.m 21 bt, .o 22 (.bin .add dX (.k (.int .i64 1))), .m 1 ez]))
abbrev ZN:AC:= .seq (.run [.o 4 (.mv (.k (.int .i64 0)))]) (.seq (.block 0 (.loop ZM)) (.seq (.run [.m 23 bt, .m 4 eA]) .ret))
abbrev ZO:AC:= .seq (.run [.o 16 (.bin .eql c6 (.k (.str [114,101,97,100]))), .m 4 cO]) (.cond dZ .skip (.run [.o 17 (.bin .eql c6 (.k (.str [112,114,105,110,116]))), .m 4 dB]))
abbrev ZP:AC:= .cond dZ .skip (.seq (.run [.o 15 (.bin .eql c6 (.k (.str [103,111,116,111]))), .m 4 du]) (.cond dZ .skip ZO))
abbrev ZQ:AC:= .cond dZ .skip (.seq (.run [.o 14 (.bin .eql c6 (.k (.str [114,101,116,117,114,110]))), .m 4 cG]) ZP)
abbrev ZR:AC:= .cond dZ .skip (.seq (.run [.o 13 (.bin .eql c6 (.k (.str [99,111,110,116,105,110,117,101]))), .m 4 cR]) ZQ)
abbrev ZS:AC:= .cond dZ .skip (.seq (.run [.o 12 (.bin .eql c6 (.k (.str [98,114,101,97,107]))), .m 4 cu]) ZR)
abbrev ZT:AC:= .cond dZ .skip (.seq (.run [.o 11 (.bin .eql c6 (.k (.str [119,104,105,108,101]))), .m 4 ct]) ZS)
abbrev ZU:AC:= .cond dZ .skip (.seq (.run [.o 10 (.bin .eql c6 (.k (.str [101,108,115,101]))), .m 4 cD]) ZT)
abbrev ZV:AC:= .cond dZ .skip (.seq (.run [.o 9 (.bin .eql c6 (.k (.str [105,102]))), .m 4 dE]) ZU)
abbrev ZW:AC:= .cond dZ .skip (.seq (.run [.o 8 (.bin .eql c6 (.k (.str [114,101,102]))), .m 4 cL]) ZV)
abbrev ZX:AC:= .cond dZ .skip (.seq (.run [.o 7 (.bin .eql c6 (.k (.str [118,97,114]))), .m 4 cb]) ZW)
abbrev ZY:AC:= .cond dZ .skip (.seq (.run [.o 6 (.bin .eql c6 (.k (.str [112,114,111,99]))), .m 4 de]) ZX)
abbrev ZZ:AC:= .cond dZ (.seq (.run [.o 2 (.mv (.k (.bool true)))]) .ret) .skip
abbrev Z0:AC:= .seq (.seq (.run [.o 5 (.bin .eql c6 (.k (.str [103,108,111,98,97,108]))), .m 4 bO]) ZY) ZZ
abbrev Z1:AC:= .seq (.seq (.run [.m 3 bK]) (.block 0 Z0)) (.seq (.run [.o 2 (.mv (.k (.bool false)))]) .ret)
abbrev Z2:AC:= .seq (.run [.o 2 (.mv (.k (.bool false)))]) Z1
abbrev Z3:AC:= .par [.o 10 (.aB bt 9), .o 11 (.load cD false 1), .o 3 (.mv (.k (.bool false))), .o 4 (.mv (.k (.bool false))), .o 5 (.mv (.k (.bool false))), .m 6 ct, .o 7 (.mv (.k (.bool false))), .o 8 (.mv (.k (.bool false)))] [(0,0),(1,0),(2,0),(3,0),(4,0),(5,0),(6,0),(7,0)]
abbrev Z4:AC:= .seq (.run [.o 20 (.bin .eql cO (.k (.int .i64 2))), .m 19 ei]) (.cond dW .skip (.run [.o 21 (.bin .eql cO (.k (.int .i64 10))), .m 19 dX]))
abbrev Z5:AC:= .seq (.run [.o 38 (.bin .eql cO (.k (.int .i64 7))), .m 37 lA]) (.cond kz .skip (.run [.o 39 (.bin .eql cO (.k (.int .i64 8))), .m 37 kA]))
abbrev Z6:AC:= .cond kz .skip (.seq (.run [.o 2 (.mv (.k (.bool false)))]) .ret)
abbrev Z7:AC:= .seq (.run [.o 34 (.bin .eql cO (.k (.int .i64 9))), .m 33 jk]) (.cond gH (.run [.o 35 (.aB bt 9), .o 36 (.load iB false 1), .m 5 jH, .o 6 (.mv (.k (.bool false)))]) (.seq Z5 Z6))
abbrev Z8:AC:= .seq (.run [.o 32 (.bin .eql cO (.k (.int .i64 6))), .m 31 gA]) (.cond gy (.run [.o 5 (.mv (.k (.bool true))), .o 7 (.mv (.k (.bool true)))]) Z7)
abbrev Z9:AC:= .seq (.run [.o 30 (.bin .eql cO (.k (.int .i64 5))), .m 29 gG]) (.cond gn (.run [.o 5 (.mv (.k (.bool true))), .o 7 (.mv (.k (.bool true))), .o 8 (.mv (.k (.bool true)))]) Z8)
abbrev QZS:AC:= .seq (.run [.o 25 (.bin .eql cO (.k (.int .i64 4))), .m 24 fa]) (.cond fj (.run [.o 26 (.aB bt 3), .o 27 (.load fH false 1), .o 28 (.bin .neq fx (.k (.str []))), .m 3 gm, .o 4 (.mv (.k (.bool true)))]) Z9)
abbrev QZU:AC:= .seq (.run [.o 23 (.bin .eql cO (.k (.int .i64 3))), .m 22 eA]) (.cond ez (.run [.o 5 (.mv (.k (.bool true)))]) QZS)
abbrev QZW:AC:= .seq Z4 (.cond dW (.run [.o 3 (.mv (.k (.bool true)))]) QZU)
abbrev QZY:AC:= .seq (.run [.o 18 (.bin .eql cO (.k (.int .i64 1))), .m 17 dM]) (.cond dB (.run [.o 3 (.mv (.k (.bool true))), .o 5 (.mv (.k (.bool true)))]) QZW)
abbrev S6:AC:= .run [.m 40 de, .m 41 lY, .g 42 41 false (.mv cb), .g 43 41 false (.un .not mL), .g 44 41 false (.mv mM), .g 45 44 true (.aB bt 11), .g 46 44 true (.load nG false 1), .g 47 44 true (.len nH), .g 48 44 true (.bin .gtr nI (.k (.int .i64 0))), .g 49 41 false (.pick mN nJ (.k (.bool false))), .o 50 (.pick lB (.k (.bool true)) mO), .m 51 nK, .g 52 51 false (.mv cL), .g 53 51 false (.un .not nL), .g 54 51 false (.mv nM), .g 55 54 true (.aB bt 12), .g 56 54 true (.load pH false 1), .g 57 54 true (.len pI), .g 58 54 true (.bin .gtr pJ (.k (.int .i64 0))), .g 59 51 false (.pick nN pK (.k (.bool false))), .o 60 (.pick lZ (.k (.bool true)) mP), .m 61 sf, .g 62 61 false (.mv dE), .g 63 61 false (.un .not tR), .g 64 61 false (.mv vF), .g 65 64 true (.aB bt 10), .g 66 64 true (.load xI false 1), .g 67 64 true (.len A0), .g 68 64 true (.bin .gtr xJ (.k (.int .i64 0))), .g 69 61 false (.pick sg xK (.k (.bool false))), .o 70 (.pick vE (.k (.bool true)) A1)]
abbrev S7:AC:= .cond A2 (.seq (.run [.o 2 (.mv (.k (.bool false)))]) .ret) .skip
abbrev S8:AC:= .cond Oz (.seq (.run [.o 2 (.mv (.k (.bool false)))]) .ret) .skip
abbrev OD:AC:= .seq (.seq (.run [.o 71 (.aB bt 3), .o 72 (.load Js false 1), .m 73 c6, .c 74 k6 [EO,Jt], .o 75 (.un .not Ju), .m 76 Jv, .g 77 76 false (.aB bt 4), .g 78 76 false (.load Jw false 1), .g 79 76 false (.mv dZ), .d 80 76 false k6 [A3,Om], .g 81 76 false (.un .not On), .o 82 (.pick EP (.k (.bool true)) Oo), .m 83 Oq, .g 84 83 false (.aB bt 5), .g 85 83 false (.load Ou true 4), .g 86 83 false (.mv bO), .d 87 83 false mK [Ov,Ow], .g 88 83 false (.un .not Ox), .o 89 (.pick Ot (.k (.bool true)) Oy)]) S8) (.seq (.run [.o 90 (.aB bt 10), .o 91 (.load OA false 1), .c 92 oL [OB], .m 2 OC]) .ret)
abbrev OE:AC:= .seq (.seq S6 S7) OD
abbrev Jx:AC:= .seq (.seq (.run [.o 15 (.aB bt 1), .o 16 (.load du false 1)]) (.block 0 QZY)) OE
abbrev OF:AC:= .seq (.run [.o 12 (.aB bt 1), .o 13 (.load cu false 1), .o 14 (.bin .eql cR (.k (.int .i64 4))), .m 9 cG]) Jx
abbrev OG:AC:= .seq Z3 OF
abbrev S9:AC:= .seq (.run [.o 1 (.box bK), .o 2 (.mv (.k (.bool false)))]) OG
end Go.Abs

/-! Have1 -/

namespace Go.Abs
open Go.Proofs
theorem A7:Has Try.prog jY 55 [(2,none)] Xy:=⟨Try.f32,by kernel_rfl,by kernel_rfl⟩
theorem zo:Has Try.prog qS 23 [(2,none)] XC:=⟨Try.f33,by kernel_rfl,by kernel_rfl⟩
theorem mQ:Has Try.prog eh 9 [(4,none)] XD:=⟨Try.f34,by kernel_rfl,by kernel_rfl⟩
theorem uR:Has Try.prog kJ 8 [(3,none)] XE:=⟨Try.f35,by kernel_rfl,by kernel_rfl⟩
theorem oM:Has Try.prog bH 9 [(4,none)] XF:=⟨Try.f36,by kernel_rfl,by kernel_rfl⟩
theorem uS:Has Try.prog iY 26 [(4,none)] XH:=⟨Try.f37,by kernel_rfl,by kernel_rfl⟩
theorem wJ:Has Try.prog lQ 38 [(8,none)] XN:=⟨Try.f38,by kernel_rfl,by kernel_rfl⟩
theorem qp:Has Try.prog oI 15 [(4,none)] XO:=⟨Try.f39,by kernel_rfl,by kernel_rfl⟩
theorem zp:Has Try.prog qT 40 [(4,none)] XU:=⟨Try.f40,by kernel_rfl,by kernel_rfl⟩
theorem wK:Has Try.prog oJ 33 [(4,none)] XY:=⟨Try.f41,by kernel_rfl,by kernel_rfl⟩
theorem sZ:Has Try.prog jw 12 [(4,none)] XZ:=⟨Try.f42,by kernel_rfl,by kernel_rfl⟩
theorem xL:Has Try.prog mD 45 [(2,none)] X5:=⟨Try.f43,by kernel_rfl,by kernel_rfl⟩
theorem rr:Has Try.prog mE 21 [(4,none)] X9:=⟨Try.f46,by kernel_rfl,by kernel_rfl⟩
theorem ry:Has Try.prog mF 28 [(4,none)] Yg:=⟨Try.f47,by kernel_rfl,by kernel_rfl⟩
theorem vG:Has Try.prog lf 41 [(4,none)] Yn:=⟨Try.f48,by kernel_rfl,by kernel_rfl⟩
theorem zq:Has Try.prog qU 36 [(4,(some (true,16))),(5,none),(6,none)] Yv:=⟨Try.f49,by kernel_rfl,by kernel_rfl⟩
theorem zr:Has Try.prog n4 6 [(2,none)] Yw:=⟨Try.f52,by kernel_rfl,by kernel_rfl⟩
theorem A8:Has Try.prog mH 5 [(2,(some (true,4)))] Yy:=⟨Try.f53,by kernel_rfl,by kernel_rfl⟩
theorem zt:Has Try.prog gZ 5 [(2,(some (true,4)))] YA:=⟨Try.f54,by kernel_rfl,by kernel_rfl⟩
theorem A9:Has Try.prog o7 12 [(6,(some (true,4)))] YB:=⟨Try.f55,by kernel_rfl,by kernel_rfl⟩
theorem tU:Has Try.prog gk 29 [(4,none)] YE:=⟨Try.f56,by kernel_rfl,by kernel_rfl⟩
theorem xM:Has Try.prog jG 15 [(2,none)] YJ:=⟨Try.f57,by kernel_rfl,by kernel_rfl⟩
theorem jI:Has Try.prog jZ 27 [(2,none)] YM:=⟨Try.f58,by kernel_rfl,by kernel_rfl⟩
theorem mR:Has Try.prog gx 71 [(6,none)] YX:=⟨Try.f59,by kernel_rfl,by kernel_rfl⟩
theorem tV:Has Try.prog gl 73 [] Y5:=⟨Try.f60,by kernel_rfl,by kernel_rfl⟩
theorem ov:Has Try.prog gS 19 [(4,none)] Za:=⟨Try.f61,by kernel_rfl,by kernel_rfl⟩
theorem xN:Has Try.prog pE 37 [(6,none)] Zk:=⟨Try.f62,by kernel_rfl,by kernel_rfl⟩
theorem l5:Has Try.prog eO 9 [(4,none)] Zl:=⟨Try.f63,by kernel_rfl,by kernel_rfl⟩
theorem uT:Has Try.prog kK 8 [(3,none)] Zm:=⟨Try.f64,by kernel_rfl,by kernel_rfl⟩
theorem ng:Has Try.prog ep 19 [(4,none)] Zr:=⟨Try.f65,by kernel_rfl,by kernel_rfl⟩
theorem rz:Has Try.prog iE 8 [(3,none)] Zs:=⟨Try.f66,by kernel_rfl,by kernel_rfl⟩
theorem rA:Has Try.prog mI 8 [(2,none)] Zv:=⟨Try.f67,by kernel_rfl,by kernel_rfl⟩
theorem xO:Has Try.prog pF 14 [(4,none)] Zw:=⟨Try.f70,by kernel_rfl,by kernel_rfl⟩
theorem rB:Has Try.prog pG 28 [(4,none)] ZD:=⟨Try.f71,by kernel_rfl,by kernel_rfl⟩
theorem sQ:Has Try.prog ji 65 [(10,none)] ZK:=⟨Try.f73,by kernel_rfl,by kernel_rfl⟩
theorem xP:Has Try.prog mJ 9 [(2,none)] ZL:=⟨Try.f74,by kernel_rfl,by kernel_rfl⟩
theorem Ce:Has Try.prog tO 24 [(4,none)] ZN:=⟨Try.f75,by kernel_rfl,by kernel_rfl⟩
theorem Ba:Has Try.prog se 18 [(2,none)] Z2:=⟨Try.f76,by kernel_rfl,by kernel_rfl⟩
theorem wL:Has Try.prog oK 93 [(2,none)] S9:=⟨Try.f77,by kernel_rfl,by kernel_rfl⟩
end Go.Abs

/-! Codes2 -/

namespace Go.Abs
abbrev Ta:AC:= .seq (.block 1 (.seq (.run [.o 13 (.bR dE ct 13), .o 14 (.load cR true 13), .o 5 (.alloc [(.int .i64 0),(.int .i64 0),(.slice .full 0 []),(.str []),(.str []),(.int .i64 0),(.int .i64 0),(.str []),(.slice .full 0 []),(.bool false),(.slice .full 0 []),(.slice .full 0 []),(.slice .full 0 [])]), .op none none (.store bO cG 13)]) (.run [.m 15 c6, .o 16 (.load bO true 13), .c 17 jj [cO], .o 18 (.bin .add du dB), .m 3 dM]))) (.run [.o 19 (.bin .add ct (.k (.int .i64 1))), .m 11 dW])
abbrev Tb:AC:= .block 0 (.loop (.seq (.run [.o 12 (.bin .lss ct cD)]) (.seq (.cond cu .skip (.exit 0)) Ta)))
abbrev Tc:AC:= .seq (.block 3 (.seq (.run [.o 25 (.bR dX eA 13), .o 26 (.load fa true 13), .o 7 (.alloc [(.int .i64 0),(.int .i64 0),(.slice .full 0 []),(.str []),(.str []),(.int .i64 0),(.int .i64 0),(.str []),(.slice .full 0 []),(.bool false),(.slice .full 0 []),(.slice .full 0 []),(.slice .full 0 [])]), .op none none (.store cb fH 13)]) (.run [.m 27 c6, .o 28 (.load cb true 13), .c 29 jj [gm], .o 30 (.bin .add fx gn), .m 3 gG]))) (.run [.o 31 (.bin .add eA (.k (.int .i64 1))), .m 23 gy])
abbrev Td:AC:= .block 2 (.loop (.seq (.run [.o 24 (.bin .lss eA ez)]) (.seq (.cond fj .skip (.exit 2)) Tc)))
abbrev Te:AC:= .seq (.seq (.run [.o 20 (.aB bt 12), .o 21 (.load ei false 1), .o 22 (.len dX), .o 23 (.mv (.k (.int .i64 0)))]) Td) (.seq (.run [.m 32 c6, .m 2 gA]) .ret)
abbrev Tf:AC:= .seq (.seq (.run [.o 8 (.aB bt 11), .o 9 (.load cL false 1), .o 10 (.len dE), .o 11 (.mv (.k (.int .i64 0)))]) Tb) Te
abbrev Tg:AC:= .seq (.run [.o 1 (.box bK), .o 2 (.mv (.k (.int .i64 0)))]) (.seq (.run [.o 3 (.mv (.k (.int .i64 1)))]) Tf)
abbrev Ti:AC:= .seq (.run [.o 1 (.box bK), .o 2 (.mv (.k (.bool false)))]) (.seq (.run [.o 3 (.load bt true 4), .c 4 lK [c6,(.k (.int .i64 20))], .m 2 dZ]) .ret)
abbrev Tj:AC:= .seq (.block 1 (.seq (.run [.o 27 (.bR eA fa 4), .o 28 (.load fx true 4), .o 6 (.alloc [(.int .i64 0),(.int .i64 0),(.str []),(.slice .full 0 [])]), .op none none (.store de gm 4)]) (.run [.o 29 (.load de true 4), .m 30 bt, .c 31 fB [gn,gG], .m 1 gy]))) (.run [.o 32 (.bin .add fa (.k (.int .i64 1))), .m 25 gA])
abbrev Tk:AC:= .block 0 (.loop (.seq (.run [.o 26 (.bin .lss fa fj)]) (.seq (.cond fH .skip (.exit 0)) Tj)))
abbrev Tl:AC:= .seq (.seq (.run [.o 22 (.aB dd 3), .o 23 (.load ez false 1), .o 24 (.len eA), .o 25 (.mv (.k (.int .i64 0)))]) Tk) (.seq (.run [.m 33 bt, .m 4 gH]) .ret)
abbrev Tn:AC:= .seq (.seq (.run [.o 7 (.aB dd 0), .o 8 (.load cb false 1), .o 9 (.bin .eql cL (.k (.int .i64 2))), .m 10 dE, .g 11 10 true (.mv bt), .g 12 10 true (.aB dd 2), .g 13 10 true (.load cu false 1), .d 14 10 true bH [ct,cR], .g 15 10 true (.un .not cG), .o 16 (.pick cD du (.k (.bool false)))]) (.cond cO (.run [.m 17 bt, .o 18 (.aB dd 2), .o 19 (.load dM false 1), .o 20 (.dc [(.str [])] 1 1 [(0,dW)]), .o 21 (.app 1 16 dB ei), .m 1 dX]) .skip)) Tl
abbrev To:AC:= .seq (.run [.o 2 (.box bK), .o 4 (.mv (.k (.slice .full 0 [])))]) Tn
abbrev Tp:AC:= .seq (.run [.o 2 (.mv (.k (.bool false)))]) (.seq (.run [.m 3 bK, .o 4 (.bin .geq c6 (.k (.int .u8 48))), .m 5 dZ, .g 6 5 true (.mv bK), .g 7 5 true (.bin .leq de (.k (.int .u8 57))), .o 8 (.pick bO cb (.k (.bool false))), .m 2 cL]) .ret)
abbrev Tq:AC:= .seq (.run [.o 4 (.mv (.k (.bool false)))]) (.seq (.run [.m 5 bt, .m 6 bO, .g 7 6 true (.mv bK), .d 8 6 true jZ [cb], .o 9 (.pick de cL (.k (.bool false))), .m 10 dE, .g 11 10 false (.mv bt), .g 12 10 false (.un .not ct), .g 13 10 false (.mv cu), .g 14 13 true (.mv bK), .g 15 13 true (.bin .eql cG (.k (.str []))), .g 16 10 false (.pick cR du (.k (.bool false))), .o 17 (.pick cD (.k (.bool true)) cO), .m 4 dB]) .ret)
abbrev Tr:AC:= .seq (.run [.o 2 (.box bK), .o 4 (.mv (.k (.bool false)))]) (.seq (.run [.m 5 bt, .m 6 bO, .g 7 6 true (.load dd true 4), .d 8 6 true lg [cb], .o 9 (.pick de cL (.k (.bool false))), .m 10 dE, .g 11 10 false (.mv bt), .g 12 10 false (.un .not ct), .g 13 10 false (.mv cu), .g 14 13 true (.load dd true 4), .d 15 13 true qW [cG], .g 16 10 false (.pick cR du (.k (.bool false))), .o 17 (.pick cD (.k (.bool true)) cO), .m 4 dB]) .ret)
abbrev Ts:AC:= .cond fa (.seq (.run [.o 2 (.mv (.k (.bool false)))]) .ret) .skip
abbrev Tt:AC:= .seq (.run [.o 9 (.bR bO cb 6), .o 10 (.load dE true 6), .o 4 (.alloc [(.bool false),(.str []),(.int .i64 0),(.int .i64 0),(.str []),(.slice .full 0 [])]), .op none none (.store dZ cD 6)]) (.seq (.run [.o 11 (.aB dZ 1), .o 12 (.load ct false 1), .o 13 (.aB dZ 0), .o 14 (.load cR false 1), .c 15 k6 [cu,cG], .o 16 (.un .not du), .m 17 cO, .g 18 17 false (.aB dZ 2), .g 19 17 false (.load dM true 4), .g 20 17 false (.aB dZ 0), .g 21 17 false (.load ei false 1), .g 22 17 false (.un .not dX), .d 23 17 false mK [dW,ez], .g 24 17 false (.un .not eA), .o 25 (.pick dB (.k (.bool true)) fj)]) Ts)
abbrev Tv:AC:= .seq (.cond cL .skip (.exit 0)) (.seq (.block 1 Tt) (.run [.o 26 (.bin .add cb (.k (.int .i64 1))), .m 7 fH]))
abbrev Tw:AC:= .seq (.run [.m 5 bK, .o 6 (.len bO), .o 7 (.mv (.k (.int .i64 0)))]) (.block 0 (.loop (.seq (.run [.o 8 (.bin .lss cb de)]) Tv)))
abbrev Tx:AC:= .seq Tw (.seq (.run [.o 2 (.mv (.k (.bool true)))]) .ret)
abbrev Ty:AC:= .seq (.run [.o 2 (.mv (.k (.bool false)))]) Tx
abbrev Tz:AC:= .par [.m 7 bt, .o 8 (.bin .lss cb (.k (.int .i64 1))), .m 9 cL, .g 10 9 false (.aB dd 3), .g 11 9 false (.load cD false 1), .g 12 9 false (.len ct), .g 13 9 false (.aB dd 0), .g 14 9 false (.load cR false 1), .d 15 9 false qX [cG], .g 16 9 false (.bin .neq cu du), .o 17 (.pick dE (.k (.bool true)) cO)] [(0,0),(1,0),(2,0),(6,0),(7,0),(8,0),(3,0),(4,1),(5,0),(9,0),(10,0)]
abbrev TA:AC:= .cond dB (.seq (.run [.o 4 (.mv (.k (.bool false)))]) .ret) .skip
abbrev TB:AC:= .cond gG (.seq (.run [.o 32 (.aB dd 1), .o 33 (.load gA false 1), .o 34 (.bin .eql gH (.k (.int .i64 0))), .m 35 jk, .g 36 35 true (.aB dd 2), .g 37 35 true (.load jH false 1), .d 38 35 true jZ [kz], .o 39 (.pick iB lA (.k (.bool false))), .m 4 kA]) .ret) .skip
abbrev TC:AC:= .cond ei (.seq (.run [.o 22 (.aB dd 1), .o 23 (.load ez false 1), .o 24 (.bin .geq eA (.k (.int .i64 0))), .m 25 fj, .g 26 25 true (.aB dd 2), .g 27 25 true (.load fH false 1), .g 28 25 true (.bin .eql fx (.k (.str []))), .o 29 (.pick fa gm (.k (.bool false))), .m 4 gn]) .ret) (.seq (.run [.o 31 (.bin .eql dW (.k (.int .i64 2))), .m 30 gy]) TB)
abbrev TD:AC:= .block 0 (.seq (.run [.o 21 (.bin .eql dW (.k (.int .i64 1))), .m 20 dX]) TC)
abbrev TE:AC:= .cond nI (.seq (.run [.o 4 (.mv (.k (.bool false)))]) .ret) .skip
abbrev TF:AC:= .cond mP (.seq (.run [.o 4 (.mv (.k (.bool false)))]) .ret) .skip
abbrev TG:AC:= .seq (.run [.o 53 (.bR mO lZ 4), .o 54 (.load nM true 4), .o 6 (.alloc [(.int .i64 0),(.int .i64 0),(.str []),(.slice .full 0 [])]), .op none none (.store de nN 4)]) (.seq (.run [.o 55 (.load de true 4), .m 56 bt, .o 57 (.bin .sub pI (.k (.int .i64 1))), .c 58 lK [pH,pJ], .o 59 (.un .not pK)]) TF)
abbrev TH:AC:= .seq (.cond nL .skip (.exit 1)) (.seq (.block 2 TG) (.run [.o 60 (.bin .add lZ (.k (.int .i64 1))), .m 51 sf]))
abbrev TI:AC:= .seq (.run [.o 48 (.aB dd 3), .o 49 (.load nJ false 1), .o 50 (.len mO), .o 51 (.mv (.k (.int .i64 0)))]) (.block 1 (.loop (.seq (.run [.o 52 (.bin .lss lZ nK)]) TH)))
abbrev TJ:AC:= .seq TI (.seq (.run [.o 4 (.mv (.k (.bool true)))]) .ret)
abbrev TK:AC:= .seq (.seq (.run [.o 40 (.aB dd 1), .o 41 (.load lY false 1), .o 42 (.bin .neq lB (.k (.int .i64 0))), .m 43 mL, .g 44 43 false (.aB dd 2), .g 45 43 false (.load mN false 1), .g 46 43 false (.bin .neq nG (.k (.str []))), .o 47 (.pick mM (.k (.bool true)) nH)]) TE) TJ
abbrev TL:AC:= .seq (.run [.o 2 (.box bK), .o 4 (.mv (.k (.bool false)))]) (.seq (.seq Tz TA) (.seq (.seq (.run [.o 18 (.aB dd 0), .o 19 (.load dM false 1)]) TD) TK))
abbrev TN:AC:= .seq (.run [.o 1 (.box bK), .o 2 (.mv (.k (.bool false)))]) (.seq (.run [.o 3 (.aB bt 0), .o 4 (.load c6 false 1), .o 5 (.bin .eql dZ (.k (.int .i64 0))), .m 6 bO, .g 7 6 true (.aB bt 1), .g 8 6 true (.load cb false 1), .g 9 6 true (.bin .eql cL (.k (.int .i64 0))), .o 10 (.pick de dE (.k (.bool false))), .m 11 cD, .g 12 11 true (.aB bt 2), .g 13 11 true (.load cu false 1), .g 14 11 true (.bin .eql cR (.k (.str []))), .o 15 (.pick ct cG (.k (.bool false))), .m 16 du, .g 17 16 true (.aB bt 3), .g 18 16 true (.load dB false 1), .g 19 16 true (.len dM), .g 20 16 true (.bin .eql dW (.k (.int .i64 0))), .o 21 (.pick cO ei (.k (.bool false))), .m 2 dX]) .ret)
abbrev TO:AC:= .cond dB (.seq (.run [.o 2 (.mv (.k (.int .i64 2)))]) .ret) .skip
abbrev TP:AC:= .cond cD (.seq (.run [.o 2 (.mv (.k (.int .i64 1)))]) .ret) (.seq (.run [.m 18 bK, .o 19 (.bin .geq dM (.k (.int .i64 5))), .m 20 dW, .g 21 20 true (.mv bK), .g 22 20 true (.bin .leq dX (.k (.int .i64 17))), .o 23 (.pick ei ez (.k (.bool false))), .m 17 eA]) TO)
abbrev TQ:AC:= .cond c6 (.seq (.run [.o 2 (.mv (.k (.int .i64 0)))]) .ret) (.seq (.run [.m 11 bK, .o 12 (.bin .eql ct (.k (.int .i64 3))), .m 13 cu, .g 14 13 false (.mv bK), .g 15 13 false (.bin .eql cG (.k (.int .i64 4))), .o 16 (.pick cR (.k (.bool true)) du), .m 10 cO]) TP)
abbrev TR:AC:= .block 0 (.seq (.run [.m 4 bK, .o 5 (.bin .eql dZ (.k (.int .i64 1))), .m 6 bO, .g 7 6 false (.mv bK), .g 8 6 false (.bin .eql cb (.k (.int .i64 2))), .o 9 (.pick de (.k (.bool true)) cL), .m 3 dE]) TQ)
abbrev TS:AC:= .seq (.run [(.o 2 (.mv (.k (.int .i64 (-1)))))]) .ret
abbrev TT:AC:= .seq (.run [.o 2 (.mv (.k (.int .i64 0)))]) (.seq TR TS)
end Go.Abs

/-! Have2 -/

namespace Go.Abs
open Go.Proofs
theorem zu:Has Try.prog jj 33 [(2,none)] Tg:=⟨Try.f78,by kernel_rfl,by kernel_rfl⟩
theorem vH:Has Try.prog lg 5 [(2,none)] Ti:=⟨Try.f79,by kernel_rfl,by kernel_rfl⟩
theorem mS:Has Try.prog fB 34 [(4,none)] To:=⟨Try.f80,by kernel_rfl,by kernel_rfl⟩
theorem zv:Has Try.prog qV 9 [(2,none)] Tp:=⟨Try.f93,by kernel_rfl,by kernel_rfl⟩
theorem xQ:Has Try.prog k6 18 [(4,none)] Tq:=⟨Try.f94,by kernel_rfl,by kernel_rfl⟩
theorem xR:Has Try.prog mK 18 [(4,none)] Tr:=⟨Try.f95,by kernel_rfl,by kernel_rfl⟩
theorem wM:Has Try.prog oL 27 [(2,none)] Ty:=⟨Try.f96,by kernel_rfl,by kernel_rfl⟩
theorem sR:Has Try.prog lK 61 [(4,none)] TL:=⟨Try.f97,by kernel_rfl,by kernel_rfl⟩
theorem zw:Has Try.prog qW 22 [(2,none)] TN:=⟨Try.f104,by kernel_rfl,by kernel_rfl⟩
theorem zz:Has Try.prog qX 24 [(2,none)] TT:=⟨Try.f105,by kernel_rfl,by kernel_rfl⟩
end Go.Abs

/-! Have3 -/



/-! Frz -/

namespace Go.Abs
theorem aI.s8 {P:Program} {f:Nat} {args:List D} {s0 s:St} {o off n m:Nat} {row:List D} (h:aI P f args s0 (.ptr o off) s) (ho:s.au[o]? = some row) (hn:s0.au.length≤n) (hno:n≤o) (hm:s0.av.length≤m) :
 aI P f args s0 (.cV (D.fk n m row) off) (s.cut n m):=by
 intro M0 w0 eH r0 iD TU ha
 refine(h M0 w0 eH r0 iD TU ha).mono ?_
 rintro en w ⟨M,d,v0,s',rfl,⟨rfl,rfl⟩,e,r,hv⟩
 have rh:=hv.tn
 have nD:v0 = .pointer (some ⟨M.mu o,off,none⟩):=hv.nz.1
 have ER:o<s'.au.length:=(List.getElem?_eq_some_iff.1 ho).1
 obtain⟨vs,T,hh,dJ,⟨jW,_⟩,lH⟩:=r.obj o row ho
 replace hh:=hh.cells rh
 let M':Map:= {M with G:=fun b q=>if b=M.mu o then vs[q]? else M.G b q}
 have hGo : ∀ q,M.G (M.mu o) q=none:=r.im o ER
 have le:Le M s' M' s':=⟨fun b q v hq=>by
  show(if b=M.mu o then vs[q]? else M.G b q)=some v
  by_cases hb:b=M.mu o
  ·subst hb;rw [hGo]at hq;cases hq
  ·rw [if_neg hb];exact hq,Nat.le_refl _,fun _ _=>rfl,Nat.le_refl _,fun t n' _ e=>⟨n',e,Nat.le_refl _,fun _=>rfl⟩⟩
 have hD : ∀ q,q<(s'.cut n m).au.length→q<s'.au.length∧q≠o:=fun q h=>by rw [lU]at h;omega
 have qq:w0.heap.size≤M.mu o:=e.mj o (by omega) ER
 have ec:=e.cut hn hm
 have OH:Le M (s'.cut n m) M' (s'.cut n m):=⟨le.G,Nat.le_refl _,fun _ _=>rfl,Nat.le_refl _,fun t n' _ e=>⟨n',e,Nat.le_refl _,fun _=>rfl⟩⟩
 have rc:=r.cut n m
 have oa : ∀ b,b≠M.mu o→∀ q,M'.G b q=M.G b q:=fun b hb q=>if_neg hb
 refine⟨M',_,v0,_,rfl,⟨rfl,rfl⟩,⟨ec.le.trans OH,ec.kept,ec.mj,ec.ml,fun b q dS=> ?_,ec.size,ec.os,ec.tape,ec.output⟩,⟨fun b q v hq=> ?_,fun q ds hq=> ?_,fun q hq qF=> ?_,rc.inj,fun t n' FO=> ?_,rc.dN,rc.eC⟩, ?_⟩
 ·by_cases hb:b=M.mu o
  ·subst hb;exact .inl qq
  ·rw [oa b hb]at dS;exact ec.oB b q dS
 ·have nk:(if b=M.mu o then vs[q]? else M.G b q)=some v:=hq
  by_cases hb:b=M.mu o
  ·rw [if_pos hb]at nk
   rw [hb,gY hh]
   exact⟨nk,jW v (Array.mem_of_getElem? nk)⟩
  ·rw [if_neg hb]at nk
   exact r.comm b q v nk
 ·obtain⟨dY,T',h3,h4,h5,h6⟩:=rc.obj q ds hq
  exact⟨dY,T',h3,h4,h5,fun i d v e1 e2=>(h6 i d v e1 e2).mono OH⟩
 ·obtain⟨h3,h4⟩:=hD q hq
  show M'.G (M.mu q) qF=none
  rw [oa _ (fun e=>h4 (r.inj q o h3 ER e))]
  exact r.im q h3 qF
 ·rcases rc.tok t n' FO with h3 | ⟨b,cap,z,dY,T',h3,h4,h5,h6,h7⟩
  ·exact .inl h3
  ·refine .inr ⟨b,cap,z,dY,T',h3,h4,h5,h6,fun qF vz=> ?_,h7.2⟩
   rw [oa _ (fun e=>r.dN t b cap z o (pz ⟨n',FO⟩) h3 ER e.symm)]
   exact h7.1 qF vz
 ·rw [nD]
  have:=RD.cV (M:=M') (s:=s'.cut n m) (D.fk n m row) off (M.mu o) 0 (fun i d e1=> ?_) (fun i d u e1 eu=> ?_)
  ·simpa using this
  ·rw [kh,List.getElem?_map,Option.map_eq_some_iff]at e1
   obtain⟨d0,e1,rfl⟩:=e1
   have hi:=(List.getElem?_eq_some_iff.1 e1).1
   refine⟨vs[i]'(by omega), ?_⟩
   show(if M.mu o=M.mu o then vs[0+i]? else _)=_
   rw [if_pos rfl,Nat.zero_add]
   exact Array.getElem?_eq_getElem _
  ·rw [kh,List.getElem?_map,Option.map_eq_some_iff]at e1
   obtain⟨d0,e1,rfl⟩:=e1
   have CC:(if M.mu o=M.mu o then vs[0+i]? else M.G (M.mu o) (0+i))=some u:=eu
   rw [if_pos rfl,Nat.zero_add]at CC
   exact((lH i d0 u e1 CC).fg n m).mono OH
theorem aI.goK {P:Program} {f:FuncId} {res:List (Nat×Option (Bool×Nat))} {body:AC} {args:List D} {s:St} {d:D} {s':St} {nt:Nat} (n m:Nat) (hn:s.au.length≤n) (hm:s.av.length≤m) (h0:Has P f nt res body) (hl:Nat.ble args.length nt=true)
 (h : ∀ (B:fh) (Q:Exit→Tm→St→Prop),B.s=s→nE n m res d s'=Q→iA P B nt body Q (kG 0 args) s):aI P f args s d s':=by
 obtain⟨fn,hf,hc⟩:=h0
 refine dA.KH (dA.intro (Q:=fun d1 s1=>Wk d1 d∧fK s1.au s'.au∧s1.av=s'.av) hf hc (Nat.le_of_ble_eq_true hl) fun B hB=>(gw (h B _ hB rfl)).mono fun e tm s1 hr=> ?_) fun d1 s1 ⟨h1,h2,h3⟩=>⟨d,s',h1,h2,h3,rfl,rfl⟩
 subst hB
 cases e with
 | normal=>obtain⟨l,h1,h2,h3,h4⟩:=hr;exact⟨l,h1,_,_,hn,hm,h2,h3,h4⟩
 | ret=>obtain⟨l,h1,h2,h3,h4⟩:=hr;exact⟨l,h1,_,_,hn,hm,h2,h3,h4⟩
 | exit id=>exact hr.elim
 | goto l=>exact hr.elim
 | panic ch=>exact hr.elim
 | outgrown=>exact hr.elim
end Go.Abs

/-! MirLex -/

namespace Go.Abs
def tW (c:UInt8):Bool:=decide ((c.toNat:Int)≥97) && decide ((c.toNat:Int)≤122)
def wN (c:UInt8):Bool:=decide ((c.toNat:Int)≥48) && decide ((c.toNat:Int)≤57)
def isB (c:UInt8):Bool:=(c.toNat:Int)==32 || (c.toNat:Int)==9 || (c.toNat:Int)==10 || (c.toNat:Int)==13
def k8:aD→Nat
 | []=>0
 | c::r=>if tW c || wN c then k8 r+1 else 0
def OI:aD→Nat
 | []=>0
 | c::r=>if wN c then OI r+1 else 0
def ET:aD→Nat
 | []=>0
 | c::r=>if(c.toNat:Int) != 10 then ET r+1 else 0
def isWord (s:aD):Bool:=
 s == [103,108,111,98,97,108] || s == [112,114,111,99] || s == [118,97,114] || s == [114,101,102] || s == [105,102] || s == [101,108,115,101] || s == [119,104,105,108,101] || s == [98,114,101,97,107] || s == [99,111,110,116,105,110,117,101] || s == [114,101,116,117,114,110] || s == [103,111,116,111] || s == [114,101,97,100] || s == [112,114,105,110,116]
def QS (s:aD):Bool:=s == [61,61] || s == [33,61] || s == [60,61] || s == [62,61] || s == [38,38] || s == [124,124]
def Lc (c:UInt8):Bool:=
 (c.toNat:Int)==40 || (c.toNat:Int)==41 || (c.toNat:Int)==123 || (c.toNat:Int)==125 || (c.toNat:Int)==44 || (c.toNat:Int)==59 || (c.toNat:Int)==58 || (c.toNat:Int)==61 ||
 (c.toNat:Int)==33 || (c.toNat:Int)==60 || (c.toNat:Int)==62 || (c.toNat:Int)==43 || (c.toNat:Int)==45 || (c.toNat:Int)==42 || (c.toNat:Int)==47 || (c.toNat:Int)==37
def Ld:aD→Nat
 | []=>0
 | [c]=>if Lc c then 1 else 0
 | c::d::_=>if QS [c,d]then 2 else if Lc c then 1 else 0
def EU:Int→aD→Option Int
 | n,[]=>some n
 | n,c::r=>if n > (9223372036854775807 - ((c.toNat:Int) - 48)) / 10 then none else EU (n*10+((c.toNat:Int) - 48)) r
def TV (pos:Nat):aD→lI ⊕ Int
 | []=> .inr 2
 | c::r=>
  if tW c then
   let s:=(c::r).take (k8 (c::r))
   if s.length > 8 then .inr 4 else .inl ⟨if isWord s then 3 else 1,s,0,pos⟩
  else if wN c then
   let s:=(c::r).take (OI (c::r))
   if s.length > 1∧(c.toNat:Int)=48 then .inr 2 else
   match EU 0 s with
   | some n=> .inl ⟨2,s,n,pos⟩
   | none=> .inr 4
  else
   if Ld (c::r)=0 then .inr 2 else .inl ⟨4,(c::r).take (Ld (c::r)),0,pos⟩
def EV:Nat→Nat→aD→List lI→List lI×Int×Int
 | 0,_,_,_=>([],0,0)
 | _+1,pos,[],out=>(out++ [⟨0,[],0,pos⟩],0,0)
 | n+1,pos,c::r,out=>
  if isB c then EV n (pos+1) r out
  else if(c.toNat:Int)==35 then EV n (pos+ET (c::r)) ((c::r).drop (ET (c::r))) out
  else match TV pos (c::r)with
   | .inr e=>([],e,pos)
   | .inl t=>if out.length=2000 then([],4,pos)else EV n (pos+t.text.length) ((c::r).drop t.text.length) (out++ [t])
def rC (text:aD):List lI×Int×Int:=if text.length > 100000 then([],4,0)else EV (text.length+1) 0 text []
end Go.Abs

/-! MirMay -/

namespace Go.Abs
def uI:aD→Bool
 | []=>true
 | c::r=>if !(tW c) && !(wN c)then false else uI r
def isName:aD→Bool
 | []=>false
 | c::r=>if decide (((r.length+1:Nat):Int) > 8) || !(tW c)then false else if uI r then !(isWord (c::r))else false
def lL (op:Int):Int:=if op==1 || op==2 then 0 else if op==3 || op==4 then 1 else if decide (op≥5) && decide (op≤17)then 2 else -1
mutual
def Ex.form:Ex→Bool
 | ⟨op,n,name,kids⟩=>
  if lL op != (kids.length:Int) || (op != 1 && n != 0) || decide (n<0) || !((op==2) == !(name == [])) || (!(name == []) && !(isName name))then false else Ex.n5 kids
def Ex.n5:List Ex→Bool
 | []=>true
 | x::l=>if !(Ex.form x)then false else Ex.n5 l
end
mutual
def Ex.texts:Ex→Prop
 | ⟨_,_,name,kids⟩=>name.length<4611686018427387904∧Ex.pL kids
def Ex.pL:List Ex→Prop
 | []=>True
 | x::l=>x.texts∧Ex.pL l
end
theorem Ex.wO {x:Ex} : ∀ {l:List Ex},Ex.pL l→x∈l→x.texts
 | y::l,h,m=>by
  rcases List.mem_cons.1 m with rfl | m
  ·exact h.1
  ·exact Ex.wO h.2 m
theorem Ex.GU {op n:Int} {name:aD} {kids:List Ex} (h:Ex.texts ⟨op,n,name,kids⟩) {y:Ex} (m:y∈kids):y.texts:=Ex.wO h.2 m
def Ex.may (x:Ex):Bool:=decide (((min x.depth 21:Nat):Int)≤20) && x.form
def Ex.none (x:Ex):Bool:=x.op==0 && x.n==0 && x.name == [] && (x.kids.length:Int)==0
def dk:List aD→Bool
 | []=>true
 | s::l=>if !(isName s)then false else dk l
def Ar.may (a:Ar):Bool:=if a.ref then isName a.name && a.x.none else a.name == [] && a.x.may
def Ar.ej:List Ar→Bool
 | []=>true
 | a::l=>if !(a.may)then false else Ar.ej l
def Sm.EW (s:Sm):Bool:=s.kind==1 || s.kind==3 || s.kind==5 || s.kind==6 || (s.kind==9 && s.has)
def Sm.hasName (s:Sm):Bool:=s.kind==1 || s.kind==2 || s.kind==10
def Sm.rD (s:Sm):Bool:=s.kind==4
def Sm.one (s:Sm):Bool:=
 if decide (s.kind<1) || decide (s.kind > 10) || !(dk s.labels) || (s.EW && !(s.x.may)) || (!(s.EW) && !(s.x.none)) || (s.has && s.kind != 9)then false
 else if(s.hasName && !(isName s.name)) || (!(s.hasName) && !(s.name == []) && !(s.rD && isName s.name))then false
 else if !(s.rD == !(s.proc == [])) || (s.rD && !(isName s.proc)) || (!(s.rD) && decide ((s.args.length:Int) > 0))then false
 else if !(Ar.ej s.args)then false
 else((s.aZ.length:Int)==0 || s.kind==5 || s.kind==6) && ((s.aQ.length:Int)==0 || s.kind==5)
structure It where
 s:Sm
 deep:Int
 bD:Int
 aQ:Bool
mutual
def fC (deep bD:Int) (aQ:Bool) (out:List It):Sm→List It
 | ⟨id,kind,labels,name,proc,x,has,args,aZ,e⟩=>
  if decide (deep≤12)then cw (deep+1) id true (cw (deep+1) id false (out++ [⟨⟨id,kind,labels,name,proc,x,has,args,aZ,e⟩,deep,bD,aQ⟩]) aZ) e
  else out++ [⟨⟨id,kind,labels,name,proc,x,has,args,aZ,e⟩,deep,bD,aQ⟩]
def cw (deep bD:Int) (aQ:Bool) (out:List It):List Sm→List It
 | []=>out
 | s::l=>if decide ((out.length:Int)≤200)then cw deep bD aQ (fC deep bD aQ out s) l else out
end
def Pc.flat (f:Pc):List It:=cw 1 0 false [] f.body
def allM (out:List It):List Pc→List It
 | []=>out
 | f::l=>if decide (((out++f.flat).length:Int) > 200)then out++f.flat else allM (out++f.flat) l
def Pg.all (p:Pg):List It:=allM [] p.procs
def Pm.ej:List Pm→Bool
 | []=>true
 | a::l=>if !(isName a.name)then false else Pm.ej l
def Pc.lR:List Pc→Bool
 | []=>true
 | f::l=>
  if !(isName f.name) || decide ((f.params.length:Int) > 8) || decide ((f.vars.length:Int) > 16) || !(dk f.vars) || !(dk f.fin)then false
  else if !(Pm.ej f.params)then false else Pc.lR l
def It.ej (n:Nat):List It→Bool
 | []=>true
 | i::l=>if i.s.id != ((n+1:Nat):Int) || decide (i.deep > 12) || !(i.s.one)then false else It.ej (n+1) l
def Pg.may (p:Pg):Bool:=
 if decide ((p.globals.length:Int) > 16) || decide ((p.procs.length:Int) > 16) || !(dk p.globals)then false
 else if !(Pc.lR p.procs)then false
 else if decide ((p.all.length:Int) > 200)then false else It.ej 0 p.all
end Go.Abs

/-! Prs -/

namespace Go.Abs
open Go.Proofs
@[go_sem] def abu (r:Rd):List D:= [.slice .shared 4 (r.l.map gd), .int .i64 r.i, .int .i64 r.code, .int .i64 r.AZ, .int .i64 r.n]
end Go.Abs

/-! Lex1 -/

namespace Go.Abs
set_option maxRecDepth 8000
open Go.Proofs
theorem nO (c:UInt8) (s:St):aI Try.prog mJ [.int .u8 (c.toNat:Int)] s (.bool (tW c)) s:=by
 refine aI.pure ?_ rfl rfl s
 generalize h:tW c=b
 unfold tW at h
 unfold S0
 refine aI.go xP rfl fun B Q hB hQ=> ?_
 have⟨hD,hJ,hP,hY⟩:=bZ
 repeat' (first
 | simp only [go_sem,hD,hJ,hP,hY]
 | (with_reducible first | refine cy fun hc=> ?_ | refine cz fun hc=> ?_ | refine cA (fun hc=> ?_) fun hc=> ?_) <;> (try simp only [hc,bs, ↓reduceIte]at h) <;> try simp only [hc]
 | (with_reducible refine aJ hQ ?_;exact jE)
 | (cases h;done))
theorem xS (c:UInt8) (s:St):aI Try.prog qV [.int .u8 (c.toNat:Int)] s (.bool (wN c)) s:=by
 refine aI.pure ?_ rfl rfl s
 generalize h:wN c=b
 unfold wN at h
 unfold S0
 refine aI.go zv rfl fun B Q hB hQ=> ?_
 have⟨hD,hJ,hP,hY⟩:=bZ
 repeat' (first
 | simp only [go_sem,hD,hJ,hP,hY]
 | (with_reducible first | refine cy fun hc=> ?_ | refine cz fun hc=> ?_ | refine cA (fun hc=> ?_) fun hc=> ?_) <;> (try simp only [hc,bs, ↓reduceIte]at h) <;> try simp only [hc]
 | (with_reducible refine aJ hQ ?_;exact jE)
 | (cases h;done))
theorem OM (t:aD) (s:St):aI Try.prog se [.str t] s (.bool (isWord t)) s:=by
 refine aI.pure ?_ rfl rfl s
 generalize h:isWord t=b
 unfold isWord at h
 unfold S0
 refine aI.go Ba rfl fun B Q hB hQ=> ?_
 have⟨hD,hJ,hP,hY⟩:=bZ
 repeat' (first
 | simp only [go_sem,hD,hJ,hP,hY]
 | (with_reducible first | refine cy fun hc=> ?_ | refine cz fun hc=> ?_ | refine cA (fun hc=> ?_) fun hc=> ?_) <;> (try simp only [hc,bs, ↓reduceIte]at h) <;> try simp only [hc]
 | (with_reducible refine aJ hQ ?_;exact jE)
 | (cases h;done))
theorem QT {text:aD} {pos:Nat} (hl:text.length<4611686018427387904) (s:St):aI Try.prog tO [.str text, .int .i64 (pos:Int)] s (.int .i64 ((pos+k8 (text.drop pos):Nat):Int)) s:=by
 refine aI.pure ?_ rfl rfl s
 unfold S0
 refine aI.go Ce rfl fun B Q hB hQ=> ?_
 have⟨hD,hJ,hP,hY⟩:=bZ
 repeat' (first
 | simp only [go_sem,hD,hJ,hP,hY]
 | (with_reducible first | refine cy fun hc=> ?_ | refine cz fun hc=> ?_ | refine cA (fun hc=> ?_) fun hc=> ?_) <;> (try simp only [hc,bs, ↓reduceIte]at h) <;> try simp only [hc]
 | (with_reducible refine aJ hQ ?_;exact jE)
 | (cases h;done))
 refine dD 0 0 (bp.ind (ι:=aD×Nat) (fun i=>text.drop i.2=i.1∧i.2+k8 i.1=pos+k8 (text.drop pos)) (fun i=>i.1.length)
  (fun i=> [(0, .str text),(1, .int .i64 (i.2:Int))]) (fun i=>⟨[],[]⟩) ?_ (text.drop pos,pos) ⟨rfl,rfl⟩)
 rintro⟨rest,k⟩ ⟨h1,h2⟩ IH
 dsimp only at h1 h2
 cases rest with
 | nil=>
  have hD:=drop_nil h1
  simp only [k8,Nat.add_zero]at h2
  rw [← h2]at hQ
  repeat' (first
 | simp only [go_sem,hD,hJ,hP,hY]
 | (with_reducible first | refine cy fun hc=> ?_ | refine cz fun hc=> ?_ | refine cA (fun hc=> ?_) fun hc=> ?_) <;> (try simp only [hc,bs, ↓reduceIte]at h) <;> try simp only [hc]
 | (with_reducible refine aJ hQ ?_;exact jE)
 | (cases h;done))
 | cons c rest=>
  obtain⟨hJ,g2,hD,g4⟩:=drop_cons h1
  have hP:k<4611686018427387904:=by omega
  cases hb:(tW c || wN c)
  ·simp only [k8,hb,Bool.false_eq_true, ↓reduceIte,Nat.add_zero]at h2
   rw [← h2]at hQ
   simp only [Bool.or_eq_false_iff]at hb
   repeat' (first
 | simp only [go_sem,hD,hJ,hP,hY,hb.1,hb.2]
 | (with_reducible refine CU (nO _ _) ?_)
 | (with_reducible refine CU (xS _ _) ?_)
 | (with_reducible first | refine cy fun hc=> ?_ | refine cz fun hc=> ?_ | refine cA (fun hc=> ?_) fun hc=> ?_) <;> (try simp only [hc,bs, ↓reduceIte]at h) <;> try simp only [hc]
 | (with_reducible refine aJ hQ ?_;(try cases h);simp only [ay,az,c9,da,go_sem,hD,hJ,hP,hY,hb.1,hb.2];try exact lq)
 | (cases h;done))
  ·simp only [k8,hb, ↓reduceIte]at h2
   cases wx:tW c
   ·rw [wx,Bool.false_or]at hb
    repeat' (first
 | simp only [go_sem,hD,hJ,hP,hY,hb,wx]
 | (with_reducible refine CU (nO _ _) ?_)
 | (with_reducible refine CU (xS _ _) ?_)
 | (with_reducible first | refine cy fun hc=> ?_ | refine cz fun hc=> ?_ | refine cA (fun hc=> ?_) fun hc=> ?_) <;> (try simp only [hc,bs, ↓reduceIte]at h) <;> try simp only [hc]
 | (with_reducible refine aJ hQ ?_;(try cases h);simp only [ay,az,c9,da,go_sem,hD,hJ,hP,hY,hb,wx];try exact lq)
 | (cases h;done))
    refine dD 0 0 (IH (rest,k+1) ⟨g2,by dsimp only;omega⟩ (Nat.lt_succ_self _))
   ·repeat' (first
 | simp only [go_sem,hD,hJ,hP,hY,wx]
 | (with_reducible refine CU (nO _ _) ?_)
 | (with_reducible refine CU (xS _ _) ?_)
 | (with_reducible first | refine cy fun hc=> ?_ | refine cz fun hc=> ?_ | refine cA (fun hc=> ?_) fun hc=> ?_) <;> (try simp only [hc,bs, ↓reduceIte]at h) <;> try simp only [hc]
 | (with_reducible refine aJ hQ ?_;(try cases h);simp only [ay,az,c9,da,go_sem,hD,hJ,hP,hY,wx];try exact lq)
 | (cases h;done))
    refine dD 0 0 (IH (rest,k+1) ⟨g2,by dsimp only;omega⟩ (Nat.lt_succ_self _))
def aaj (s:aD):Int×Bool:=match EU 0 s with | some n=>(n,true) | none=>(0,false)
end Go.Abs

/-! Lex2 -/

namespace Go.Abs
open Go.Proofs
def TW (f:Int×Int):List D:= [.int .i64 f.1, .int .i64 f.2]
def QU (text:aD) (out:List lI) (pos:Nat):Tm:= [(0, .str text),(3, .ptr 0 0),(4, .slice (.tok 0) 4 (out.map gd)),(5, .ptr 1 0),(6, .int .i64 (pos:Int))]
def QV (out:List lI):St:=⟨[[.int .i64 0, .int .i64 0],[.junk, .junk, .junk, .junk]],[some out.length]⟩
attribute [go_sem] QU QV TW
end Go.Abs

/-! RefLex1 -/

namespace Go.Abs
open Go.Proofs
def Ux (s:aD):Bool:=
 [103,108,111,98,97,108] == s || [112,114,111,99] == s || [118,97,114] == s || [114,101,102] == s || [105,102] == s || [101,108,115,101] == s || [119,104,105,108,101] == s || [98,114,101,97,107] == s || [99,111,110,116,105,110,117,101] == s || [114,101,116,117,114,110] == s || [103,111,116,111] == s || [114,101,97,100] == s || [112,114,105,110,116] == s
end Go.Abs

/-! Prs2 -/

namespace Go.Abs
open Go.Proofs
def OpR (p:Int×Int):Prop:=0≤p.2∧p.2≤6
end Go.Abs

/-! Ref1 -/

namespace Go.Abs
open Go.Proofs
@[go_sem] def abv (z:D) (r:Rd):List D:= [.slice .shared 4 (r.l.map gd), .int .i64 r.i, .int .i64 r.code, .int .i64 r.AZ,z]
class Cell (z:D):Prop where
 ok:D.ok 0 0 z=true
 fg : ∀ n m,D.fg n m z=z
instance (n:Int):Cell (.int .i64 n):=⟨rfl,fun _ _=>rfl⟩
instance:Cell .junk:=⟨rfl,fun _ _=>rfl⟩
theorem Mk (z:D) [h:Cell z] (n m:Nat):D.fg n m z=z:=h.fg n m
attribute [go_sem] Mk
def Rd.isO (text:aD) (r:Rd):Option Bool:=if r.good then r.is text else some false
end Go.Abs

/-! Ref2 -/

namespace Go.Abs
open Go.Proofs
def ON (s:aD):Int×Int:=
 if [42] == s then(6,5)else if [47] == s then(6,6)else if [37] == s then(6,7)else if [43] == s then(5,8)else if [45] == s then(5,9)
 else if [60] == s then(4,10)else if [60,61] == s then(4,11)else if [62] == s then(4,12)else if [62,61] == s then(4,13)
 else if [61,61] == s then(3,14)else if [33,61] == s then(3,15)else if [38,38] == s then(2,16)else if [124,124] == s then(1,17)else(0,0)
def BZ (p:Int×Int):Prop:=(p.2==0)=(p.1==0)
end Go.Abs

/-! Ref3 -/

namespace Go.Abs
open Go.Proofs
end Go.Abs

/-! RefMay1 -/

namespace Go.Abs
open Go.Proofs
end Go.Abs

/-! RefMay2 -/

namespace Go.Abs
open Go.Proofs
structure Sm.oN (s:Sm):Prop where
 lab : ∀ t∈s.labels,t.length<4611686018427387904
 TX:s.labels.length<4611686018427387904
 name:s.name.length<4611686018427387904
 proc:s.proc.length<4611686018427387904
 x:s.x.size<4611686018427387904
 xt:s.x.texts
 TY:s.args.length<4611686018427387904
 arg : ∀ a∈s.args,a.x.size<4611686018427387904∧a.x.texts∧a.name.length<4611686018427387904
section
variable {v:Sm} {B:fh} {Q:Exit→Tm→St→Prop} {p:Bool}
end
theorem aI.goS {P:Program} {f:FuncId} {nt:Nat} {res:List (Nat×Option (Bool×Nat))} {body:AC} {args:List D} {s:St} {d:D} {s':St} (h0:Has P f nt res body) (hl:Nat.ble args.length nt=true)
 (h : ∀ (B:fh) (Q:Exit→Tm→St→Prop),B.s=s→nE s.au.length s.av.length res d s'=Q→Sem P B nt body Q (kG 0 args) s):aI P f args s d s':=by
 obtain⟨fn,hf,hc⟩:=h0
 exact aI.intro ⟨fn,hf,hc⟩ (Nat.le_of_ble_eq_true hl) fun B hB=>h B _ hB rfl
end Go.Abs

/-! Flat1 -/

namespace Go.Abs
set_option maxRecDepth 8000
open Go.Proofs
def ef (i:Im):List D:= [.int .i64 i.s.id, .int .i64 i.s.kind, .slice .shared 1 (i.s.labels.map encStr), .str i.s.name, .str i.s.proc,
 .int .i64 i.s.x.op, .int .i64 i.s.x.n, .str i.s.x.name, .slice .shared 4 (i.s.x.kids.map bC), .bool i.s.has, .slice .shared 6 (i.s.args.map dh), .slice .shared 13 (i.s.aZ.map bd), .slice .shared 13 (i.s.aQ.map bd), .int .i64 i.proc, .int .i64 i.up, .int .i64 i.next, .int .i64 i.loop]
def fl (n:Int):List D:= [.int .i64 n]
theorem Jy (i:Im):D.bE 0 0 (ef i)=true:=by simp [ef,D.bE,D.ok,Tag.ok,e9,K4,zL,o6]
theorem zN (l:List Im):D.gM 0 0 (l.map ef)=true:=fi Jy l
theorem Lf (n m:Nat) (l:List Im):D.gL n m (l.map ef)=l.map ef:=jF Jy n m l
theorem QW (n m:Nat) (i:Im):D.fk n m (ef i)=ef i:=fw n m _ (Jy i)
theorem QX (x:Im):(ef x).length=17:=nd rfl
theorem Ml (x:Im):List.take 17 (ef x)=ef x:=nd rfl
theorem OO (x:Im):List.drop 17 (ef x) = []:=nd rfl
theorem OP (x:Im):List.take 13 (ef x)=bd x.s:=by simp only [ef,cB];rfl
theorem Jz (x:Im):(ef x)[0]? = some (.int .i64 x.s.id):=nd rfl
theorem JA (x:Im):(ef x)[1]? = some (.int .i64 x.s.kind):=nd rfl
theorem JB (x:Im):(ef x)[4]? = some (.str x.s.proc):=nd rfl
theorem GV (x:Im):(ef x)[13]? = some (.int .i64 x.proc):=nd rfl
theorem GX (x:Im):(ef x)[14]? = some (.int .i64 x.up):=nd rfl
theorem GY (x:Im):(ef x)[15]? = some (.int .i64 x.next):=nd rfl
theorem GZ (x:Im):(ef x)[16]? = some (.int .i64 x.loop):=nd rfl
theorem EX (s:Sm) (a b c d:Int):ef ⟨s,a,b,c,d⟩ = [.int .i64 s.id, .int .i64 s.kind, .slice .shared 1 (s.labels.map encStr), .str s.name, .str s.proc,
 .int .i64 s.x.op, .int .i64 s.x.n, .str s.x.name, .slice .shared 4 (s.x.kids.map bC), .bool s.has, .slice .shared 6 (s.args.map dh), .slice .shared 13 (s.aZ.map bd), .slice .shared 13 (s.aQ.map bd), .int .i64 a, .int .i64 b, .int .i64 c, .int .i64 d]:=nd rfl
theorem Lg (n:Int):D.bE 0 0 (fl n)=true:=rfl
theorem pM (l:List Int):D.gM 0 0 (l.map fl)=true:=fi Lg l
theorem G0 (n m:Nat) (l:List Int):D.gL n m (l.map fl)=l.map fl:=jF Lg n m l
attribute [go_sem] Lf QW QX Ml OO OP Jz JA JB GV GX GY GZ G0 fl
theorem OQ : ∀ n,n<1000000000→∀ v:Sm,v.size≤n→aI Try.prog jj [.agg (bd v)] S0 (.int .i64 (v.gp:Int)) S0:=by
 intro n
 induction n with
 | zero=>intro _ v h;obtain⟨_,_,_,_,_,_,_,_,_,_⟩:=v;simp only [Sm.size]at h;omega
 | succ n ih=>
 intro hn v hv
 have dJ:Sm.aS v.aZ≤n∧Sm.aS v.aQ≤n∧v.gp=1+Sm.fY v.aZ+Sm.fY v.aQ:=by
  obtain⟨_,_,_,_,_,_,_,_,_,_⟩:=v
  simp only [Sm.size]at hv;exact⟨by dsimp only;omega,by dsimp only;omega,rfl⟩
 obtain⟨h1,h2,h3⟩:=dJ
 have c1:=kZ v.aZ
 have c2:=kZ v.aQ
 have l1:=Sm.cZ v.aZ
 have l2:=Sm.cZ v.aQ
 have hk : ∀ y,y∈v.aZ∨y∈v.aQ→∀ s,aI Try.prog jj [.agg (bd y)] s (.int .i64 (y.gp:Int)) s:=fun y hy s=>
  (ih (by omega) y (by rcases hy with hy | hy <;> (have:=Sm.b7 hy;omega))).pure (by simp only [D.bE,D.ok,lX];rfl) rfl s
 rw [h3]
 unfold S0
 refine aI.go zu rfl fun B Q hB hQ=> ?_
 have⟨hD,hJ,hP,hY⟩:=bZ
 repeat' (first
 | simp only [go_sem,hD,hJ,hP,hY]
 | (with_reducible refine aJ hQ ?_;simp only [ay,az,Option.some.injEq,exists_eq_left',go_sem,hD,hJ,hP,hY];repeat' (first | exact Ok.out | with_reducible refine aM ?_ ?_ | (simp;done))))
 refine dD 1 0 (bp.ind (ι:=List Sm×Nat×Nat) (fun i=>v.aZ.drop i.2.1=i.1∧i.2.2+Sm.fY i.1=1+Sm.fY v.aZ) (fun i=>i.1.length)
  (fun i=> [(1, .ptr 0 0),(3, .int .i64 (i.2.2:Int)),(9, .slice .shared 13 (v.aZ.map bd)),(10, .int .i64 (v.aZ.length:Int)),(11, .int .i64 (i.2.1:Int))]) (fun i=>⟨[bd v],[]⟩) ?_ (v.aZ,0,1) ⟨rfl,rfl⟩)
 rintro⟨rest,k,c⟩ ⟨g1,g2⟩ IH
 dsimp only at g1 g2
 cases rest with
 | cons y rest=>
  obtain⟨hJ,g3,hD,g4⟩:=drop_cons g1
  have hy:=hk y (.inl (List.mem_of_getElem? hJ))
  simp only [Sm.fY]at g2
  have hcy:=vC y
  have Kp:=Sm.b7 (List.mem_of_getElem? hJ)
  have w1:IntKind.wrap .i64 ((k:Int)+1)=((k+1:Nat):Int):=by rw [dj] <;> omega
  have w2:IntKind.wrap .i64 ((c:Int)+(y.gp:Int))=((c+y.gp:Nat):Int):=by rw [dj] <;> omega
  repeat' (first
 | simp only [go_sem,hD,hJ,hP,hY,w1,w2]
 | (with_reducible refine CU (hy _) ?_)
 | (with_reducible refine aJ hQ ?_;simp only [ay,az,Option.some.injEq,exists_eq_left',go_sem,hD,hJ,hP,hY];repeat' (first | exact Ok.out | with_reducible refine aM ?_ ?_ | (simp;done))))
  refine dD 1 0 (IH (rest,k+1,c+y.gp) ⟨g3,by dsimp only;omega⟩ (Nat.lt_succ_self _))
 | nil=>
  have hD:=drop_nil g1
  simp only [Sm.fY,Nat.add_zero]at g2
  subst g2
  repeat' (first
 | simp only [go_sem,hD,hJ,hP,hY]
 | (with_reducible refine aJ hQ ?_;simp only [ay,az,Option.some.injEq,exists_eq_left',go_sem,hD,hJ,hP,hY];repeat' (first | exact Ok.out | with_reducible refine aM ?_ ?_ | (simp;done))))
  refine dD 1 0 (bp.ind (ι:=List Sm×Nat×Nat) (fun i=>v.aQ.drop i.2.1=i.1∧i.2.2+Sm.fY i.1=1+Sm.fY v.aZ+Sm.fY v.aQ) (fun i=>i.1.length)
   (fun i=> [(1, .ptr 0 0),(3, .int .i64 (i.2.2:Int)),(21, .slice .shared 13 (v.aQ.map bd)),(22, .int .i64 (v.aQ.length:Int)),(23, .int .i64 (i.2.1:Int))]) (fun i=>⟨[bd v],[]⟩) ?_ (v.aQ,0,1+Sm.fY v.aZ) ⟨rfl,rfl⟩)
  rintro⟨rest,k,c⟩ ⟨g1,g2⟩ IH
  dsimp only at g1 g2
  cases rest with
  | cons y rest=>
   obtain⟨hJ,g3,hD,g4⟩:=drop_cons g1
   have hy:=hk y (.inr (List.mem_of_getElem? hJ))
   simp only [Sm.fY]at g2
   have hcy:=vC y
   have Kp:=Sm.b7 (List.mem_of_getElem? hJ)
   have w1:IntKind.wrap .i64 ((k:Int)+1)=((k+1:Nat):Int):=by rw [dj] <;> omega
   have w2:IntKind.wrap .i64 ((c:Int)+(y.gp:Int))=((c+y.gp:Nat):Int):=by rw [dj] <;> omega
   repeat' (first
 | simp only [go_sem,hD,hJ,hP,hY,w1,w2]
 | (with_reducible refine CU (hy _) ?_)
 | (with_reducible refine aJ hQ ?_;simp only [ay,az,Option.some.injEq,exists_eq_left',go_sem,hD,hJ,hP,hY];repeat' (first | exact Ok.out | with_reducible refine aM ?_ ?_ | (simp;done))))
   refine dD 1 0 (IH (rest,k+1,c+y.gp) ⟨g3,by dsimp only;omega⟩ (Nat.lt_succ_self _))
  | nil=>
   have hD:=drop_nil g1
   simp only [Sm.fY,Nat.add_zero]at g2
   subst g2
   repeat' (first
 | simp only [go_sem,hD,hJ,hP,hY]
 | (with_reducible refine aJ hQ ?_;simp only [ay,az,Option.some.injEq,exists_eq_left',go_sem,hD,hJ,hP,hY];repeat' (first | exact Ok.out | with_reducible refine aM ?_ ?_ | (simp;done))))
theorem OR {v:Sm} (h:v.size<1000000000) (s:St):aI Try.prog jj [.agg (bd v)] s (.int .i64 (v.gp:Int)) s:=
 (OQ v.size h v (Nat.le_refl _)).pure (by simp only [D.bE,D.ok,lX];rfl) rfl s
end Go.Abs
