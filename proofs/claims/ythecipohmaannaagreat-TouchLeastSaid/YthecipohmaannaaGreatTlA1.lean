/-
  What is proved here: part 1 of the road to the claim (Par, Par1, Par2, Par3, Step, Wp, Types, Mir, MirTree, MirFlat, Nums, Codes0, Have0, Codes1, Have1, Codes2, Have2, Codes3, Have3, Frz, MirLex, MirMay, Prs, Lex1, Lex2, RefLex1, Prs2, Ref1, Ref2, Ref3).
  No conditions.
-/
import Derived.Test.YthecipohmaannaaGreatTlA0
import Derived.Attr
import Derived.Test.YthecipohmaannaaGreatProg
import Derived.KernelRfl

set_option linter.unusedSimpArgs false
set_option linter.unusedVariables false

/-! Par -/

namespace Go.Abs
theorem X.bx {x:X} {tm bp:Tm} (h : ∀ t∈x.reads,tm.get t=bp.get t):x.ev tm=x.ev bp:=by
 cases x with
 | s t=>exact h t (by simp [X.reads])
 | k d=>rfl
theorem nc {t:Nat} {x:X} : ∀ {l:List X},x∈l→t∈x.reads→t∈ku l
 | [],h,_=>by cases h
 | y::r,h,ht=>by
  simp only [ku,List.mem_append]
  rcases List.mem_cons.1 h with rfl | h
  ·exact .inl ht
  ·exact .inr (nc h ht)
theorem qA {x:Option X} {tm bp:Tm} (h : ∀ t∈tM x,tm.get t=bp.get t):x.map (·.ev tm)=x.map (·.ev bp):=by
 cases x with
 | none=>rfl
 | some y=>simp only [Option.map_some];rw [X.bx h]
theorem vB {o:AO} {tm bp:Tm} {s:St} (h : ∀ t∈o.reads,tm.get t=bp.get t):aM o tm s=aM o bp s:=by
 cases o with
 | mv x=>
  have hx:x.ev tm=x.ev bp:=X.bx fun t ht=>h t (by simp [AO.reads,ht])
  simp only [aM,hx]
 | pick c a b=>
  have hc:c.ev tm=c.ev bp:=X.bx fun t ht=>h t (by simp [AO.reads,ht])
  have ha:a.ev tm=a.ev bp:=X.bx fun t ht=>h t (by simp [AO.reads,ht])
  have hb:b.ev tm=b.ev bp:=X.bx fun t ht=>h t (by simp [AO.reads,ht])
  simp only [aM,hc,ha,hb]
 | alloc z=>
  rfl
 | oC z T=>rfl
 | tH x T=>
  have hx:x.ev tm=x.ev bp:=X.bx fun t ht=>h t (by simp [AO.reads,ht])
  simp only [aM,hx]
 | tJ x y=>
  have hx:x.ev tm=x.ev bp:=X.bx fun t ht=>h t (by simp [AO.reads,ht])
  have hy:y.ev tm=y.ev bp:=X.bx fun t ht=>h t (by simp [AO.reads,ht])
  simp only [aM,hx,hy]
 | apps x y=>
  have hx:x.ev tm=x.ev bp:=X.bx fun t ht=>h t (by simp [AO.reads,ht])
  have hy:y.ev tm=y.ev bp:=X.bx fun t ht=>h t (by simp [AO.reads,ht])
  simp only [aM,hx,hy]
 | box x=>
  have hx:x.ev tm=x.ev bp:=X.bx fun t ht=>h t (by simp [AO.reads,ht])
  simp only [aM,hx]
 | tG x=>
  have hx:x.ev tm=x.ev bp:=X.bx fun t ht=>h t (by simp [AO.reads,ht])
  simp only [aM,hx]
 | load x g n=>
  have hx:x.ev tm=x.ev bp:=X.bx fun t ht=>h t (by simp [AO.reads,ht])
  simp only [aM,hx]
 | store p x n=>
  have hp:p.ev tm=p.ev bp:=X.bx fun t ht=>h t (by simp [AO.reads,ht])
  have hx:x.ev tm=x.ev bp:=X.bx fun t ht=>h t (by simp [AO.reads,ht])
  simp only [aM,hp,hx]
 | gu x=>
  have hx:x.ev tm=x.ev bp:=X.bx fun t ht=>h t (by simp [AO.reads,ht])
  simp only [aM,hx]
 | bin op x y=>
  have hx:x.ev tm=x.ev bp:=X.bx fun t ht=>h t (by simp [AO.reads,ht])
  have hy:y.ev tm=y.ev bp:=X.bx fun t ht=>h t (by simp [AO.reads,ht])
  simp only [aM,hx,hy]
 | yH n x y=>
  have hx:x.ev tm=x.ev bp:=X.bx fun t ht=>h t (by simp [AO.reads,ht])
  have hy:y.ev tm=y.ev bp:=X.bx fun t ht=>h t (by simp [AO.reads,ht])
  simp only [aM,hx,hy]
 | eqs n ks x y=>
  have hx:x.ev tm=x.ev bp:=X.bx fun t ht=>h t (by simp [AO.reads,ht])
  have hy:y.ev tm=y.ev bp:=X.bx fun t ht=>h t (by simp [AO.reads,ht])
  simp only [aM,hx,hy]
 | Ay n x y=>
  have hx:x.ev tm=x.ev bp:=X.bx fun t ht=>h t (by simp [AO.reads,ht])
  have hy:y.ev tm=y.ev bp:=X.bx fun t ht=>h t (by simp [AO.reads,ht])
  simp only [aM,hx,hy]
 | un op x=>
  have hx:x.ev tm=x.ev bp:=X.bx fun t ht=>h t (by simp [AO.reads,ht])
  simp only [aM,hx]
 | conv k x=>
  have hx:x.ev tm=x.ev bp:=X.bx fun t ht=>h t (by simp [AO.reads,ht])
  simp only [aM,hx]
 | wD x=>
  have hx:x.ev tm=x.ev bp:=X.bx fun t ht=>h t (by simp [AO.reads,ht])
  simp only [aM,hx]
 | rJ x=>
  have hx:x.ev tm=x.ev bp:=X.bx fun t ht=>h t (by simp [AO.reads,ht])
  simp only [aM,hx]
 | aE x n=>
  have hx:x.ev tm=x.ev bp:=X.bx fun t ht=>h t (by simp [AO.reads,ht])
  simp only [aM,hx]
 | AB x n g m=>
  have hx:x.ev tm=x.ev bp:=X.bx fun t ht=>h t (by simp [AO.reads,ht])
  simp only [aM,hx]
 | bT x i n=>
  have hx:x.ev tm=x.ev bp:=X.bx fun t ht=>h t (by simp [AO.reads,ht])
  have hi:i.ev tm=i.ev bp:=X.bx fun t ht=>h t (by simp [AO.reads,ht])
  simp only [aM,hx,hi]
 | pN x i=>
  have hx:x.ev tm=x.ev bp:=X.bx fun t ht=>h t (by simp [AO.reads,ht])
  have hi:i.ev tm=i.ev bp:=X.bx fun t ht=>h t (by simp [AO.reads,ht])
  simp only [aM,hx,hi]
 | ext x i=>
  have hx:x.ev tm=x.ev bp:=X.bx fun t ht=>h t (by simp [AO.reads,ht])
  simp only [aM,hx]
 | len x=>
  have hx:x.ev tm=x.ev bp:=X.bx fun t ht=>h t (by simp [AO.reads,ht])
  simp only [aM,hx]
 | nV x=>
  have hx:x.ev tm=x.ev bp:=X.bx fun t ht=>h t (by simp [AO.reads,ht])
  simp only [aM,hx]
 | app a b x y=>
  have hx:x.ev tm=x.ev bp:=X.bx fun t ht=>h t (by simp [AO.reads,ht])
  have hy:y.ev tm=y.ev bp:=X.bx fun t ht=>h t (by simp [AO.reads,ht])
  simp only [aM,hx,hy]
 | mm b x y=>
  have hx:x.ev tm=x.ev bp:=X.bx fun t ht=>h t (by simp [AO.reads,ht])
  have hy:y.ev tm=y.ev bp:=X.bx fun t ht=>h t (by simp [AO.reads,ht])
  simp only [aM,hx,hy]
 | build z ps=>
  have hp:(ps.map fun p=>(p.1,p.2.1,p.2.2.ev tm))=ps.map fun p=>(p.1,p.2.1,p.2.2.ev bp):=List.map_congr_left fun p hp=>by
   have:p.2.2.ev tm=p.2.2.ev bp:=X.bx fun t ht=>h t (by simp only [AO.reads];exact nc (List.mem_map_of_mem hp) ht)
   rw [this]
  simp only [aM,hp]
 | cE z m n ps=>
  have hp:(ps.map fun p=>(p.1,p.2.ev tm))=ps.map fun p=>(p.1,p.2.ev bp):=List.map_congr_left fun p hp=>by
   have:p.2.ev tm=p.2.ev bp:=X.bx fun t ht=>h t (by simp only [AO.reads];exact nc (List.mem_map_of_mem hp) ht)
   rw [this]
  simp only [aM,hp]
 | pM z m n ps=>
  have hp:(ps.map fun p=>(p.1,p.2.ev tm))=ps.map fun p=>(p.1,p.2.ev bp):=List.map_congr_left fun p hp=>by
   have:p.2.ev tm=p.2.ev bp:=X.bx fun t ht=>h t (by simp only [AO.reads];exact nc (List.mem_map_of_mem hp) ht)
   rw [this]
  simp only [aM,hp]
 | Az n x lo hi=>
  have hx:x.ev tm=x.ev bp:=X.bx fun t ht=>h t (by simp [AO.reads,ht])
  have hl:lo.map (·.ev tm)=lo.map (·.ev bp):=qA fun t ht=>h t (by simp [AO.reads,ht])
  have hh:hi.map (·.ev tm)=hi.map (·.ev bp):=qA fun t ht=>h t (by simp [AO.reads,ht])
  simp only [aM,hx,hl,hh]
 | AA x lo hi=>
  have hx:x.ev tm=x.ev bp:=X.bx fun t ht=>h t (by simp [AO.reads,ht])
  have hl:lo.map (·.ev tm)=lo.map (·.ev bp):=qA fun t ht=>h t (by simp [AO.reads,ht])
  have hh:hi.map (·.ev tm)=hi.map (·.ev bp):=qA fun t ht=>h t (by simp [AO.reads,ht])
  simp only [aM,hx,hl,hh]
 | px f xs=>
  have hp:(xs.map fun x=>x.ev tm)=xs.map fun x=>x.ev bp:=List.map_congr_left fun x hx=>X.bx fun t ht=>h t (by simp only [AO.reads];exact nc hx ht)
  simp only [aM,hp]
 | qo=>rfl
 | tL m k v=>
  have hm:m.ev tm=m.ev bp:=X.bx fun t ht=>h t (by simp [AO.reads,ht])
  have hk:k.ev tm=k.ev bp:=X.bx fun t ht=>h t (by simp [AO.reads,ht])
  have hv:v.ev tm=v.ev bp:=X.bx fun t ht=>h t (by simp [AO.reads,ht])
  simp only [aM,hm,hk,hv]
 | sr m k z=>
  have hm:m.ev tm=m.ev bp:=X.bx fun t ht=>h t (by simp [AO.reads,ht])
  have hk:k.ev tm=k.ev bp:=X.bx fun t ht=>h t (by simp [AO.reads,ht])
  simp only [aM,hm,hk]
theorem Ce {o:AO} (ho:eY o.kind=false) {tm:Tm} {s s':St} {d:D} (h:aM o tm s=some (d,s')):s'=s:=by
 cases o <;> simp only [AO.kind,eY]at ho <;> first | cases ho | skip
 all_goals
  simp only [aM]at h
  first
   | (cases h;rfl)
   | (repeat' (split at h)) <;> first | (cases h;rfl) | cases h
theorem DY {o:AO} (ho:o.kind = .pure) {tm:Tm} {s s':St} : (aM o tm s).map (·.1)=(aM o tm s').map (·.1):=by
 cases o <;> simp only [AO.kind]at ho <;> first | cases ho | skip
 all_goals
  simp only [aM]
  first
   | rfl
   | (repeat' split) <;> rfl
def gx (ai:AI) (tm:Tm) (s:St):Option D:=
 match ai with
 | .op _ none o=>(aM o tm s).map (·.1)
 | .op _ (some (t,want)) o=>
  match tm.get t with
  | .bool b=>if b=want then(aM o tm s).map (·.1)else some (.tuple [])
  | .tuple _=>some (.tuple [])
  | _=>none
 | _=>none
def ou (P:Program) (ai:AI) (tm:Tm) (s:St) (d:D) (s':St):Prop:=
 match ai with
 | .op _ g o=>guarded g tm (aM o tm s=some (d,s')) (d = .tuple []∧s'=s)
 | .call _ g f xs=>guarded g tm (dh P f (xs.map (·.ev tm)) s fun x y=>x=d∧y=s') (d = .tuple []∧s'=s)
 | .nil .. =>False
 | .fW .. =>False
def ig (P:Program) (is:List AI) (K:Tm→St→Prop):List (Nat×Nat)→List St→Tm→St→Prop
 | [],_,tm,s=>K tm s
 | (q,b)::r,bc,tm,s=>
  match is[q]? with
  | none=>False
  | some ai=>
   match eY ai.kind with
   | true=>∃ d s',ou P ai tm s d s'∧ig P is K r (s::bc) (tm.put ai.dst d) s'
   | false=>∃ d,gx ai tm s=some d∧(ai.kind = .load→∀ s'∈bc.take b,gx ai tm s'=some d)∧ig P is K r bc (tm.put ai.dst d) s
def Tm.eqv (a b:Tm):Prop:=∀ t,a.get t=b.get t
theorem Tm.iE (tm:Tm) (dst:Option Nat) (d:D) (t:Nat):(tm.put dst d).get t=if dst=some t then d else tm.get t:=by
 cases dst with
 | none=>simp [Tm.put]
 | some u=>
  simp only [Tm.put,Tm.xW,Option.some.injEq]
  by_cases h:t=u
  ·subst h;simp
  ·rw [if_neg h,if_neg (fun e=>h e.symm)]
theorem Tm.eqv.put {a b:Tm} (h:a.eqv b) (dst:Option Nat) (d:D):(a.put dst d).eqv (b.put dst d):=fun t=>by
 rw [Tm.iE,Tm.iE,h t]
theorem Tm.A9 (tm:Tm) {x y:Option Nat} (h : ∀ t,x=some t→y≠some t) (d e:D):((tm.put x d).put y e).eqv ((tm.put y e).put x d):=fun t=>by
 simp only [Tm.iE]
 by_cases h1:x=some t
 ·simp only [h1,h t h1,if_true,if_false]
 ·simp only [h1,if_false]
theorem tc {g:Option (Nat×Bool)} {tm bp:Tm} {A A' C:Prop} (h : ∀ t∈pO g,tm.get t=bp.get t) (ha:A→A') (hh:guarded g tm A C):guarded g bp A' C:=by
 cases g with
 | none=>exact ha hh
 | some p=>
  obtain⟨t,want⟩:=p
  unfold guarded at *
  simp only at *
  rw [← h t (by simp [pO])]
  split
  ·rename_i b hb
   rw [hb]at hh
   exact⟨fun e=>ha (hh.1 e),hh.2⟩
  ·rename_i hb
   rw [hb]at hh
   exact hh
  ·rename_i x h1 h2
   split at hh
   ·exact h1 _ ‹_›
   ·exact h2 _ ‹_›
   ·exact hh
theorem yV {tm bp:Tm} : ∀ {l:List X},(∀ t∈ku l,tm.get t=bp.get t)→l.map (·.ev tm)=l.map (·.ev bp)
 | [],_=>rfl
 | x::r,h=>by
  simp only [List.map_cons]
  rw [X.bx fun t ht=>h t (by simp [ku,ht]),yV (l:=r) fun t ht=>h t (by simp [ku,ht])]
theorem rb {P:Program} {ai:AI} {tm bp:Tm} {s s':St} {d:D} (h : ∀ t∈ai.reads,tm.get t=bp.get t) (hh:ou P ai tm s d s'):ou P ai bp s d s':=by
 cases ai with
 | op dst g o=>
  simp only [AI.reads,List.mem_append]at h
  exact tc (fun t ht=>h t (.inl ht)) (fun e=>by rw [← vB fun t ht=>h t (.inr ht)];exact e) hh
 | call dst g f xs=>
  simp only [AI.reads,List.mem_append]at h
  exact tc (fun t ht=>h t (.inl ht)) (fun e=>by rw [← yV fun t ht=>h t (.inr ht)];exact e) hh
 | nil dst g n x=>exact hh
 | fW dst g t xs=>exact hh
theorem mO {ai:AI} {tm bp:Tm} {s:St} (h : ∀ t∈ai.reads,tm.get t=bp.get t):gx ai tm s=gx ai bp s:=by
 cases ai with
 | op dst g o=>
  simp only [AI.reads,List.mem_append]at h
  have he:=vB (s:=s) fun t ht=>h t (.inr ht)
  cases g with
  | none=>simp only [gx,he]
  | some p=>
   obtain⟨t,want⟩:=p
   simp only [gx,he,h t (.inl (by simp [pO]))]
 | call dst g f xs=>rfl
 | nil dst g n x=>rfl
 | fW dst g t xs=>rfl
theorem C3 {dst:Option Nat} {g:Option (Nat×Bool)} {o:AO} (h:eY (AI.op dst g o).kind=false):(AI.op dst g o).kind=o.kind:=by
 unfold AI.kind at *
 split at h
 ·cases h
 ·rename_i heq;cases heq;rfl
 ·cases h
theorem IT {ai:AI} (hk:ai.kind = .pure) {tm:Tm} {s s':St} : gx ai tm s=gx ai tm s':=by
 cases ai with
 | op dst g o=>
  have ho:o.kind = .pure:=by rw [← hk];exact(C3 (by rw [hk];rfl)).symm
  have he:=DY ho (tm:=tm) (s:=s) (s':=s')
  cases g with
  | none=>simp only [gx,he]
  | some p=>simp only [gx,he]
 | call dst g f xs=>rfl
 | nil dst g n x=>rfl
 | fW dst g t xs=>rfl
theorem apart_spec {a q:AI} (h:a.apart q=true):(∀ t,a.dst=some t→t∉q.reads)∧(∀ t,q.dst=some t→t∉a.reads)∧(∀ t,a.dst=some t→q.dst≠some t):=by
 unfold AI.apart at h
 simp only [Bool.and_eq_true]at h
 obtain⟨⟨h1,h2⟩,h3⟩:=h
 refine⟨fun t e=> ?_,fun t e=> ?_,fun t e e'=> ?_⟩
 ·rw [e]at h1;simpa [wF]using h1
 ·rw [e]at h2;simpa [wF]using h2
 ·rw [e,e']at h3;simp at h3
theorem ov {tm:Tm} {dst:Option Nat} {d:D} {l:List Nat} (h : ∀ t,dst=some t→t∉l) : ∀ t∈l,tm.get t=(tm.put dst d).get t:=fun t ht=>by
 rw [Tm.iE,if_neg fun e=>h t e ht]
section
variable {P:Program} {is:List AI} {K:Tm→St→Prop}
theorem ow (hK : ∀ tm bp s,Tm.eqv tm bp→K tm s→K bp s) : ∀ (R:List (Nat×Nat)) (bc:List St) (tm bp:Tm) (s:St),tm.eqv bp→ig P is K R bc tm s→ig P is K R bc bp s
 | [],_,tm,bp,s,e,h=>hK tm bp s e h
 | (q,b)::R,bc,tm,bp,s,e,h=>by
  unfold ig at *
  split at h
  ·exact h.elim
  ·rename_i ai qy
   split at h
   ·rename_i hc
    obtain⟨d,s',h1,h2⟩:=h
    exact⟨d,s',rb (fun t _=>e t) h1,ow hK R _ _ _ _ (e.put _ d) h2⟩
   ·rename_i hc
    obtain⟨d,h1,h2,h3⟩:=h
    refine⟨d, ?_,fun hl s' k9=> ?_,ow hK R _ _ _ _ (e.put _ d) h3⟩
    ·rw [← mO fun t _=>e t];exact h1
    ·rw [← mO fun t _=>e t];exact h2 hl s' k9
theorem Ba (i:Nat) (l:List Nat):gf is (i::l)=(if eY (fX is i)then 1 else 0)+gf is l:=by
 unfold gf
 rw [List.filter_cons]
 split <;> simp <;> omega
theorem rf (hK : ∀ tm bp s,Tm.eqv tm bp→K tm s→K bp s) {q b:Nat} {ai:AI} (hq:is[q]? = some ai) (hm:eY ai.kind=false) (Y:List (Nat×Nat)) :
 ∀ (X:List (Nat×Nat)) (bc:List St) (tm:Tm) (s:St),(∀ a∈X,iA is a.1 q=true)→(ai.kind = .load→gf is (X.map (·.1))≤b)→
  ig P is K (X++(q,b)::Y) bc tm s→
  ∃ d,gx ai tm s=some d∧(ai.kind = .load→∀ s'∈bc.take (b - gf is (X.map (·.1))),gx ai tm s'=some d)∧ig P is K (X++Y) bc (tm.put ai.dst d) s
 | [],bc,tm,s,_,_,h=>by
  simp only [List.nil_append,ig,hq,hm]at h
  obtain⟨d,h1,h2,h3⟩:=h
  exact⟨d,h1,fun hl s' k9=>h2 hl s' (by simpa [gf]using k9),h3⟩
 | (a,c)::X,bc,tm,s,cP,hb,h=>by
  have DZ:=cP (a,c) (by simp)
  unfold iA at DZ
  split at DZ
  ·rename_i ia iq S2 ph
   rw [hq]at ph
   cases ph
   obtain⟨p1,p2,p3⟩:=apart_spec DZ
   have yP:fX is a=ia.kind:=by simp [fX,S2]
   have Lw : ∀ x∈X,iA is x.1 q=true:=fun x hx=>cP x (List.mem_cons_of_mem _ hx)
   rw [List.map_cons,Ba,yP]at hb ⊢
   simp only [List.cons_append,ig,S2]at h ⊢
   cases hc:eY ia.kind
   ·simp only [hc,Bool.false_eq_true,if_false,Nat.zero_add]at h hb ⊢
    obtain⟨d,h1,h2,h3⟩:=h
    obtain⟨e,g1,g2,g3⟩:=rf hK hq hm Y X bc _ s Lw hb h3
    have cg : ∀ s,gx ai tm s=gx ai (tm.put ia.dst d) s:=fun s=>mO (ov p1)
    have S3 : ∀ s,gx ia tm s=gx ia (tm.put ai.dst e) s:=fun s=>mO (ov p2)
    refine⟨e,by rw [cg];exact g1,fun hl s' k9=>by rw [cg];exact g2 hl s' k9,d,by rw [← S3];exact h1,fun hl s' k9=>by rw [← S3];exact h2 hl s' k9, ?_⟩
    exact ow hK _ _ _ _ _ (Tm.A9 tm p3 d e) g3
   ·simp only [hc,if_true]at h hb ⊢
    obtain⟨d,s1,h1,h3⟩:=h
    obtain⟨e,g1,g2,g3⟩:=rf hK hq hm Y X (s::bc) _ s1 Lw (fun hl=>by have:=hb hl;omega) h3
    have cg : ∀ s,gx ai tm s=gx ai (tm.put ia.dst d) s:=fun s=>mO (ov p1)
    have mc:gx ai tm s=some e:=by
     cases hk:ai.kind with
     | pure=>rw [cg,IT hk (s':=s1)];exact g1
     | load=>
      have:=hb hk
      rw [cg]
      refine g2 hk s ?_
      rw [show b - gf is (X.map (·.1))=(b - (1+gf is (X.map (·.1))))+1 by omega,List.take_succ_cons]
      exact List.mem_cons_self
     | alloc=>rw [hk]at hm;cases hm
     | core=>rw [hk]at hm;cases hm
    refine⟨e,mc,fun hl s' k9=> ?_,d,s1,rb (ov p2) h1,ow hK _ _ _ _ _ (Tm.A9 tm p3 d e) g3⟩
    have:=hb hl
    rw [cg]
    refine g2 hl s' ?_
    rw [show b - gf is (X.map (·.1))=(b - (1+gf is (X.map (·.1))))+1 by omega,List.take_succ_cons]
    exact List.mem_cons_of_mem _ k9
  ·cases DZ
end
end Go.Abs

/-! Par1 -/

namespace Go.Abs
section
variable {P:Program}
theorem Gr {o:Oper} {z:List D} (h:wG P o=some (.alloc z)) : ∃ t,o.op = .alloc t∧zeroOf P t=some z:=by
 obtain⟨dst,op,type,pos,after,guard⟩:=o
 unfold wG at h
 simp only at h
 split at h
 case h_4 t=>
  split at h
  ·obtain⟨z',h1,h2⟩:=map_some h;cases h2
  ·obtain⟨z',h1,h2⟩:=map_some h;cases h2;exact⟨t,rfl,h1⟩
 all_goals
  first
   | (rw [Option.map_eq_some_iff]at h;obtain⟨_,_,h⟩:=h;cases h)
   | skip
 all_goals
  (repeat' (split at h)) <;> first | (cases h;done) | (rw [Option.map_eq_some_iff]at h;obtain⟨_,_,h⟩:=h;cases h)
theorem um {nt:Nat} {ops:Array Oper} {o:Oper} {ai:AI} (h:cI P nt ops o=some ai) :
 ∃ g,pP ops o.guard=some g∧(∀ t,o.dst=some t→t<nt)∧om P ops o g=some ai:=by
 have h2:=rS h
 unfold cI at h
 split at h
 ·cases h
 ·rename_i g hg
  split at h
  ·exact⟨g,hg,h2,h⟩
  ·cases h
theorem oI {ops:Array Oper} {o:Oper} {g:Option (Nat×Bool)} {ai:AI} (h:om P ops o g=some ai):ai.dst=o.dst:=by
 unfold om at h
 split at h
 ·split at h
  ·obtain⟨xs,_,rfl⟩:=map_some h;rfl
  ·cases h
 ·obtain⟨xs,_,rfl⟩:=map_some h;rfl
 ·split at h
  ·cases h;rfl
  ·split at h
   ·cases h;rfl
   ·cases h;rfl
   ·cases h
theorem oJ {nt:Nat} {ops:Array Oper} {o:Oper} {ai:AI} (h:cI P nt ops o=some ai):ai.dst=o.dst:=by
 obtain⟨g,_,_,h⟩:=um h
 exact oI h
theorem rh {nt:Nat} {ops:Array Oper} {i:Nat} {o:Oper} {ai:AI} (hi:ops[i]? = some o) (hc:cI P nt ops o=some ai)
 {M:Map} {s:St} {w:World} {tm:Tm} {act:Act} (r:Rel M s w) (iQ:Laid M s w) (ht:je M s tm act.tmps) {K':Tm→St→Prop} (h:fO P [ai] K' tm s)
 {K:Act→World→Prop} {Q:Exit→Act→World→Prop}
 (hK : ∀ d v s1 w1 M1,K' (tm.put ai.dst d) s1→Ext M s w M1 s1 w1→Rel M1 s1 w1→RD M1 s1 d v→K (act.put o.dst v) w1):wpOp P ops Q i K act w:=by
 obtain⟨g,hg,_,hb⟩:=um hc
 rw [oI hb]at hK
 simp only [wpOp,hi]
 have skip:K' (tm.put o.dst (.tuple [])) s→K (act.put o.dst Go.undef) w:=fun hk=>hK _ _ _ _ _ hk (Ext.refl M s w) r .undef
 unfold om at hb
 split at hb
 ·rename_i f args ky jF
  split at hb
  ·rename_i sC
   obtain⟨xs,kT,rfl⟩:=map_some hb
   simp only [fO]at h
   rcases gH hg ht h with ⟨hw,hA⟩ | ⟨hw,hB⟩
   ·simp only [hw,if_true]
    left
    have hex:(execOp act.eval o).run P w = .ok (.enter f (args.map act.eval)) w:=by
     obtain⟨dst,op,type,pos,after,guard⟩:=o
     simp only at jF
     subst jF
     exact q8 act.eval dst f args ky type pos after guard rfl sC w
    obtain⟨c1,c2⟩:=qx ht kT
    unfold Oper.wp
    rw [hex,Oper.upon_enter]
    refine(hA M w (args.map act.eval) r iQ (by simp [c1]) (fun i d v e1 e2=>c2 i d v e1 (by simpa using e2))).mono ?_
    rintro en w' ⟨M',d,v,s',rfl,hk,e',r',hv⟩
    exact hK _ _ _ _ _ hk e' r' hv
   ·simp only [hw]
    exact skip hB
  ·cases hb
 ·rename_i t args ky jF
  obtain⟨xs,kT,rfl⟩:=map_some hb
  simp only [fO]at h
  rcases gH hg ht h with ⟨hw,hA⟩ | ⟨hw,hB⟩
  ·simp only [hw,if_true]
   left
   split at hA
   ·rename_i f kg wX
    obtain⟨sC,hA⟩:=hA
    have Gg:=ht t
    rw [wX]at Gg
    obtain⟨vs,lb,hlen,wW⟩:=Gg.CS
    have hex:(execOp act.eval o).run P w = .ok (.enter f (args.map act.eval++vs)) w:=by
     obtain⟨dst,op,type,pos,after,guard⟩:=o
     simp only at jF
     subst jF
     exact ud act.eval dst (.tmp t) f vs args ky type pos after guard lb sC w
    have cc:=yQ kT ht hlen wW
    unfold Oper.wp
    rw [hex,Oper.upon_enter]
    refine(hA M w (args.map act.eval++vs) r iQ cc.1 cc.2).mono ?_
    rintro en w' ⟨M',d,v,s',rfl,hk,e',r',hv⟩
    exact hK _ _ _ _ _ hk e' r' hv
   ·exact hA.elim
  ·simp only [hw]
   exact skip hB
 ·split at hb
  ·rename_i neg x A1
   cases hb
   simp only [fO]at h
   rcases gH hg ht h with ⟨hw,hA⟩ | ⟨hw,hB⟩
   ·simp only [hw,if_true]
    left
    split at hA
    ·rename_i g' z rows hx
     obtain⟨b,hb,hex⟩:=s7 (w:=w) A1 ht hx
     unfold Oper.wp
     rw [hex,Oper.upon_value]
     exact hK _ _ _ _ _ (hA b hb) (Ext.refl M s w) r (.bool _)
    ·exact hA.elim
   ·simp only [hw]
    exact skip hB
  ·have fin : ∀ ao,ai = .op o.dst g ao→(∀ d s',aM ao tm s=some (d,s')→cr P M s w (execOp act.eval o) d s')→
    (if Region.wanted o (yielded ops act.tmps)=true then o.wp P act w K Q∨(o.asks P act w∧LetsOut Q)else K (act.put o.dst Go.undef) w):=by
    intro ao qy Oh
    subst qy
    simp only [fO]at h
    rcases gH hg ht h with ⟨hw,hA⟩ | ⟨hw,hB⟩
    ·simp only [hw,if_true]
     left
     split at hA
     ·rename_i d s' mN
      obtain⟨v,w',M',de,r',hv,e'⟩:=Oh d s' mN
      unfold Oper.wp
      rcases de with de | ⟨de,rfl⟩
      ·rw [de,Oper.upon_value]
       exact hK _ _ _ _ _ hA e' r' hv
      ·rw [de,Oper.upon_skip]
       exact hK _ _ _ _ _ hA e' r' hv
     ·exact hA.elim
    ·simp only [hw]
     exact skip hB
   split at hb
   ·rename_i z k n ps kz
    cases hb
    refine fin _ rfl (fun d s' mN=> ?_)
    split at mN
    ·exact sB kz r ht mN
    ·exact oq kz r ht mN
   ·rename_i ao kz
    cases hb
    exact fin _ rfl (fun d s' mN=>oq kz r ht mN)
   ·cases hb
structure C4 (M:Map) (s:St) (b:Nat):Prop where
 o : ∀ o,o<s.au.length→M.mu o≠b
 t : ∀ t c z,s.live t→M.be t≠some (b,c,z)
 g : ∀ off,M.G b off=none
theorem C4.mono {M M':Map} {s s':St} {w w':World} {b:Nat} (h:C4 M s b) (e:Ext M s w M' s' w') (hb:b<w.heap.size):C4 M' s' b:=by
 refine⟨fun o ho=> ?_,fun t c z hl he=> ?_,fun off=> ?_⟩
 ·rcases Nat.lt_or_ge o s.au.length with h1 | h1
  ·rw [e.le.mu o h1];exact h.o o h1
  ·have:=e.mS o h1 ho;omega
 ·rcases e.mT t b c z hl he with ⟨h1,c',z',h2⟩ | h1
  ·exact h.t t c' z' h1 h2
  ·omega
 ·by_cases hg:M'.G b off=M.G b off
  ·rw [hg];exact h.g off
  ·rcases e.oV b off hg with h1 | ⟨t,c,z,h1,h2⟩
   ·omega
   ·exact(h.t t c z h1 h2).elim
theorem Rel.idle {M:Map} {s:St} {w:World} (r:Rel M s w) (x:Obj):Rel M s (w.alloc x)∧Ext M s w M s (w.alloc x)∧C4 M s w.heap.size:=by
 refine⟨⟨fun b o v e=> ?_,fun o ds e=> ?_,r.iG,r.inj,fun t n e=> ?_,r.dT,r.eK⟩, ?_,⟨fun o ho=> ?_,fun t c z hl e=> ?_,fun off=>r.K5 (Nat.le_refl _) off⟩⟩
 ·obtain⟨h3,h4⟩:=r.comm b o v e
  refine⟨?_,h4⟩
  rw [World.cell?_alloc_lt]
  ·exact h3
  ·exact r.xT e
 ·obtain⟨vs,T,h3,h4,h5,h6⟩:=r.obj o ds e
  exact⟨vs,T,by rw [heap_alloc_old w _ _ h3.lt];exact h3,h4,h5,h6⟩
 ·rcases r.tok t n e with h3 | ⟨b,cap,size,ei,T',h3,h4,h5⟩
  ·exact .inl h3
  ·exact .inr ⟨b,cap,size,ei,T',h3,by rw [heap_alloc_old w _ _ (jc h4)];exact h4,h5⟩
 ·exact⟨Le.refl M s,fun b hb _ _=>heap_alloc_old w _ b hb,fun o h3 h4=>by omega,fun t b c z h e=> .inl ⟨h,c,z,e⟩,fun _ _ h=>(h rfl).elim,by simp,rfl,rfl,rfl⟩
 ·have:=r.mW ho;omega
 ·have:=r.py hl e;omega
theorem Rel.Rr {M:Map} {s:St} {w:World} (r:Rel M s w) {B:fp} (e:Ext B.M B.s B.w M s w) {b:Nat} (u:C4 M s b) (hb:B.w.heap.size≤b)
 (ds:List D) (vs:Array Value) (T:TypeId) (hh:w.heap[b]? = some (.cells vs T (0,0))) (hl:vs.size=ds.length) (h1 : ∀ v∈vs,v.oneCell'=true)
 (h2 : ∀ (i:Nat) (d:D) (v:Value),ds[i]? = some d→vs[i]? = some v→RD M s d v) :
 Rel (M.c6 s.au.length b) {s with au:=s.au++ [ds]} w∧Ext B.M B.s B.w (M.c6 s.au.length b) {s with au:=s.au++ [ds]} w∧
 Le M s (M.c6 s.au.length b) {s with au:=s.au++ [ds]}:=by
 have le:=pQ (M:=M) s b ds
 have mK : ∀ o,o<s.au.length→(M.c6 s.au.length b).mu o=M.mu o:=le.mu
 have dg:(M.c6 s.au.length b).mu s.au.length=b:=by simp [Map.c6,Map.mu]
 refine⟨⟨r.comm,fun o kR e'=> ?_,fun o ho off=> ?_,fun o o' ho ke e'=> ?_,r.tok,fun t b' c z o hl e' ho=> ?_,r.eK⟩, ?_,le⟩
 ·rcases Nat.lt_or_ge o s.au.length with ho | ho
  ·rw [List.getElem?_append_left ho]at e'
   obtain⟨ei,T',h3,h4,h5,h6⟩:=r.obj o kR e'
   refine⟨ei,T', ?_,h4,⟨h5.1,by rw [le.ty o ho];exact h5.2⟩,fun i d v e1 e2=>(h6 i d v e1 e2).mono le⟩
   rw [mK o ho,le.ob o ho];exact h3
  ·rw [List.getElem?_append_right ho]at e'
   have:o=s.au.length:=by
    have:=(List.getElem?_eq_some_iff.1 e').1
    simp at this;omega
   subst this
   simp at e';subst e'
   refine⟨vs,T, ?_,hl,⟨h1,fun T' h=>by simp [Map.c6,Map.ty,Ob.ty?]at h⟩,fun i d v e1 e2=>(h2 i d v e1 e2).mono le⟩
   rw [dg];exact jJ.of hh (by simp [Map.c6,Map.ob])
 ·simp at ho
  rcases Nat.lt_or_ge o s.au.length with h3 | h3
  ·rw [mK o h3];exact r.iG o h3 off
  ·have:o=s.au.length:=by omega
   subst this
   rw [dg];exact u.g off
 ·simp at ho ke
  rcases Nat.lt_or_ge o s.au.length with h3 | h3 <;> rcases Nat.lt_or_ge o' s.au.length with h4 | h4
  ·rw [mK o h3,mK o' h4]at e';exact r.inj o o' h3 h4 e'
  ·have:o'=s.au.length:=by omega
   subst this
   rw [mK o h3,dg]at e'
   exact(u.o o h3 e').elim
  ·have:o=s.au.length:=by omega
   subst this
   rw [mK o' h4,dg]at e'
   exact(u.o o' h4 e'.symm).elim
  ·omega
 ·simp at ho
  rcases Nat.lt_or_ge o s.au.length with h3 | h3
  ·rw [mK o h3];exact r.dT t b' c z o hl e' h3
  ·have:o=s.au.length:=by omega
   subst this
   rw [dg]
   intro he
   subst he
   exact u.t t c z hl e'
 ·refine⟨e.le.trans le,e.kept,fun o h3 h4=> ?_,e.mT,e.oV,e.size,e.os,e.tape,e.output⟩
  simp at h4
  rcases Nat.lt_or_ge o s.au.length with h5 | h5
  ·rw [mK o h5];exact e.mS o h3 h5
  ·have:o=s.au.length:=by omega
   subst this
   rw [dg];exact hb
theorem Cf {nt:Nat} {ops:Array Oper} {i:Nat} {o:Oper} {t:Nat} {z:List D} (hi:ops[i]? = some o) (hc:cI P nt ops o=some (.op (some t) none (.alloc z)))
 {w:World} {act:Act} {K:Act→World→Prop} {Q:Exit→Act→World→Prop}
 (hK : ∀ vs T,vs.size=z.length→(∀ v∈vs,v.oneCell'=true)→(∀ (M:Map) (s:St) (i:Nat) (d:D) (v:Value),z[i]? = some d→vs[i]? = some v→RD M s d v)→
  K (act.put (some t) (.pointer (some ⟨w.heap.size,0,none⟩))) (w.alloc (.cells vs T))):wpOp P ops Q i K act w:=by
 obtain⟨g,hg,_,hb⟩:=um hc
 have mz:=oI hb
 simp only [AI.dst]at mz
 simp only [wpOp,hi]
 have jF:g=none∧wG P o=some (.alloc z):=by
  unfold om at hb
  split at hb
  ·split at hb
   ·obtain⟨xs,_,h⟩:=map_some hb;cases h
   ·cases hb
  ·obtain⟨xs,_,h⟩:=map_some hb;cases h
  ·split at hb
   ·cases hb
   ·split at hb
    ·rename_i kz
     simp only [Option.some.injEq,AI.op.injEq]at hb
     obtain⟨_,_,h⟩:=hb
     split at h <;> cases h
    ·rename_i ao kz
     simp only [Option.some.injEq,AI.op.injEq]at hb
     obtain⟨_,h1,h2⟩:=hb
     subst h2
     exact⟨h1,kz⟩
    ·cases hb
 obtain⟨rfl,kz⟩:=jF
 obtain⟨T,hT,hz⟩:=Gr kz
 have hw:Region.wanted o (yielded ops act.tmps)=true:=by
  have:o.guard=none:=by
   cases yL:o.guard with
   | none=>rfl
   | some p=>
    obtain⟨j,b⟩:=p
    rw [yL]at hg
    unfold pP at hg
    simp only at hg
    split at hg <;> cases hg
  simp [Region.wanted,this]
 simp only [hw,if_true]
 left
 unfold zeroOf at hz
 split at hz
 ·rename_i inf IL
  split at hz
  ·rename_i v hv
   split at hz
   ·have de:(execOp act.eval o).run P w = .ok (.value (.pointer (some ⟨w.heap.size,0,none⟩))) (w.alloc (.cells v.cells T)):=by
     obtain⟨dst,op,type,pos,after,guard⟩:=o
     simp only at hT
     subst hT
     simp [execOp,Instr.alloc,zeroValue,fA P IL,hv,newVar,newRow]
    have h3:=fun M s=>iD (M:=M) (s:=s) hz
    obtain⟨h1,h2,_⟩:=h3 ⟨fun _ _=>none,fun _=>(0, .any),fun _=>none⟩ ⟨[],[]⟩
    unfold Oper.wp
    rw [de,Oper.upon_value, ← mz]
    exact hK _ _ (by rw [h1];simp) (fun u hu=>h2 u (by simpa using hu)) (fun M s i d u e1 e2=>(h3 M s).2.2 i d u e1 (by simpa using e2))
   ·cases hz
  ·cases hz
 ·cases hz
end
end Go.Abs

/-! Par2 -/

namespace Go.Abs
section
variable {is:List AI} {af pt:List (List Nat)}
theorem td {pq:List Nat} {l l':List Nat} (h:l'.Sublist l) (hb:iu is pq l=true):iu is pq l'=true:=by
 induction h with
 | slnil=>rfl
 | cons a h ih=>
  simp only [iu,Bool.and_eq_true]at hb
  exact ih hb.2
 | cons_cons a h ih=>
  simp only [iu,Bool.and_eq_true,Bool.or_eq_true]at hb ⊢
  refine⟨hb.1.imp id fun h1=> ?_,ih hb.2⟩
  rw [List.all_eq_true]at h1 ⊢
  exact fun x hx=>h1 x (h.subset hx)
theorem u7 {f:Nat→Bool} {l l':List Nat} (h:l'.Sublist l) (ha:l.all f=true):l'.all f=true:=by
 rw [List.all_eq_true]at ha ⊢
 exact fun x hx=>ha x (h.subset hx)
theorem Cg {l l':List Nat} (h:l'.Sublist l):gf is l'≤gf is l:=(h.filter _).length_le
theorem D0 {pre x5:List Nat} {q b:Nat} (h:x5.Sublist pre) (hs:k7 is pt pre q b=true):k7 is pt x5 q b=true:=by
 unfold k7 at *
 split at hs
 ·exact u7 h hs
 ·exact u7 h hs
 ·simp only [Bool.and_eq_true]at hs ⊢
  exact⟨u7 h hs.1,td h hs.2⟩
 ·simp only [Bool.and_eq_true,decide_eq_true_eq]at hs ⊢
  exact⟨⟨u7 h hs.1.1,td h hs.1.2⟩,Nat.le_trans (Cg (h.filter _)) hs.2⟩
theorem Bb : ∀ {R:List (Nat×Nat)} {pre x5:List Nat},x5.Sublist pre→pg is af pt pre R=true→pg is af pt x5 R=true
 | [],_,_,_,_=>rfl
 | (q,b)::R,pre,x5,h,ho=>by
  simp only [pg,Bool.and_eq_true,Bool.not_eq_true']at ho ⊢
  obtain⟨⟨⟨h1,h2⟩,h3⟩,h4⟩:=ho
  refine⟨⟨⟨D0 h h1, ?_⟩,h3⟩,Bb (h.cons_cons q) h4⟩
  rw [← Bool.not_eq_true,List.contains_iff_mem]at h2 ⊢
  exact fun hm=>h2 (h.subset hm)
theorem x6 : ∀ {X:List (Nat×Nat)} {e:Nat×Nat} {Y:List (Nat×Nat)} {pre:List Nat},pg is af pt pre (X++e::Y)=true→pg is af pt pre (X++Y)=true
 | [],(q,b),Y,pre,h=>by
  simp only [List.nil_append,pg,Bool.and_eq_true]at h
  exact Bb (List.sublist_cons_self q pre) h.2
 | (a,c)::X,e,Y,pre,h=>by
  simp only [List.cons_append,pg,Bool.and_eq_true]at h ⊢
  obtain⟨⟨⟨h1,h2⟩,h3⟩,h4⟩:=h
  refine⟨⟨⟨h1,h2⟩, ?_⟩,x6 h4⟩
  rw [List.all_eq_true]at h3 ⊢
  intro j hj
  have:=h3 j hj
  simp only [Bool.and_eq_true,Bool.not_eq_true']at this ⊢
  refine⟨this.1, ?_⟩
  have h5:=this.2
  rw [← Bool.not_eq_true,List.contains_iff_mem]at h5 ⊢
  refine fun hm=>h5 ?_
  simp only [List.map_append,List.map_cons,List.mem_append,List.mem_cons]at hm ⊢
  exact hm.imp id .inr
theorem oK : ∀ {X:List (Nat×Nat)} {q b:Nat} {Y:List (Nat×Nat)} {pre:List Nat},pg is af pt pre (X++(q,b)::Y)=true→
 k7 is pt ((X.map (·.1)).reverse++pre) q b=true∧q∉X.map (·.1)∧q∉pre∧(∀ j∈fe af q,j≠q∧j∉Y.map (·.1))∧pg is af pt (q::((X.map (·.1)).reverse++pre)) Y=true
 | [],q,b,Y,pre,h=>by
  simp only [List.nil_append,pg,Bool.and_eq_true,Bool.not_eq_true']at h
  obtain⟨⟨⟨h1,h2⟩,h3⟩,h4⟩:=h
  rw [← Bool.not_eq_true,List.contains_iff_mem]at h2
  refine⟨h1,by simp,h2,fun j hj=> ?_,h4⟩
  rw [List.all_eq_true]at h3
  have:=h3 j hj
  simp only [Bool.and_eq_true,bne_iff_ne,Bool.not_eq_true', ← Bool.not_eq_true,List.contains_iff_mem]at this
  exact this
 | (a,c)::X,q,b,Y,pre,h=>by
  simp only [List.cons_append,pg,Bool.and_eq_true]at h
  obtain⟨_,h4⟩:=h
  obtain⟨g1,g2,g3,g4,g5⟩:=oK h4
  simp only [List.map_cons,List.reverse_cons,List.append_assoc,List.singleton_append]
  refine⟨g1, ?_,fun h=>g3 (List.mem_cons_of_mem _ h),g4,g5⟩
  intro hm
  rcases List.mem_cons.1 hm with rfl | hm
  ·exact g3 (by simp)
  ·exact g2 hm
theorem u9 : ∀ {Y:List (Nat×Nat)} {pre:List Nat},pg is af pt pre Y=true→∀ x∈Y,x.1∉pre∧(fX is x.1 = .alloc→∀ a∈pre,iA is a x.1=true)
 | [],_,_,x,hx=>by cases hx
 | (q,b)::Y,pre,h,x,hx=>by
  simp only [pg,Bool.and_eq_true,Bool.not_eq_true']at h
  obtain⟨⟨⟨h1,h2⟩,_⟩,h4⟩:=h
  rw [← Bool.not_eq_true,List.contains_iff_mem]at h2
  rcases List.mem_cons.1 hx with rfl | hx
  ·refine⟨h2,fun hk a ha=> ?_⟩
   unfold k7 at h1
   simp only [hk]at h1
   rw [List.all_eq_true]at h1
   exact h1 a ha
  ·obtain⟨g1,g2⟩:=u9 h4 x hx
   exact⟨fun h=>g1 (List.mem_cons_of_mem _ h),fun hk a ha=>g2 hk a (List.mem_cons_of_mem _ ha)⟩
theorem vC : ∀ {n:Nat},rK af pt n=true→∀ i,i<n→∀ j∈fe pt i,j∈fe af i∨∃ k∈fe af i,j∈fe pt k
 | 0,_,i,hi=>by omega
 | n+1,h,i,hi=>by
  simp only [rK,Bool.and_eq_true]at h
  rcases Nat.lt_or_ge i n with h1 | h1
  ·exact vC h.2 i h1
  ·have:i=n:=by omega
   subst this
   intro j hj
   have:=h.1
   rw [List.all_eq_true]at this
   have:=this j hj
   simp only [Bool.or_eq_true,List.contains_iff_mem,List.any_eq_true]at this
   exact this
theorem rV {pq:List Nat} : ∀ {l:List Nat},iu is pq l=true→∀ (x:Nat) (l1 l2:List Nat),l=l1++x::l2→fX is x = .alloc→x∈pq→∀ y∈l2,y∈pq
 | [],_,x,l1,l2,h=>by simp at h
 | a::l,hb,x,l1,l2,h=>by
  simp only [iu,Bool.and_eq_true,Bool.or_eq_true,Bool.not_eq_true',Bool.and_eq_false_iff]at hb
  intro hk hx y hy
  cases l1 with
  | nil=>
   simp only [List.nil_append,List.cons.injEq]at h
   obtain⟨rfl,rfl⟩:=h
   rcases hb.1 with h1 | h1
   ·rcases h1 with h1 | h1
    ·simp [hk]at h1
    ·rw [← Bool.not_eq_true,List.contains_iff_mem]at h1
     exact(h1 hx).elim
   ·rw [List.all_eq_true]at h1
    have:=h1 y hy
    rwa [List.contains_iff_mem]at this
  | cons b l1=>
   simp only [List.cons_append,List.cons.injEq]at h
   exact rV hb.2 x l1 l2 h.2 hk hx y hy
end
structure Pd where
 q:Nat
 t:Nat
 z:List D
 b:Nat
structure Oo (is:List AI) (R:List (Nat×Nat)) (B:fp) (M:Map) (s:St) (act:Act) (w:World) (p:Pd):Prop where
 mem:p.q∈R.map (·.1)
 ai:is[p.q]? = some (.op (some p.t) none (.alloc p.z))
 cells : ∃ (vs:Array Value) (T:TypeId),w.heap[p.b]? = some (.cells vs T (0,0))∧vs.size=p.z.length∧(∀ v∈vs,v.oneCell'=true)∧
  ∀ (M:Map) (s:St) (i:Nat) (d:D) (v:Value),p.z[i]? = some d→vs[i]? = some v→RD M s d v
 unk:C4 M s p.b
 base:B.w.heap.size≤p.b
 slot:act.tmps.getD p.t Go.undef = .pointer (some ⟨p.b,0,none⟩)
def sE (P:Program) (is:List AI) (K:Tm→St→Prop) (B:fp) (nt:Nat) (R:List (Nat×Nat)) (cQ:List Pd) (act:Act) (w:World):Prop:=
 ∃ (M:Map) (s:St) (tm oL:Tm) (bc:List St),Ext B.M B.s B.w M s w∧Rel M s w∧je M s oL act.tmps∧(∀ t,(∀ p∈cQ,p.t≠t)→oL.get t=tm.get t)∧
  act.tmps.size=nt∧act.defers = []∧ig P is K R bc tm s∧(∀ p∈cQ,Oo is R B M s act w p)∧
  (∀ p∈cQ,∀ p'∈cQ,p.q=p'.q∨p.t=p'.t∨p.b=p'.b→p=p')
structure nf (is:List AI) (af pt:List (List Nat)) (bV:Array Bool) (R:List (Nat×Nat)) (cQ:List Pd):Prop where
 ok:pg is af pt [] R=true
 yW : ∀ i,i<is.length→(bV.getD i false=true↔(i∉R.map (·.1)∨∃ p∈cQ,p.q=i))
 cl : ∀ i,i<is.length→bV.getD i false=true→∀ j∈fe pt i,bV.getD j false=true
 size:bV.size=is.length
 lt : ∀ x∈R,x.1<is.length
section
variable {P:Program} {is:List AI} {af pt:List (List Nat)} {K:Tm→St→Prop} {B:fp} {nt:Nat}
theorem Oq {bV:Array Bool} {q b:Nat} {R:List (Nat×Nat)} {cQ:List Pd} {act:Act} {w:World} (hs:nf is af pt bV ((q,b)::R) cQ) (h:sE P is K B nt ((q,b)::R) cQ act w)
 {p:Pd} (hp:p∈cQ) (pj:p.q=q) :
 nf is af pt bV R (cQ.filter fun p'=>decide (p'.q≠q))∧sE P is K B nt R (cQ.filter fun p'=>decide (p'.q≠q)) act w:=by
 have kM : ∀ p',p'∈(cQ.filter fun p'=>decide (p'.q≠q))↔p'∈cQ∧p'.q≠q:=fun p'=>by simp
 constructor
 ·have yS:=hs.ok
  have v7:=oK (X:= []) yS
  refine⟨x6 (X:= []) yS,fun i hi=> ?_,hs.cl,hs.size,fun x hx=>hs.lt x (List.mem_cons_of_mem _ hx)⟩
  rw [hs.yW i hi]
  simp only [List.map_cons,List.mem_cons,not_or]
  have Ot:q∉R.map (·.1):=fun hm=>by
   obtain⟨x,hx,rfl⟩:=List.mem_map.1 hm
   exact(u9 v7.2.2.2.2 x hx).1 (by simp)
  constructor
  ·rintro(⟨h1,h2⟩ | ⟨p',h1,h2⟩)
   ·exact .inl h2
   ·by_cases hq:i=q
    ·subst hq;exact .inl Ot
    ·exact .inr ⟨p',(kM p').2 ⟨h1,by rw [h2];exact hq⟩,h2⟩
  ·rintro(h1 | ⟨p',h1,h2⟩)
   ·by_cases hq:i=q
    ·subst hq;exact .inr ⟨p,hp,pj⟩
    ·exact .inl ⟨hq,h1⟩
   ·exact .inr ⟨p',((kM p').1 h1).1,h2⟩
 ·obtain⟨M,s,tm,oL,bc,e,r,ht,mc,hn,hd,hg,qB,ox⟩:=h
  have hk:=qB p hp
  obtain⟨vs,T,hh,hl,h1,h2⟩:=hk.cells
  have qy:=hk.ai
  rw [pj]at qy
  simp only [ig,qy,AI.kind,eY]at hg
  obtain⟨d,s',vr,hg⟩:=hg
  have mN:aM (.alloc p.z) tm s=some (d,s'):=vr
  simp only [aM,Option.some.injEq,Prod.mk.injEq]at mN
  obtain⟨rfl,rfl⟩:=mN
  obtain⟨r',e',le⟩:=r.Rr e hk.unk hk.base p.z vs T hh hl h1 (h2 M s)
  refine⟨_,_,_,oL.put (some p.t) (.ptr s.au.length 0),_,e',r',fun u=> ?_,fun t Ou=> ?_,hn,hd,hg,fun p' kV=> ?_,fun p1 h1 p2 h2=>ox p1 ((kM p1).1 h1).1 p2 ((kM p2).1 h2).1⟩
  ·rw [Tm.iE]
   split
   ·rename_i heq
    cases heq
    rw [hk.slot]
    have:(M.c6 s.au.length p.b).mu s.au.length=p.b:=by simp [Map.c6,Map.mu]
    have h5:=RD.ptr (M:=M.c6 s.au.length p.b) (s:= {s with au:=s.au++ [p.z]}) s.au.length 0 (by simp) (by simp [Map.c6,Map.ob])
    rw [this]at h5
    exact h5
   ·exact(ht u).mono le
  ·simp only [AI.dst]
   rw [Tm.iE,Tm.iE]
   split
   ·rfl
   ·rename_i dX
    refine mc t fun p' kV=> ?_
    by_cases hq:p'.q=q
    ·have:=ox p' kV p hp (.inl (hq.trans pj.symm))
     subst this
     exact fun h=>dX (by rw [h])
    ·exact Ou p' ((kM p').2 ⟨kV,hq⟩)
  ·obtain⟨S4,S5⟩:=(kM p').1 kV
   have vD:=qB p' S4
   refine⟨?_,vD.ai,vD.cells,⟨fun o ho=> ?_,vD.unk.t,vD.unk.g⟩,vD.base,vD.slot⟩
   ·have:=vD.mem
    simp only [List.map_cons,List.mem_cons]at this
    exact this.resolve_left S5
   ·simp at ho
    rcases Nat.lt_or_ge o s.au.length with h5 | h5
    ·rw [le.mu o h5];exact vD.unk.o o h5
    ·have:o=s.au.length:=by omega
     subst this
     have:(M.c6 s.au.length p.b).mu s.au.length=p.b:=by simp [Map.c6,Map.mu]
     rw [this]
     intro hb
     have:=ox p hp p' S4 (.inr (.inr hb))
     subst this
     exact S5 pj
theorem norm {bV:Array Bool} {act:Act} {w:World} : ∀ (R:List (Nat×Nat)) (cQ:List Pd),nf is af pt bV R cQ→sE P is K B nt R cQ act w→
 ∃ R' qC,nf is af pt bV R' qC∧sE P is K B nt R' qC act w∧∀ x l,R'=x::l→∀ p∈qC,p.q≠x.1
 | [],cQ,hs,h=>⟨[],cQ,hs,h,fun _ _ he=>by cases he⟩
 | (q,b)::R,cQ,hs,h=>by
  by_cases hp : ∃ p∈cQ,p.q=q
  ·obtain⟨p,hp,pj⟩:=hp
   obtain⟨h1,h2⟩:=Oq hs h hp pj
   exact norm R _ h1 h2
  ·refine⟨(q,b)::R,cQ,hs,h,fun x l he p Ov pj=>hp ⟨p,Ov, ?_⟩⟩
   cases he
   exact pj
theorem Lx {ops:Array Oper} {q:Nat} {o:Oper} {ai:AI} (hi:ops[q]? = some o) (hc:cI P nt ops o=some ai) {R R':List (Nat×Nat)} {cQ:List Pd} {act:Act} {w:World} {M:Map} {s s1:St} {tm oL:Tm} {d:D} {Ly:List St}
 (e:Ext B.M B.s B.w M s w) (r:Rel M s w) (ht:je M s oL act.tmps) (mc : ∀ t,(∀ p∈cQ,p.t≠t)→oL.get t=tm.get t) (hn:act.tmps.size=nt) (hd:act.defers = [])
 (qB : ∀ p∈cQ,Oo is R B M s act w p) (ox : ∀ p∈cQ,∀ p'∈cQ,p.q=p'.q∨p.t=p'.t∨p.b=p'.b→p=p')
 (hv:fO P [ai] (fun a b=>a=oL.put ai.dst d∧b=s1) oL s) (hg:ig P is K R' Ly (tm.put ai.dst d) s1)
 (kM : ∀ p∈cQ,p.q∈R'.map (·.1)) (mz : ∀ p∈cQ,ai.dst≠some p.t) {Q:Exit→Act→World→Prop} :
 wpOp P ops Q q (sE P is K B nt R' cQ) act w:=by
 refine rh hi hc r (B.laid.ext e) ht hv fun d' v s2 w1 M1 hk e1 r1 lX=> ?_
 obtain⟨vv,rfl⟩:=hk
 have S6:=oJ hc
 have hD : ∀ t,o.dst=some t→t<act.tmps.size:=fun t h=>by rw [hn];exact rS hc t h
 refine⟨M1,s2,tm.put ai.dst d,oL.put ai.dst d,Ly,e.trans e1,r1, ?_,fun t Ou=> ?_, ?_, ?_,hg,fun p hp=> ?_,ox⟩
 ·rw [← vv,S6]
  exact(ht.mono e1.le).put hD lX
 ·rw [Tm.iE,Tm.iE,mc t Ou]
 ·cases ho:o.dst <;> simp [Act.put,hn]
 ·cases ho:o.dst <;> simp [Act.put,hd]
 ·have hk:=qB p hp
  obtain⟨vs,T,hh,hl,h1,h2⟩:=hk.cells
  have hb:=jc hh
  refine⟨kM p hp,hk.ai,⟨vs,T,by rw [e1.kept p.b hb hk.unk.o hk.unk.t];exact hh,hl,h1,h2⟩,hk.unk.mono e1 hb,hk.base, ?_⟩
  rw [← hk.slot]
  have:=mz p hp
  rw [S6]at this
  cases ho:o.dst with
  | none=>rfl
  | some t=>
   rw [ho]at this
   have dX:t≠p.t:=fun h=>this (by rw [h])
   simp [Act.put,Array.getElem?_setIfInBounds_ne dX]
theorem D1 {ai:AI} (hm:eY ai.kind=false) {tm:Tm} {s:St} {d:D} (h:gx ai tm s=some d):fO P [ai] (fun a b=>a=tm.put ai.dst d∧b=s) tm s:=by
 cases ai with
 | op dst g o=>
  have W6:=C3 hm
  have key : ∀ {d},(aM o tm s).map (·.1)=some d→aM o tm s=some (d,s):=by
   intro d h
   cases he:aM o tm s with
   | none=>rw [he]at h;cases h
   | some p=>
    obtain⟨d',s'⟩:=p
    rw [he]at h
    simp only [Option.map_some,Option.some.injEq]at h
    subst h
    rw [Ce (by rw [← W6];exact hm) he]
  simp only [fO,AI.dst]
  cases g with
  | none=>
   simp only [gx]at h
   simp only [guarded,key h,and_self]
  | some p=>
   obtain⟨t,want⟩:=p
   simp only [gx]at h
   simp only [guarded]
   split at h
   ·rename_i b hb
    simp only [hb]
    split at h
    ·rename_i heq
     refine⟨fun _=>by simp only [key h,and_self],fun dX=> ?_⟩
     subst heq
     cases b <;> cases dX
    ·rename_i dX
     cases h
     exact⟨fun heq=>(dX heq).elim,fun _=>by simp⟩
   ·rename_i ds hb
    cases h
    simp only [hb,and_self]
   ·cases h
 | call dst g f xs=>cases hm
 | nil dst g n x=>cases hm
 | fW dst g t xs=>cases hm
theorem uq {g:Option (Nat×Bool)} {tm:Tm} {A A' C C':Prop} (ha:A→A') (hc:C→C') (hh:guarded g tm A C):guarded g tm A' C':=by
 cases g with
 | none=>exact ha hh
 | some p=>
  obtain⟨t,want⟩:=p
  unfold guarded at *
  simp only at *
  split
  ·rename_i b hb;rw [hb]at hh;exact⟨fun e=>ha (hh.1 e),fun e=>hc (hh.2 e)⟩
  ·rename_i hb;rw [hb]at hh;exact hc hh
  ·rename_i x h1 h2
   split at hh
   ·exact h1 _ ‹_›
   ·exact h2 _ ‹_›
   ·exact hh
theorem Bc {ai:AI} {tm:Tm} {s s1:St} {d:D} (h:ou P ai tm s d s1):fO P [ai] (fun a b=>a=tm.put ai.dst d∧b=s1) tm s:=by
 cases ai with
 | op dst g o=>
  refine uq (fun e=> ?_) (fun e=> ?_) h
  ·rw [e];exact⟨rfl,rfl⟩
  ·obtain⟨rfl,rfl⟩:=e;exact⟨rfl,rfl⟩
 | call dst g f xs=>
  refine uq (fun e=> ?_) (fun e=> ?_) h
  ·exact e.mono fun x y W7=>by obtain⟨rfl,rfl⟩:=W7;exact⟨rfl,rfl⟩
  ·obtain⟨rfl,rfl⟩:=e;exact⟨rfl,rfl⟩
 | nil dst g n x=>exact h.elim
 | fW dst g t xs=>exact h.elim
end
end Go.Abs

/-! Par3 -/

namespace Go.Abs
section
variable {P:Program} {is:List AI} {af pt:List (List Nat)} {K:Tm→St→Prop} {B:fp} {nt:Nat}
theorem va {ops:Array Oper} : ∀ {ol:List Oper} {is:List AI},mV P nt ops ol=some is→is.length=ol.length∧∀ (i:Nat) (o:Oper),ol[i]? = some o→∃ ai,is[i]? = some ai∧cI P nt ops o=some ai
 | [],is,h=>by cases h;exact⟨rfl,by simp⟩
 | o::ol,is,h=>by
  unfold mV at h
  split at h
  ·rename_i ai Gf h1 h2
   cases h
   obtain⟨g1,g2⟩:=va h2
   refine⟨by simp [g1],fun i o' ho=> ?_⟩
   cases i with
   | zero=>simp at ho;subst ho;exact⟨ai,rfl,h1⟩
   | succ i=>exact g2 i o' (by simpa using ho)
  ·cases h
theorem oy {bV:Array Bool} {i:Nat} (h:i<bV.size):bV.getD i true=bV.getD i false:=by
 simp [h]
theorem nf.done {bV:Array Bool} {X Y:List (Nat×Nat)} {q b:Nat} {cQ:List Pd} (hs:nf is af pt bV (X++(q,b)::Y) cQ) (hq:q<is.length)
 (yX : ∀ j∈fe pt q,bV.getD j false=true):nf is af pt (bV.setIfInBounds q true) (X++Y) cQ:=by
 obtain⟨g1,g2,g3,g4,g5⟩:=oK hs.ok
 have W8:q∉Y.map (·.1):=fun hm=>by
  obtain⟨x,hx,rfl⟩:=List.mem_map.1 hm
  exact(u9 g5 x hx).1 (by simp)
 refine⟨x6 hs.ok,fun i hi=> ?_,fun i hi hl j hj=> ?_,by simp [hs.size],fun x hx=>hs.lt x (by simp at hx ⊢;exact hx.imp id .inr)⟩
 ·by_cases ph:i=q
  ·subst ph
   have:i<bV.size:=by rw [hs.size];exact hq
   simp only [List.map_append,List.mem_append,g2,W8,or_self,not_false_eq_true,true_or,iff_true]
   simp [this]
  ·rw [getD_set_ne false (Ne.symm ph),hs.yW i hi]
   simp [ph]
 ·by_cases ph:i=q
  ·subst ph;exact getD_set_true (yX j hj)
  ·rw [getD_set_ne false (Ne.symm ph)]at hl
   exact getD_set_true (hs.cl i hi hl j hj)
theorem nf.flag {bV:Array Bool} {R:List (Nat×Nat)} {cQ:List Pd} (hs:nf is af pt bV R cQ) {p:Pd} (hq:p.q<is.length)
 (yX : ∀ j∈fe pt p.q,bV.getD j false=true):nf is af pt (bV.setIfInBounds p.q true) R (p::cQ):=by
 refine⟨hs.ok,fun i hi=> ?_,fun i hi hl j hj=> ?_,by simp [hs.size],hs.lt⟩
 ·by_cases ph:i=p.q
  ·subst ph
   have:p.q<bV.size:=by rw [hs.size];exact hq
   simp [this]
  ·rw [getD_set_ne false (Ne.symm ph),hs.yW i hi]
   have dX:p.q≠i:=fun h=>ph h.symm
   simp [dX]
 ·by_cases ph:i=p.q
  ·subst ph;exact getD_set_true (yX j hj)
  ·rw [getD_set_ne false (Ne.symm ph)]at hl
   exact getD_set_true (hs.cl i hi hl j hj)
theorem D2 {ai:AI} (h:ai.kind = .alloc) : ∃ t z,ai = .op (some t) none (.alloc z):=by
 cases ai with
 | op dst g o=>
  unfold AI.kind at h
  split at h
  ·rename_i heq;cases heq;exact⟨_,_,rfl⟩
  ·rename_i heq
   cases heq
   exfalso
   revert h
   cases o <;> simp [AO.kind]
  ·cases h
 | call dst g f xs=>cases h
 | nil dst g n x=>cases h
 | fW dst g t xs=>cases h
theorem D3 {ops:Array Oper} (ri:mV P nt ops ops.toList=some is) (D4:rK af pt is.length=true)
 (hK : ∀ tm bp s,Tm.eqv tm bp→K tm s→K bp s) {bV:Array Bool} {R:List (Nat×Nat)} {cQ:List Pd} {act:Act} {w:World} (hs:nf is af pt bV R cQ) (h:sE P is K B nt R cQ act w)
 (Rt : ∀ x l,R=x::l→∀ p∈cQ,p.q≠x.1) {q:Nat} (hq:q<is.length) (w6:bV.getD q false=false) (lX : ∀ j∈fe af q,j<is.length∧bV.getD j false=true)
 {Q:Exit→Act→World→Prop} {K2:Act→World→Prop} (Ox : ∀ R' qC a' w',nf is af pt (bV.setIfInBounds q true) R' qC→sE P is K B nt R' qC a' w'→K2 a' w'):wpOp P ops Q q K2 act w:=by
 obtain⟨hlen,hF⟩:=va ri
 have Lo:q<ops.size:=by rw [hlen]at hq;simpa using hq
 obtain⟨ai,qy,Gt⟩:=hF q ops[q] (by simp [Lo])
 have hi:ops[q]? = some ops[q]:=by simp [Lo]
 have yX : ∀ j∈fe pt q,bV.getD j false=true:=fun j hj=>by
  rcases vC D4 q hq j hj with h1 | ⟨k,h1,h2⟩
  ·exact(lX j h1).2
  ·exact hs.cl k (lX k h1).1 (lX k h1).2 j h2
 have Gu : ∀ p∈cQ,p.q≠q:=fun p hp pj=>by
  have:=(hs.yW q hq).2 (.inr ⟨p,hp,pj⟩)
  rw [w6]at this;cases this
 have Ot:q∈R.map (·.1):=by
  by_cases hm:q∈R.map (·.1)
  ·exact hm
  ·have:=(hs.yW q hq).2 (.inl hm)
   rw [w6]at this;cases this
 obtain⟨⟨q',b⟩,hx,S7⟩:=List.mem_map.1 Ot
 simp only at S7
 subst S7
 obtain⟨X,Y,rfl⟩:=List.append_of_mem hx
 obtain⟨g1,g2,g3,g4,g5⟩:=oK hs.ok
 rw [List.append_nil]at g1 g5
 obtain⟨M,s,tm,oL,bc,e,r,ht,mc,hn,hd,hg,qB,ox⟩:=h
 have Gv:fX is q'=ai.kind:=by simp [fX,qy]
 -- what must have come up ahead of it, is not here any more, but for what was allocated early
 have Lz : ∀ a∈X.map (·.1),a∈fe pt q'→∃ p∈cQ,p.q=a:=fun a ha cP=>by
  have h1:=yX a cP
  obtain⟨x,S8,rfl⟩:=List.mem_map.1 ha
  rcases(hs.yW x.1 (hs.lt x (by simp [S8]))).1 h1 with h2 | h2
  ·exact(h2 (by simp;exact .inl ⟨x.2,S8⟩)).elim
  ·exact h2
 have LA : ∀ x l,X=x::l→x.1∉fe pt q':=fun x l hX Oy=>by
  obtain⟨p,hp,pj⟩:=Lz x.1 (by simp [hX]) Oy
  exact Rt x (l++(q',b)::Y) (by simp [hX]) p hp pj
 have S9 : ∀ p∈cQ,fX is p.q = .alloc:=fun p hp=>by simp [fX,(qB p hp).ai,AI.kind]
 have v7 : ∀ p∈cQ,(p.q∈X.map (·.1)→iA is p.q q'=true)→(∀ t,ai.dst=some t→t≠p.t)∧p.t∉ai.reads:=fun p hp hX=>by
  have hk:=qB p hp
  have hm:=hk.mem
  simp only [List.map_append,List.map_cons,List.mem_append,List.mem_cons]at hm
  rcases hm with hm | hm | hm
  ·have:=hX hm
   simp only [iA,hk.ai,qy]at this
   obtain⟨p1,p2,p3⟩:=apart_spec this
   exact⟨fun t ht he=>p3 p.t rfl (by rw [ht,he]),p1 p.t rfl⟩
  ·exact(Gu p hp hm).elim
  ·obtain⟨x,Xa,LB⟩:=List.mem_map.1 hm
   have:=(u9 g5 x Xa).2 (by rw [LB];exact S9 p hp) q' (by simp)
   rw [LB]at this
   simp only [iA,hk.ai,qy]at this
   obtain⟨p1,p2,p3⟩:=apart_spec this
   exact⟨fun t ht he=>p3 t ht (by rw [he];rfl),p2 p.t rfl⟩
 have Gw:(∀ p∈cQ,p.t∉ai.reads)→∀ t∈ai.reads,tm.get t=oL.get t:=fun hp t ht=>(mc t fun p Ov he=>hp p Ov (by rw [he];exact ht)).symm
 have LC : ∀ p∈cQ,p.q∈(X++Y).map (·.1):=fun p hp=>by
  have hm:=(qB p hp).mem
  have:=Gu p hp
  simp only [List.map_append,List.map_cons,List.mem_append,List.mem_cons]at hm ⊢
  rcases hm with hm | hm | hm
  ·exact .inl hm
  ·exact(this hm).elim
  ·exact .inr hm
 by_cases C5:ai.kind = .alloc
 ·-- an allocation
  obtain⟨t,z,rfl⟩:=D2 C5
  have cP : ∀ a∈X.map (·.1),iA is a q'=true:=fun a ha=>by
   unfold k7 at g1
   rw [Gv,C5]at g1
   simp only [List.all_reverse,List.all_eq_true]at g1
   exact g1 a ha
  have yY:=fun p hp=>v7 p hp (cP p.q)
  refine Cf hi Gt fun vs T hl h1 h2=> ?_
  obtain⟨r1,e1,u1⟩:=r.idle (.cells vs T)
  have Oz:t<act.tmps.size:=by
   rw [hn]
   exact rS Gt t (by rw [← oJ Gt];rfl)
  have:=hs.flag (p:=⟨q',t,z,w.heap.size⟩) hq yX
  refine Ox _ _ _ _ this ⟨M,s,tm,oL.put (some t) .junk,bc,e.trans e1,r1,je.put ht (dst:=some t) (fun u hu=>by cases hu;exact Oz) (.junk _),fun u hu=> ?_,by simp [Act.put,hn],by simp [Act.put,hd],hg,fun p hp=> ?_,fun p hp p' kV he=> ?_⟩
  ·have h3:=hu ⟨q',t,z,w.heap.size⟩ (by simp)
   rw [Tm.iE,if_neg (by simpa using h3)]
   exact mc u fun p hp=>hu p (List.mem_cons_of_mem _ hp)
  ·rcases List.mem_cons.1 hp with rfl | hp
   ·refine⟨by simp,qy,⟨vs,T,heap_alloc_new w _,hl,h1,h2⟩,u1,e.size, ?_⟩
    simp [Act.put,Oz]
   ·have hk:=qB p hp
    obtain⟨ei,T',jh,lJ,nT,rU⟩:=hk.cells
    refine⟨hk.mem,hk.ai,⟨ei,T',by rw [heap_alloc_old w _ _ (jc jh)];exact jh,lJ,nT,rU⟩,hk.unk,hk.base, ?_⟩
    rw [← hk.slot]
    have dX:t≠p.t:=(yY p hp).1 t rfl
    simp [Act.put,Array.getElem?_setIfInBounds_ne dX]
  ·have dg : ∀ p∈cQ,¬ (q'=p.q∨t=p.t∨w.heap.size=p.b):=fun p hp h=>by
    rcases h with h | h | h
    ·exact Gu p hp h.symm
    ·exact(yY p hp).1 t rfl h
    ·obtain⟨ei,T',jh,_⟩:=(qB p hp).cells
     have:=jc jh
     omega
   rcases List.mem_cons.1 hp with rfl | hp <;> rcases List.mem_cons.1 kV with rfl | kV
   ·rfl
   ·exact(dg p' kV he).elim
   ·exact(dg p hp (he.imp Eq.symm (Or.imp Eq.symm Eq.symm))).elim
   ·exact ox p hp p' kV he
 ·by_cases kz:eY ai.kind=true
  ·-- a step that changes something: it stands first
   have Xb:ai.kind = .core:=by
    cases hk:ai.kind <;> simp_all [eY]
   have hX:X = []:=by
    cases X with
    | nil=>rfl
    | cons x l=>
     refine(LA x l rfl ?_).elim
     unfold k7 at g1
     rw [Gv,Xb]at g1
     simp only [List.all_reverse,List.all_eq_true]at g1
     have:=g1 x.1 (by simp)
     rwa [List.contains_iff_mem]at this
   subst hX
   have yY:=fun p hp=>v7 p hp (fun h=>by simp at h)
   simp only [List.nil_append,ig,qy,kz]at hg
   obtain⟨d,s1,vr,hg⟩:=hg
   have TW:=rb (Gw fun p hp=>(yY p hp).2) vr
   refine wpOp_mono (fun a' w' hr=>Ox _ _ _ _ (hs.done hq yX) hr) ?_
   exact Lx hi Gt e r ht mc hn hd qB ox (Bc TW) hg LC (fun p hp he=>(yY p hp).1 _ he rfl)
  ·-- a step that changes nothing
   have hm:eY ai.kind=false:=by simpa using kz
   have lh : ∀ a∈X.map (·.1),a∉fe pt q':=fun a ha cP=>by
    obtain⟨p,hp,pj⟩:=Lz a ha cP
    have yP:fX is a = .alloc:=by rw [← pj];exact S9 p hp
    have gY:iu is (fe pt q') (X.map (·.1)).reverse=true:=by
     unfold k7 at g1
     rw [Gv]at g1
     cases hk:ai.kind with
     | pure=>simp only [hk,Bool.and_eq_true]at g1;exact g1.2
     | load=>simp only [hk,Bool.and_eq_true]at g1;exact g1.1.2
     | alloc=>exact(C5 hk).elim
     | core=>rw [hk]at hm;cases hm
    cases X with
    | nil=>simp at ha
    | cons x l=>
     have Xc:a∈((x::l).map (·.1)).reverse:=List.mem_reverse.2 ha
     obtain⟨l1,l2,pV⟩:=List.append_of_mem Xc
     have wa:=rV gY a l1 l2 pV yP cP
     refine LA x l rfl ?_
     cases jQ:l2.reverse with
     | nil=>
      have h3:l2 = []:=by simpa using jQ
      subst h3
      have:=congrArg List.reverse pV
      simp at this
      rw [this.1];exact cP
     | cons y l3=>
      have:=congrArg List.reverse pV
      simp only [List.reverse_reverse,List.map_cons,List.reverse_append,List.reverse_cons,List.reverse_nil,List.append_assoc,jQ,List.cons_append,List.nil_append,List.cons.injEq]at this
      rw [this.1]
      exact wa y (by rw [← List.mem_reverse,jQ];simp)
   have cP : ∀ a∈X,iA is a.1 q'=true:=fun a ha=>by
    have h3 : ∀ x∈(X.map (·.1)).reverse,((fe pt q').contains x || iA is x q')=true:=by
     unfold k7 at g1
     rw [Gv]at g1
     cases hk:ai.kind with
     | pure=>simp only [hk,Bool.and_eq_true]at g1;exact List.all_eq_true.1 g1.1
     | load=>simp only [hk,Bool.and_eq_true]at g1;exact List.all_eq_true.1 g1.1.1
     | alloc=>exact(C5 hk).elim
     | core=>rw [hk]at hm;cases hm
    have:=h3 a.1 (List.mem_reverse.2 (List.mem_map_of_mem ha))
    simp only [Bool.or_eq_true,List.contains_iff_mem]at this
    exact this.resolve_left (lh a.1 (List.mem_map_of_mem ha))
   have OA:ai.kind = .load→gf is (X.map (·.1))≤b:=fun hk=>by
    unfold k7 at g1
    rw [Gv,hk]at g1
    simp only [Bool.and_eq_true,decide_eq_true_eq]at g1
    have h3:=g1.2
    have h4:(X.map (·.1)).reverse.filter (fun a=> !(fe pt q').contains a)=(X.map (·.1)).reverse:=by
     rw [List.filter_eq_self]
     intro a ha
     have:=lh a (List.mem_reverse.1 ha)
     simpa using this
    rw [h4]at h3
    unfold gf at h3 ⊢
    rw [List.filter_reverse,List.length_reverse]at h3
    exact h3
   have yY:=fun p hp=>v7 p hp (fun h=>by
    obtain⟨x,hx,LB⟩:=List.mem_map.1 h
    rw [← LB];exact cP x hx)
   obtain⟨d,h1,_,LD⟩:=rf hK qy hm Y X bc tm s cP OA hg
   have nT:gx ai oL s=some d:=by rw [← mO (Gw fun p hp=>(yY p hp).2)];exact h1
   refine wpOp_mono (fun a' w' hr=>Ox _ _ _ _ (hs.done hq yX) hr) ?_
   exact Lx hi Gt e r ht mc hn hd qB ox (D1 hm nT) LD LC (fun p hp he=>(yY p hp).1 _ he rfl)
theorem vE {o:Oper} {j:Nat} : j∈jN o↔∃ e∈o.after,Region.binds .any e=true∧e.on=j:=by
 simp only [jN,List.mem_map,List.mem_filter,Array.mem_toList_iff]
 constructor
 ·rintro⟨e,⟨h1,h2⟩,h3⟩;exact⟨e,h1,h2,h3⟩
 ·rintro⟨e,h1,h2,h3⟩;exact⟨e,⟨h1,h2⟩,h3⟩
theorem D5 {ops:Array Oper} (ri:mV P nt ops ops.toList=some is) (D4:rK (ops.toList.map jN) pt is.length=true)
 (OB : ∀ i,i<is.length→∀ j∈fe (ops.toList.map jN) i,j<is.length) {Q:Exit→Tm→St→Prop} (hK : ∀ tm bp s,Tm.eqv tm bp→K tm s→K bp s)
 (Xd : ∀ tm s act w,K tm s→Holds B nt tm s act w→lN B nt Q .normal act w) :
 ∀ (fuel:Nat) (bV:Array Bool) (R:List (Nat×Nat)) (cQ:List Pd) (act:Act) (w:World) (U:List Nat),U.length≤fuel→(∀ j,j<is.length→bV.getD j false=false→j∈U)→
  nf is (ops.toList.map jN) pt bV R cQ→sE P is K B nt R cQ act w→wpAny P .any ops (lN B nt Q) fuel bV act w:=by
 obtain⟨hlen,_⟩:=va ri
 have qD:is.length=ops.size:=by rw [hlen];simp
 have OC : ∀ (j:Nat) (o:Oper),ops[j]? = some o→fe (ops.toList.map jN) j=jN o:=fun j o h=>by
  simp [fe,List.getD,h]
 have fin : ∀ {bV:Array Bool} {cQ:List Pd} {act:Act} {w:World},sE P is K B nt [] cQ act w→lN B nt Q .normal act w:=by
  intro bV cQ act w h
  obtain⟨M,s,tm,oL,bc,e,r,ht,mc,hn,hd,hg,qB,ox⟩:=h
  have A1 : ∀ p∈cQ,False:=fun p hp=>by have:=(qB p hp).mem;simp at this
  exact Xd oL s act w (hK tm oL s (fun t=>(mc t fun p hp=>(A1 p hp).elim).symm) hg) ⟨M,e,r,ht,hn,hd⟩
 have Gx : ∀ {bV:Array Bool} {R:List (Nat×Nat)} {cQ:List Pd} {x:Nat×Nat} {l:List (Nat×Nat)},nf is (ops.toList.map jN) pt bV R cQ→R=x::l→(∀ p∈cQ,p.q≠x.1)→
  x.1∈Region.ready .any ops bV:=by
  intro bV R cQ x l hs hR Gu
  subst hR
  have hx:=hs.lt x (by simp)
  rw [mem_ready]
  have w6:bV.getD x.1 false=false:=by
   cases hl:bV.getD x.1 false with
   | false=>rfl
   | true=>
    rcases(hs.yW x.1 hx).1 hl with h1 | ⟨p,hp,pj⟩
    ·exact(h1 (by simp)).elim
    ·exact(Gu p hp pj).elim
  have Ta:x.1<ops.size:=by rw [← qD];exact hx
  refine⟨by rw [oy (by rw [hs.size];exact hx)];exact w6,ops[x.1],by simp [Ta],fun e he hb=> ?_⟩
  have hm:e.on∈fe (ops.toList.map jN) x.1:=by rw [OC x.1 ops[x.1] (by simp [Ta])];exact vE.2 ⟨e,he,hb,rfl⟩
  obtain⟨_,_,_,g4,_⟩:=oK (X:= []) (q:=x.1) (b:=x.2) hs.ok
  obtain⟨h1,h2⟩:=g4 _ hm
  refine(hs.yW e.on (OB x.1 hx _ hm)).2 (.inl ?_)
  simp only [List.map_cons,List.mem_cons,not_or]
  exact⟨h1,h2⟩
 intro fuel
 induction fuel with
 | zero=>
  intro bV R cQ act w U hU w6 hs h
  obtain⟨R',qC,k9,h',hn⟩:=norm R cQ hs h
  have Xe:U = []:=List.length_eq_zero_iff.1 (by omega)
  have wa : ∀ j,j<is.length→bV.getD j false=true:=fun j hj=>by
   cases hl:bV.getD j false with
   | true=>rfl
   | false=>have:=w6 j hj hl;rw [Xe]at this;cases this
  have hR:R' = []:=by
   cases hR:R' with
   | nil=>rfl
   | cons x l=>
    have hx:=k9.lt x (by simp [hR])
    have:=Gx k9 hR (hn x l hR)
    rw [mem_ready,oy (by rw [k9.size];exact hx),wa x.1 hx]at this
    cases this.1
  subst hR
  refine⟨?_,fin (bV:=bV) h'⟩
  cases hr:Region.ready .any ops bV with
  | nil=>rfl
  | cons j js=>
   have hj:j∈Region.ready .any ops bV:=by rw [hr];simp
   rw [mem_ready]at hj
   obtain⟨h1,o,ho,_⟩:=hj
   have LF:j<is.length:=by rw [qD];exact(Array.getElem?_eq_some_iff.1 ho).1
   rw [oy (by rw [hs.size];exact LF),wa j LF]at h1
   cases h1
 | succ fuel ih=>
  intro bV R cQ act w U hU w6 hs h
  obtain⟨R',qC,k9,h',hn⟩:=norm R cQ hs h
  refine⟨fun hr=> ?_,fun i hi=> ?_⟩
  ·cases hR:R' with
   | nil=>subst hR;exact fin (bV:=bV) h'
   | cons x l=>
    have:=Gx k9 hR (hn x l hR)
    rw [hr]at this
    cases this
  ·rw [mem_ready]at hi
   obtain⟨h1,o,ho,TY⟩:=hi
   have mZ:i<is.length:=by rw [qD];exact(Array.getElem?_eq_some_iff.1 ho).1
   rw [oy (by rw [hs.size];exact mZ)]at h1
   refine D3 ri D4 hK k9 h' hn mZ h1 (fun j hj=>⟨OB i mZ j hj, ?_⟩) fun R2 Rv a2 w2 CW h2=> ?_
   ·rw [OC i o ho]at hj
    obtain⟨e,he,hb,rfl⟩:=vE.1 hj
    exact TY e he hb
   ·refine ih _ R2 Rv a2 w2 (U.erase i) ?_ (fun j hj hl=> ?_) CW h2
    ·have:=List.length_erase_of_mem (w6 i mZ h1)
     omega
    ·have Tb:j≠i:=fun e=>by
      subst e
      have:j<bV.size:=by rw [hs.size];exact mZ
      simp [this]at hl
     rw [getD_set_ne false (Ne.symm Tb)]at hl
     exact(List.mem_erase_of_ne Tb).2 (w6 j hj hl)
theorem Sem.par {is:List AI} {iX:List (Nat×Nat)} {Q:Exit→Tm→St→Prop} {tm:Tm} {s:St} (h:ig P is (Q .normal) iX [] tm s):Sem P B nt (.par is iX) Q tm s:=by
 intro c hc act w hh
 obtain⟨id,ops,rfl,hi,hm,pt,hp⟩:=jg hc
 simp only [AE,Bool.and_eq_true,List.all_eq_true,List.mem_range,List.contains_iff_mem,decide_eq_true_eq]at hp
 obtain⟨⟨⟨⟨h1,h2⟩,h3⟩,h4⟩,h5⟩:=hp
 obtain⟨hlen,_⟩:=va hi
 have qD:is.length=ops.size:=by rw [hlen];simp
 refine wp_region_any hm ?_
 obtain⟨M,e,r,ht,hn,hd⟩:=hh
 have key : ∀ (R:List (Nat×Nat)) (bc:List St) (tm:Tm) (s:St),ig P is (Q .normal) R bc tm s→ig P is (fun tm s=>∃ bp,tm.eqv bp∧Q .normal bp s) R bc tm s:=by
  intro R
  induction R with
  | nil=>intro bc tm s h;exact⟨tm,fun _=>rfl,h⟩
  | cons x R ih=>
   obtain⟨q,b⟩:=x
   intro bc tm s h
   unfold ig at h ⊢
   split at h
   ·exact h.elim
   ·split at h
    ·obtain⟨d,s',h1,h2⟩:=h;exact⟨d,s',h1,ih _ _ _ h2⟩
    ·obtain⟨d,h1,h2,h3⟩:=h;exact⟨d,h1,h2,ih _ _ _ h3⟩
 have hg:=key _ _ _ _ h
 refine D5 (K:=fun tm s=>∃ bp,tm.eqv bp∧Q .normal bp s) hi h1 h5 (fun tm bp s he ⟨t2,h3,h4⟩=>⟨t2,fun t=>(he t).symm.trans (h3 t),h4⟩)
  (fun tm s act w ⟨t2,h3,h4⟩ ⟨M,e,r,ht,hn,hd⟩=>⟨t2,s,h4,M,e,r,fun t=>by rw [← h3 t];exact ht t,hn,hd⟩) ops.size _ iX [] act _ (List.range is.length) (by simp [qD]) (fun j hj _=>by simpa using hj)
  ⟨h2,fun i hi=> ?_,fun i hi hl=> ?_,by simp [qD],h4⟩ ⟨M,s,tm,tm,[],⟨e.le,e.kept,e.mS,e.mT,e.oV,e.size,e.os,e.tape,e.output⟩,r.of_heap rfl,ht,fun _ _=>rfl,hn,hd,hg,by simp,by simp⟩
 ·have:i<ops.size:=by rw [← qD];exact hi
  have h6:=h3 i hi
  simp only [List.not_mem_nil,false_and,exists_false,or_false]
  rw [show(Array.replicate ops.size false).getD i false=false by simp [this]]
  simp [h6]
 ·have:i<ops.size:=by rw [← qD];exact hi
  rw [show(Array.replicate ops.size false).getD i false=false by simp [this]]at hl
  cases hl
end
end Go.Abs

/-! Step -/

namespace Go.Abs
theorem Mu (k:IntKind) (n:Int):D.row (.int k n)=some [.int k n]:=rfl
theorem IV (b:Bool):D.row (.bool b)=some [.bool b]:=rfl
theorem Mv (l:List UInt8):D.row (.str l)=some [.str l]:=rfl
theorem IW:D.row .dY=some [.dY]:=rfl
theorem Mw (o f:Nat):D.row (.ptr o f)=some [.ptr o f]:=rfl
theorem IX (r:List D) (f:Nat):D.row (.dd r f)=some [.dd r f]:=rfl
theorem Gy (g:Tag) (z:Nat) (r:List (List D)):D.row (.slice g z r)=some [.slice g z r]:=rfl
theorem Mx (cs:List D):D.row (.agg cs)=some cs:=rfl
theorem My (v:Value):D.row (.val v)=some [.val v]:=rfl
theorem Gz (T:TypeId) (o:Nat):D.row (.dZ T o)=some [.dZ T o]:=rfl
theorem Mz (f:Nat) (cs:List D):D.row (.fa f cs)=some [.fa f cs]:=rfl
theorem IY (o:Nat):D.row (.fl o)=some [.fl o]:=rfl
theorem IZ (w:Bool):Tag.cut .full w=if w then .full else .shared:=rfl
theorem D6 (w:Bool):Tag.cut .shared w = .shared:=rfl
theorem I0 (t:Nat) (y:Bool) (w:Bool):Tag.cut (.tok t y) w = .tok t y:=rfl
section
variable {P:Program}
def KC (P:Program) (r:List AI) (K:Tm→St→Prop) (tm:Tm) (dst:Option Nat) (d:D) (s:St):Prop:=fO P r K (tm.put dst d) s
def GI (P:Program) (g:D) (want:Bool) (i:AI) (r:List AI) (K:Tm→St→Prop) (tm:Tm) (s:St):Prop:=
 match g with
 | .bool b=>(b=want→fO P (i::r) K tm s)∧(b=(!want)→fO P r K (tm.put i.dst (.tuple [])) s)
 | .tuple _=>fO P r K (tm.put i.dst (.tuple [])) s
 | _=>False
def NI (P:Program) (dst:Option Nat) (neg:Bool) (x:D) (r:List AI) (K:Tm→St→Prop) (tm:Tm) (s:St):Prop:=
 match x with
 | .slice _ _ rows=>∀ b:Bool,(rows≠ []→b=false)→fO P r K (tm.put dst (.bool (if neg then !b else b))) s
 | _=>False
def pD (d:D) (A C:Prop):Prop:=
 match d with
 | .bool b=>(b=true→A)∧(b=false→C)
 | _=>False
theorem Sem.Rw {B:fp} {nt:Nat} {Q:Exit→Tm→St→Prop} {tm:Tm} {s:St} {x:X} {a b:AC} (h:pD (x.ev tm) (Sem P B nt a Q tm s) (Sem P B nt b Q tm s)):Sem P B nt (.cond x a b) Q tm s:=by
 unfold pD at h
 split at h
 ·rename_i t ht
  exact Sem.cond ht h.1 h.2
 ·exact h.elim
def eZ (P:Program) (K:Tm→St→Prop):List (AI×Nat)→List St→Tm→St→Prop
 | [],_,tm,s=>K tm s
 | (ai,b)::r,bc,tm,s=>
  match eY ai.kind with
  | true=>∃ d s',ou P ai tm s d s'∧eZ P K r (s::bc) (tm.put ai.dst d) s'
  | false=>∃ d,gx ai tm s=some d∧(ai.kind = .load→∀ s'∈bc.take b,gx ai tm s'=some d)∧eZ P K r bc (tm.put ai.dst d) s
def jS (is:List AI):List (Nat×Nat)→Option (List (AI×Nat))
 | []=>some []
 | (q,b)::r=>match is[q]?,jS is r with
  | some ai,some l=>some ((ai,b)::l)
  | _,_=>none
theorem x7 {is:List AI} {K:Tm→St→Prop} : ∀ {iX:List (Nat×Nat)} {items:List (AI×Nat)} {bc:List St} {tm:Tm} {s:St},jS is iX=some items→eZ P K items bc tm s→ig P is K iX bc tm s
 | [],items,bc,tm,s,h,g=>by cases h;exact g
 | (q,b)::r,items,bc,tm,s,h,g=>by
  simp only [jS]at h
  split at h
  ·rename_i ai l h1 h2
   cases h
   simp only [eZ]at g
   simp only [ig,h1]
   split at g
   ·rename_i hk
    obtain⟨d,s',g1,g2⟩:=g
    try simp only [hk]
    exact⟨d,s',g1,x7 h2 g2⟩
   ·rename_i hk
    obtain⟨d,g1,g2,g3⟩:=g
    try simp only [hk]
    exact⟨d,g1,g2,x7 h2 g3⟩
  ·cases h
theorem Sem.T1 {B:fp} {nt:Nat} {Q:Exit→Tm→St→Prop} {tm:Tm} {s:St} {is:List AI} {iX:List (Nat×Nat)} {items:List (AI×Nat)} (hi:jS is iX=some items) (h:eZ P (Q .normal) items [] tm s):Sem P B nt (.par is iX) Q tm s:=
 Sem.par (x7 hi h)
def AI.free:AI→AI
 | .op d _ o=> .op d none o
 | .call d _ f xs=> .call d none f xs
 | .nil d _ n x=> .nil d none n x
 | .fW d _ t xs=> .fW d none t xs
def GL (P:Program) (g:D) (want:Bool) (i:AI) (b:Nat) (r:List (AI×Nat)) (K:Tm→St→Prop) (bc:List St) (tm:Tm) (s:St):Prop:=
 match g with
 | .bool v=>(v=want→eZ P K ((i,b)::r) bc tm s)∧(v=(!want)→eZ P K r (if eY i.kind then s::bc else bc) (tm.put i.dst (.tuple [])) s)
 | .tuple _=>eZ P K r (if eY i.kind then s::bc else bc) (tm.put i.dst (.tuple [])) s
 | _=>False
def CL (P:Program) (f:Nat) (args:List D) (s:St) (K:D→St→Prop):Prop:=∃ d s',aG P f args s d s'∧K d s'
def KL (P:Program) (K:Tm→St→Prop) (r:List (AI×Nat)) (bc:List St) (tm:Tm) (dst:Option Nat) (d:D) (s:St):Prop:=eZ P K r bc (tm.put dst d) s
def kC (i:AI) (tm:Tm) (d:D):List St→Prop
 | []=>True
 | s::r=>gx i tm s=some d∧kC i tm d r
theorem w7 {i:AI} {tm:Tm} {d:D} : ∀ {l:List St},kC i tm d l→∀ s∈l,gx i tm s=some d
 | [],_,s,h=>by cases h
 | a::l,h,s,hs=>by
  rcases List.mem_cons.1 hs with rfl | hs
  ·exact h.1
  ·exact w7 h.2 s hs
def PL (P:Program) (o:AO) (dst:Option Nat) (b:Nat) (r:List (AI×Nat)) (K:Tm→St→Prop) (bc:List St) (tm:Tm) (s:St):Prop:=
 match aM o tm s with
 | some (d,_)=>kC (.op dst none o) tm d (bc.take b)∧eZ P K r bc (tm.put dst d) s
 | none=>False
def ML (P:Program) (o:AO) (dst:Option Nat) (r:List (AI×Nat)) (K:Tm→St→Prop) (bc:List St) (tm:Tm) (s:St):Prop:=
 match aM o tm s with
 | some (d,s')=>eZ P K r (s::bc) (tm.put dst d) s'
 | none=>False
def AO.core:AO→Bool
 | .alloc _=>true
 | .box _=>true
 | .pM .. =>true
 | .tG _=>true
 | .store .. =>true
 | .app .. =>true
 | .oC .. =>true
 | .tH .. =>true
 | .tJ .. =>true
 | .apps .. =>true
 | .qo=>true
 | .tL .. =>true
 | _=>false
theorem oM (dst:Option Nat) (g:Option (Nat×Bool)) (o:AO):eY (AI.op dst g o).kind=o.core:=by
 cases dst <;> cases g <;> cases o <;> rfl
def OL (P:Program) (o:AO) (dst:Option Nat) (b:Nat) (r:List (AI×Nat)) (K:Tm→St→Prop) (bc:List St) (tm:Tm) (s:St):Prop:=
 match o.core with
 | true=>ML P o dst r K bc tm s
 | false=>PL P o dst b r K bc tm s
theorem Bd {K:Tm→St→Prop} {dst:Option Nat} {o:AO} {b:Nat} {r:List (AI×Nat)} {bc:List St} {tm:Tm} {s:St} (h:OL P o dst b r K bc tm s) :
 eZ P K ((.op dst none o,b)::r) bc tm s:=by
 unfold OL at h
 simp only [eZ,oM]
 cases hc:o.core with
 | true=>
  simp only [hc,ML]at h
  simp only []
  split at h
  ·rename_i d s' he
   exact⟨d,s',by simpa [ou,guarded]using he,h⟩
  ·exact h.elim
 | false=>
  simp only [hc,PL]at h
  simp only []
  split at h
  ·rename_i d s' he
   exact⟨d,by simp [gx,he],fun _=>w7 h.1,h.2⟩
  ·exact h.elim
theorem D8 {K:Tm→St→Prop} {dst:Option Nat} {f:Nat} {xs:List X} {b:Nat} {r:List (AI×Nat)} {bc:List St} {tm:Tm} {s:St} (h:CL P f (xs.map (·.ev tm)) s (KL P K r (s::bc) tm dst)) :
 eZ P K ((.call dst none f xs,b)::r) bc tm s:=by
 obtain⟨d,s',h1,h2⟩:=h
 exact⟨d,s',h1,h2⟩
theorem OD {K:Tm→St→Prop} {i:AI} {t:Nat} {w:Bool} {b:Nat} {r:List (AI×Nat)} {bc:List St} {tm:Tm} {s:St} {j:AI} (hf:(∃ d o,i = .op d none o∧j = .op d (some (t,w)) o)∨(∃ d f xs,i = .call d none f xs∧j = .call d (some (t,w)) f xs))
 (hg:tm.get t = .bool w) (h:eZ P K ((i,b)::r) bc tm s):eZ P K ((j,b)::r) bc tm s:=by
 rcases hf with ⟨d,o,rfl,rfl⟩ | ⟨d,f,xs,rfl,rfl⟩
 ·simp only [eZ,oM]at h ⊢
  cases hc:o.core <;> simp only [hc]at h ⊢
  ·obtain⟨x,h1,h2,h3⟩:=h
   refine⟨x,by simpa [gx,hg]using h1,fun hk s' k9=> ?_,h3⟩
   have vD:(AI.op d none o).kind = .load:=by
    cases d <;> cases o <;> first | exact hk | (cases hc;done) | (cases hk;done)
   simpa [gx,hg]using h2 vD s' k9
  ·obtain⟨x,s',h1,h2⟩:=h
   exact⟨x,s',by simpa [ou,guarded,hg]using h1,h2⟩
 ·obtain⟨x,s',h1,h2⟩:=h
  exact⟨x,s',by simpa [ou,guarded,hg]using h1,h2⟩
theorem GC {K:Tm→St→Prop} {i:AI} {t:Nat} {w:Bool} {b:Nat} {r:List (AI×Nat)} {bc:List St} {tm:Tm} {s:St} {j:AI} (hf:(∃ d o,i = .op d none o∧j = .op d (some (t,w)) o)∨(∃ d f xs,i = .call d none f xs∧j = .call d (some (t,w)) f xs))
 (hg:tm.get t = .bool (!w)∨∃ l,tm.get t = .tuple l) (h:eZ P K r (if eY i.kind then s::bc else bc) (tm.put i.dst (.tuple [])) s):eZ P K ((j,b)::r) bc tm s:=by
 rcases hf with ⟨d,o,rfl,rfl⟩ | ⟨d,f,xs,rfl,rfl⟩
 ·simp only [eZ,oM]at h ⊢
  cases hc:o.core <;> simp only [hc]at h ⊢
  ·refine⟨.tuple [], ?_,fun hk s' k9=> ?_,h⟩
   ·rcases hg with hg | ⟨l,hg⟩ <;> simp [gx,hg]
   ·rcases hg with hg | ⟨l,hg⟩ <;> simp [gx,hg]
  ·refine⟨.tuple [],s, ?_,h⟩
   rcases hg with hg | ⟨l,hg⟩ <;> simp [ou,guarded,hg]
 ·refine⟨.tuple [],s, ?_,h⟩
  rcases hg with hg | ⟨l,hg⟩ <;> simp [ou,guarded,hg]
theorem C6 {K:Tm→St→Prop} {i j:AI} {t:Nat} {w:Bool} {b:Nat} {r:List (AI×Nat)} {bc:List St} {tm:Tm} {s:St} (hf:(∃ d o,i = .op d none o∧j = .op d (some (t,w)) o)∨(∃ d f xs,i = .call d none f xs∧j = .call d (some (t,w)) f xs))
 (h:GL P (tm.get t) w i b r K bc tm s):eZ P K ((j,b)::r) bc tm s:=by
 unfold GL at h
 split at h
 ·rename_i v hv
  by_cases e:v=w
  ·exact OD hf (by rw [hv,e]) (h.1 e)
  ·exact GC hf (.inl (by rw [hv];cases v <;> cases w <;> simp_all)) (h.2 (by cases v <;> cases w <;> simp_all))
 ·rename_i l hl
  exact GC hf (.inr ⟨l,hl⟩) h
 ·exact h.elim
theorem yZ {K:Tm→St→Prop} {dst:Option Nat} {o:AO} {t:Nat} {w:Bool} {b:Nat} {r:List (AI×Nat)} {bc:List St} {tm:Tm} {s:St} (h:GL P (tm.get t) w (.op dst none o) b r K bc tm s) :
 eZ P K ((.op dst (some (t,w)) o,b)::r) bc tm s:=C6 (.inl ⟨dst,o,rfl,rfl⟩) h
theorem Ch {K:Tm→St→Prop} {dst:Option Nat} {f:Nat} {xs:List X} {t:Nat} {w:Bool} {b:Nat} {r:List (AI×Nat)} {bc:List St} {tm:Tm} {s:St} (h:GL P (tm.get t) w (.call dst none f xs) b r K bc tm s) :
 eZ P K ((.call dst (some (t,w)) f xs,b)::r) bc tm s:=C6 (.inr ⟨dst,f,xs,rfl,rfl⟩) h
theorem CU {f:Nat} {args:List D} {s:St} {d:D} {s':St} {K:D→St→Prop} (h:aG P f args s d s') (hk:K d s'):CL P f args s K:=⟨d,s',h,hk⟩
end
end Go.Abs

/-! Wp -/

namespace Go.Abs
theorem nd {α:Type} {a b:α} (h:a=b):a=b:=h
def GJ (g:D) (w:Bool) (A C:Prop):Prop:=
 match g with
 | .bool b=>(b=w→A)∧(b=(!w)→C)
 | .tuple _=>C
 | _=>False
class Tc where
 a:Prop
 c:Prop
def CB (d:D) [b:Tc] : Prop:=pD d b.a b.c
def GB (d:D) (w:Bool) [b:Tc] : Prop:=GJ d w b.a b.c
def jT (g:Option (Nat×Bool)) (tm:Tm) (A C:Prop):Prop:=
 match g with
 | none=>A
 | some (t,w)=>GJ (tm.get t) w A C
def gN (P:Program):List AI→(Tm→St→Prop)→Tm→St→Prop
 | [],K,tm,s=>K tm s
 | .op dst g o::r,K,tm,s=>jT g tm (match aM o tm s with | some (d,s')=>gN P r K (tm.put dst d) s' | none=>False) (gN P r K (tm.put dst (.tuple [])) s)
 | .call dst g f xs::r,K,tm,s=>jT g tm (CL P f (xs.map (·.ev tm)) s fun d s'=>gN P r K (tm.put dst d) s') (gN P r K (tm.put dst (.tuple [])) s)
 | .nil dst g neg x::r,K,tm,s=>
  jT g tm (match x.ev tm with
   | .slice _ _ rows=>∀ b:Bool,(rows≠ []→b=false)→gN P r K (tm.put dst (.bool (if neg then !b else b))) s
   | _=>False) (gN P r K (tm.put dst (.tuple [])) s)
 | .fW dst g t xs::r,K,tm,s=>
  jT g tm (match tm.get t with
   | .fa f kg=>enters P f=true∧CL P f (xs.map (·.ev tm)++kg) s fun d s'=>gN P r K (tm.put dst d) s'
   | _=>False) (gN P r K (tm.put dst (.tuple [])) s)
theorem oz {g:Option (Nat×Bool)} {tm:Tm} {A C A' C':Prop} (h:jT g tm A C) (ha:A→A') (hc:C→C'):guarded g tm A' C':=by
 unfold jT at h
 unfold guarded
 cases g with
 | none=>exact ha h
 | some p=>
  obtain⟨t,w⟩:=p
  simp only [GJ]at h ⊢
  split at h
  ·rename_i hb;try simp only [hb]
   exact⟨fun e=>ha (h.1 e),fun e=>hc (h.2 e)⟩
  ·rename_i hb;try simp only [hb]
   exact hc h
  ·exact h.elim
theorem kH {P:Program} {K:Tm→St→Prop} : ∀ {is:List AI} {tm:Tm} {s:St},gN P is K tm s→fO P is K tm s
 | [],tm,s,h=>h
 | .op dst g o::r,tm,s,h=>by
  refine oz h (fun h=> ?_) kH
  split at h
  ·rename_i he;try simp only [he]
   exact kH h
  ·exact h.elim
 | .call dst g f xs::r,tm,s,h=>oz h (fun⟨d,s',h1,h2⟩=>h1.use (kH h2)) kH
 | .nil dst g neg x::r,tm,s,h=>by
  refine oz h (fun h=> ?_) kH
  split at h
  ·rename_i he;try simp only [he]
   exact fun b hb=>kH (h b hb)
  ·exact h.elim
 | .fW dst g t xs::r,tm,s,h=>by
  refine oz h (fun h=> ?_) kH
  split at h
  ·rename_i he;try simp only [he]
   obtain⟨h0,d,s',h1,h2⟩:=h
   exact⟨h0,h1.use (kH h2)⟩
  ·exact h.elim
def eB (P:Program) (K:Tm→St→Prop):List (AI×Nat)→List St→Tm→St→Prop
 | [],_,tm,s=>K tm s
 | (.op dst g o,b)::r,bc,tm,s=>
  match o.core with
  | true=>jT g tm (match aM o tm s with | some (d,s')=>eB P K r (s::bc) (tm.put dst d) s' | none=>False) (eB P K r (s::bc) (tm.put dst (.tuple [])) s)
  | false=>jT g tm (match aM o tm s with | some (d,_)=>kC (.op dst none o) tm d (bc.take b)∧eB P K r bc (tm.put dst d) s | none=>False) (eB P K r bc (tm.put dst (.tuple [])) s)
 | (.call dst g f xs,_)::r,bc,tm,s=>jT g tm (CL P f (xs.map (·.ev tm)) s fun d s'=>eB P K r (s::bc) (tm.put dst d) s') (eB P K r (s::bc) (tm.put dst (.tuple [])) s)
 | (.nil ..,_)::_,_,_,_=>False
 | (.fW ..,_)::_,_,_,_=>False
theorem uu {P:Program} {t:Nat} {w:Bool} {tm:Tm} {i:AI} {b:Nat} {r:List (AI×Nat)} {K:Tm→St→Prop} {bc:List St} {s:St} {A C:Prop} (h:jT (some (t,w)) tm A C) (ha:A→eZ P K ((i,b)::r) bc tm s)
 (hc:C→eZ P K r (if eY i.kind then s::bc else bc) (tm.put i.dst (.tuple [])) s):GL P (tm.get t) w i b r K bc tm s:=by
 simp only [jT,GJ]at h
 unfold GL
 split at h
 ·rename_i hb;try simp only [hb]
  exact⟨fun e=>ha (h.1 e),fun e=>hc (h.2 e)⟩
 ·rename_i hb;try simp only [hb]
  exact hc h
 ·exact h.elim
theorem jw {P:Program} {K:Tm→St→Prop} : ∀ {l:List (AI×Nat)} {bc:List St} {tm:Tm} {s:St},eB P K l bc tm s→eZ P K l bc tm s
 | [],bc,tm,s,h=>h
 | (.op dst g o,b)::r,bc,tm,s,h=>by
  simp only [eB]at h
  cases hc:o.core with
  | true=>
   simp only [hc]at h
   have ha:(match aM o tm s with | some (d,s')=>eB P K r (s::bc) (tm.put dst d) s' | none=>False)→eZ P K ((.op dst none o,b)::r) bc tm s:=by
    intro h
    refine Bd ?_
    simp only [OL,hc,ML]
    split at h
    ·rename_i he;try simp only [he]
     exact jw h
    ·exact h.elim
   cases g with
   | none=>exact ha h
   | some p=>
    obtain⟨t,w⟩:=p
    refine yZ (uu h ha fun h=> ?_)
    simp only [oM,hc,if_true]
    exact jw h
  | false=>
   simp only [hc]at h
   have ha:(match aM o tm s with | some (d,_)=>kC (.op dst none o) tm d (bc.take b)∧eB P K r bc (tm.put dst d) s | none=>False)→eZ P K ((.op dst none o,b)::r) bc tm s:=by
    intro h
    refine Bd ?_
    simp only [OL,hc,PL]
    split at h
    ·rename_i he;try simp only [he]
     exact⟨h.1,jw h.2⟩
    ·exact h.elim
   cases g with
   | none=>exact ha h
   | some p=>
    obtain⟨t,w⟩:=p
    refine yZ (uu h ha fun h=> ?_)
    simp only [oM,hc]
    exact jw h
 | (.call dst g f xs,b)::r,bc,tm,s,h=>by
  simp only [eB]at h
  have ha:(CL P f (xs.map (·.ev tm)) s fun d s'=>eB P K r (s::bc) (tm.put dst d) s')→eZ P K ((.call dst none f xs,b)::r) bc tm s:=
   fun⟨d,s',h1,h2⟩=>D8 ⟨d,s',h1,jw h2⟩
  cases g with
  | none=>exact ha h
  | some p=>
   obtain⟨t,w⟩:=p
   exact Ch (uu h ha fun h=>jw h)
 | (.nil ..,_)::_,bc,tm,s,h=>h.elim
 | (.fW ..,_)::_,bc,tm,s,h=>h.elim
section
variable {P:Program} {B:fp} {nt:Nat}
def iK (P:Program) (B:fp) (nt:Nat):AC→(Exit→Tm→St→Prop)→Tm→St→Prop
 | .skip,Q,tm,s=>Q .normal tm s
 | .run is,Q,tm,s=>gN P is (Q .normal) tm s
 | .par is iX,Q,tm,s=>match jS is iX with | some l=>eB P (Q .normal) l [] tm s | none=>False
 | .seq a b,Q,tm,s=>iK P B nt a (mY (iK P B nt b Q) Q) tm s
 | .cond x a b,Q,tm,s=>pD (x.ev tm) (iK P B nt a Q tm s) (iK P B nt b Q tm s)
 | .block id a,Q,tm,s=>iK P B nt a (ld id Q) tm s
 | .loop a,Q,tm,s=>bk P B nt a Q tm s
 | .exit id,Q,tm,s=>Q (.exit id) tm s
 | .scope a,Q,tm,s=>DP P B nt a a Q tm s
 | .label _,Q,tm,s=>Q .normal tm s
 | .goto l,Q,tm,s=>Q (.goto l) tm s
 | .ret,Q,tm,s=>Q .ret tm s
theorem gO : ∀ {ac:AC} {Q:Exit→Tm→St→Prop} {tm:Tm} {s:St},iK P B nt ac Q tm s→Sem P B nt ac Q tm s:=by
 intro ac
 induction ac with
 | skip=>exact fun h=>Sem.skip h
 | run is=>exact fun h=>Sem.run (kH h)
 | par is iX=>
  intro Q tm s h
  simp only [iK]at h
  split at h
  ·exact Sem.T1 ‹_› (jw h)
  ·exact h.elim
 | seq a b OF OG=>
  intro Q tm s h
  refine Sem.seq ((OF h).mono fun e tm s hq=> ?_)
  cases e with
  | normal=>exact OG hq
  | _=>exact hq
 | cond x a b OF OG=>
  intro Q tm s h
  refine Sem.Rw ?_
  simp only [iK]at h
  unfold pD at h ⊢
  split at h
  ·exact⟨fun e=>OF (h.1 e),fun e=>OG (h.2 e)⟩
  ·exact h.elim
 | block id a ih=>exact fun h=>Sem.block (ih h)
 | loop a ih=>exact fun h=>Sem.loop h
 | exit id=>exact fun h=>Sem.exit h
 | scope a ih=>exact fun h=>Sem.scope h
 | label l=>exact fun h=>Sem.label h
 | goto l=>exact fun h=>Sem.goto h
 | ret=>exact fun h=>Sem.ret h
section
variable (Q:Exit→Tm→St→Prop) (N:Tm→St→Prop) (tm:Tm) (s:St) (a b:AC) (is:List AI) (x:X)
theorem I1:iK P B nt .skip Q tm s=Q .normal tm s:=nd rfl
theorem MB:iK P B nt (.run is) Q tm s=gN P is (Q .normal) tm s:=nd rfl
theorem MC (iX:List (Nat×Nat)):iK P B nt (.par is iX) Q tm s=match jS is iX with | some l=>eB P (Q .normal) l [] tm s | none=>False:=nd rfl
theorem MD:iK P B nt (.seq a b) Q tm s=iK P B nt a (mY (iK P B nt b Q) Q) tm s:=nd rfl
theorem I2:iK P B nt (.cond x a b) Q tm s = @CB (x.ev tm) ⟨iK P B nt a Q tm s,iK P B nt b Q tm s⟩:=nd rfl
theorem GD (id:Nat):iK P B nt (.block id a) Q tm s=iK P B nt a (ld id Q) tm s:=nd rfl
theorem I3:iK P B nt (.loop a) Q tm s=bk P B nt a Q tm s:=nd rfl
theorem GF:iK P B nt (.scope a) Q tm s=DP P B nt a a Q tm s:=nd rfl
theorem I4 (id:Nat):iK P B nt (.exit id) Q tm s=Q (.exit id) tm s:=nd rfl
theorem GG (id:Nat):iK P B nt (.label id) Q tm s=Q .normal tm s:=nd rfl
theorem I5 (id:Nat):iK P B nt (.goto id) Q tm s=Q (.goto id) tm s:=nd rfl
theorem ME:iK P B nt .ret Q tm s=Q .ret tm s:=nd rfl
theorem MF:mY N Q .normal tm s=N tm s:=nd rfl
theorem MG:mY N Q .ret tm s=Q .ret tm s:=nd rfl
theorem MH (id:Nat):mY N Q (.exit id) tm s=Q (.exit id) tm s:=nd rfl
theorem MI (id:Nat):mY N Q (.goto id) tm s=Q (.goto id) tm s:=nd rfl
theorem I6 (id:Nat):ld id Q .normal tm s=Q .normal tm s:=nd rfl
theorem I7 (id:Nat):ld id Q .ret tm s=Q .ret tm s:=nd rfl
theorem I8 (id l:Nat):ld id Q (.goto l) tm s=Q (.goto l) tm s:=nd rfl
theorem I9 (id i:Nat):ld id Q (.exit i) tm s=if i=id then Q .normal tm s else Q (.exit i) tm s:=nd rfl
end
theorem bk.sF {a:AC} {Q:Exit→Tm→St→Prop} {tm:Tm} {s:St} (h:iK P B nt a (mY (bk P B nt a Q) Q) tm s):bk P B nt a Q tm s:=bk.once (gO h)
def qE (tm:Tm) (n m:Nat):Tm→Prop
 | []=>True
 | (k,d)::r=>Wk ((tm.get k).fg n m) d∧qE tm n m r
theorem qE.get {tm:Tm} {n m:Nat} : ∀ {bp:Tm},qE tm n m bp→∀ t,Wk ((tm.get t).fg n m) (bp.get t)
 | [],_,t=>Wk.junk _
 | (k,d)::r,h,t=>by
  simp only [Tm.get]
  split
  ·rename_i hk;subst hk;exact h.1
  ·exact qE.get h.2 t
theorem Holds.re {Q:Exit→Tm→St→Prop} {tm bp:Tm} {s:St} {jL:List (List D)} {act:Act} {w:World} (n m:Nat) (hn:B.s.au.length≤n) (hm:B.s.av.length≤m) (ht:qE tm n m bp) (ho:fT (s.cut n m).au jL)
 (h:Holds B nt tm s act w):Holds B nt bp ⟨jL,(s.cut n m).av⟩ act w:=by
 obtain⟨M,e,r,hr,h1,h2⟩:=h
 obtain⟨r',le⟩:=(r.cut n m).uk ho
 have e':=e.cut hn hm
 refine⟨M,e'.trans ⟨le,fun _ _ _ _=>rfl,fun o h1 h2=> ?_,fun t b c z hl e=> .inl ⟨hl,c,z,e⟩,fun _ _ h=>(h rfl).elim,Nat.le_refl _,rfl,rfl,rfl⟩,r',fun k=>((ht.get k) _ _ _ ((hr k).fg n m)).mono le,h1,h2⟩
 rw [← ho.len]at h2
 exact absurd h2 (Nat.not_lt.2 h1)
theorem bk.re {a:AC} {Q:Exit→Tm→St→Prop} {tm:Tm} {s:St} (bp:Tm) (jL:List (List D)) (n m:Nat) (hn:B.s.au.length≤n) (hm:B.s.av.length≤m) (ht:qE tm n m bp) (ho:fT (s.cut n m).au jL)
 (h:bk P B nt a Q bp ⟨jL,(s.cut n m).av⟩):bk P B nt a Q tm s:=
 fun c hc act w hh=>h c hc act w (hh.re (Q:=Q) n m hn hm ht ho)
theorem bk.ind {ι:Type} {a:AC} {Q:Exit→Tm→St→Prop} (I:ι→Prop) (μ:ι→Nat) (TM:ι→Tm) (ST:ι→St)
 (step : ∀ i,I i→(∀ j,I j→μ j<μ i→bk P B nt a Q (TM j) (ST j))→iK P B nt a (mY (bk P B nt a Q) Q) (TM i) (ST i)) : ∀ i,I i→bk P B nt a Q (TM i) (ST i):=by
 have key : ∀ n i,μ i<n→I i→bk P B nt a Q (TM i) (ST i):=by
  intro n
  induction n with
  | zero=>intro i h;exact absurd h (Nat.not_lt_zero _)
  | succ n ih=>exact fun i h hi=>bk.sF (step i hi fun j hj hD=>ih j (by omega) hj)
 exact fun i hi=>key (μ i+1) i (Nat.lt_succ_self _) hi
theorem drop_cons {α:Type} {l rest:List α} {k:Nat} {x:α} (h:l.drop k=x::rest):l[k]? = some x∧l.drop (k+1)=rest∧decide ((k:Int)<(l.length:Int))=true∧k<l.length:=by
 have h1:l[k]? = some x:=by
  have:(l.drop k)[0]? = some x:=by rw [h];rfl
  simpa using this
 have h2:=(List.getElem?_eq_some_iff.1 h1).1
 refine⟨h1, ?_,by simpa using h2,h2⟩
 have:l.drop (k+1)=(l.drop k).drop 1:=by rw [List.drop_drop]
 rw [this,h];rfl
theorem drop_nil {α:Type} {l:List α} {k:Nat} (h:l.drop k = []):decide ((k:Int)<(l.length:Int))=false:=by
 have:=List.drop_eq_nil_iff.1 h
 simp;omega
theorem bk.ng {a:AC} {Q:Exit→Tm→St→Prop} {tm:Tm} {s:St} (t z':Nat) {z:Nat} (hw:tm.get t = .slice .full z [])
 (h:bk P B nt a Q (tm.set t (.slice (.tok s.av.length) z' [])) {s with av:=s.av++ [some 0]}):bk P B nt a Q tm s:=by
 intro c hc act w ⟨M,e,r,ht,h1,h2⟩
 obtain⟨r',le⟩:=r.blank
 refine h c hc act w ⟨_,yU e le,r',fun k=> ?_,h1,h2⟩
 rw [Tm.xW]
 split
 ·rename_i hk;subst hk;have:=ht k;rw [hw]at this;exact this.own
 ·exact(ht k).mono le
theorem bk.x8 {a:AC} {Q:Exit→Tm→St→Prop} {tm:Tm} {s:St} (o i z':Nat) {z:Nat} {cs:List D} (hc:s.au[o]? = some cs) (hi:cs[i]? = some (.slice .full z []))
 (h:bk P B nt a Q tm ⟨s.au.set o (cs.set i (.slice (.tok s.av.length) z' [])),s.av++ [some 0]⟩):bk P B nt a Q tm s:=by
 intro c N9 act w hh
 obtain⟨M,e,r,ht,h1,h2⟩:=hh
 obtain⟨r',le⟩:=r.blank
 have Td:Le M s (M.dn s.av.length none) ⟨s.au.set o (cs.set i (.slice (.tok s.av.length) z' [])),s.av++ [some 0]⟩:=⟨le.G,by simp,le.loc,le.t,le.tk⟩
 have OH:Le (M.dn s.av.length none) {s with av:=s.av++ [some 0]} (M.dn s.av.length none) ⟨s.au.set o (cs.set i (.slice (.tok s.av.length) z' [])),s.av++ [some 0]⟩:=
  ⟨fun _ _ _ h=>h,by simp,fun _ _=>rfl,Nat.le_refl _,fun t n' _ e=>⟨n',e,Nat.le_refl _,fun _=>rfl⟩⟩
 have r2:Rel (M.dn s.av.length none) ⟨s.au.set o (cs.set i (.slice (.tok s.av.length) z' [])),s.av++ [some 0]⟩ w:=by
  refine⟨r'.comm,fun o' ds e=> ?_,fun o ho=>r'.iG o (by simpa using ho),fun o o' ho ke=>r'.inj o o' (by simpa using ho) (by simpa using ke),r'.tok,
   fun t b c z o hv e ho=>r'.dT t b c z o hv e (by simpa using ho),r'.eK⟩
  simp only [List.getElem?_set]at e
  split at e
  ·rename_i ho
   subst ho
   split at e
   ·cases e
    obtain⟨vs,T,g1,g2,g3,g4⟩:=r.obj o cs hc
    refine⟨vs,T,g1,by simpa using g2,g3,fun j d v e1 e2=> ?_⟩
    rw [List.getElem?_set]at e1
    split at e1
    ·rename_i hj
     subst hj
     split at e1
     ·cases e1
      exact((g4 i _ v hi e2).own (z':=z')).mono OH
     ·cases e1
    ·exact(g4 j d v e1 e2).mono Td
   ·cases e
  ·obtain⟨vs,T,g1,g2,g3,g4⟩:=r'.obj o' ds e
   exact⟨vs,T,g1,g2,g3,fun i d v e1 e2=>(g4 i d v e1 e2).mono OH⟩
 have ee:Ext B.M B.s B.w (M.dn s.av.length none) ⟨s.au.set o (cs.set i (.slice (.tok s.av.length) z' [])),s.av++ [some 0]⟩ w:=by
  refine(yU e le).trans ⟨OH,fun _ _ _ _=>rfl,fun o h1 h2=> ?_,fun t b c z hl e=> .inl ⟨hl,c,z,e⟩,fun _ _ h=>(h rfl).elim,Nat.le_refl _,rfl,rfl,rfl⟩
  simp at h2
  exact absurd h2 (Nat.not_lt.2 h1)
 exact h c N9 act w ⟨_,ee,r2,fun k=>(ht k).mono Td,h1,h2⟩
theorem Sem.o5 {a b:AC} {Q:Exit→Tm→St→Prop} {tm:Tm} {s:St} (h:iK P B nt a (mY (Sem P B nt b Q) Q) tm s):Sem P B nt (.seq a b) Q tm s:=Sem.seq (gO h)
theorem Sem.re {a:AC} {Q:Exit→Tm→St→Prop} {tm:Tm} {s:St} (bp:Tm) (jL:List (List D)) (n m:Nat) (hn:B.s.au.length≤n) (hm:B.s.av.length≤m) (ht:qE tm n m bp) (ho:fT (s.cut n m).au jL)
 (h:Sem P B nt a Q bp ⟨jL,(s.cut n m).av⟩):Sem P B nt a Q tm s:=
 fun c hc act w hh=>h c hc act w (hh.re (Q:=Q) n m hn hm ht ho)
def Has (P:Program) (f nt:Nat) (res:List (Nat×Option (Bool×Nat))) (body:AC):Prop:=∃ fn,P.funcs[f]? = some fn∧cF P fn=some ⟨nt,res,body⟩
theorem aG.go {f:FuncId} {res:List (Nat×Option (Bool×Nat))} {body:AC} {args:List D} {s:St} {d:D} {s':St} (h0:Has P f nt res body) (hl:Nat.ble args.length nt=true)
 (h : ∀ (B:fp) (Q:Exit→Tm→St→Prop),B.s=s→n7 s.au.length s.av.length res d s'=Q→iK P B nt body Q (kU 0 args) s):aG P f args s d s':=by
 obtain⟨fn,hf,hc⟩:=h0
 exact aG.intro ⟨fn,hf,hc⟩ (Nat.le_of_ble_eq_true hl) fun B hB=>gO (h B _ hB rfl)
theorem aG.Ea {f:FuncId} {pre post:List D} {rows oo:List (List D)} {z z' k k':Nat} (h:aG P f (pre++ .slice (.tok 0) z rows::post) ⟨[],[some k]⟩ (.slice (.tok 0) z' oo) ⟨[],[some k']⟩)
 (hp:D.bG 0 0 pre=true) (ha:D.bG 0 0 post=true) (hw:D.hY 0 0 rows=true) (Xf:D.hY 0 0 oo=true)
 {s:St} {t:Nat} (ht:s.av[t]? = some (some k)):aG P f (pre++ .slice (.tok t) z rows::post) s (.slice (.tok t) z' oo) ⟨s.au,s.av.set t (some k')⟩:=by
 refine dh.frame [] [t] h (by simp) (by simp) (by simp) (by simpa using (List.getElem?_eq_some_iff.1 ht).1) rfl (fun i o' ds e1 e2=>by simp at e1) rfl (fun i t' e1=> ?_)
  ?_ ?_ ?_
 ·cases i with
  | zero=>simp at e1;subst e1;simp [ht]
  | succ i=>simp at e1
 ·have h1:=fi [] [t] _ hp
  have h2:=fi [] [t] _ ha
  rw [eA]at h1 h2
  simp [eA,D.db,Tag.db,h1,h2,kf _ _ _ hw]
 ·have h1:=gT (n':=0) (m':=1) (Nat.le_refl 0) (Nat.zero_le 1) _ hp
  have h2:=gT (n':=0) (m':=1) (Nat.le_refl 0) (Nat.zero_le 1) _ ha
  rw [A2]at h1 h2 ⊢
  simp only [List.length_nil,List.length_cons,List.all_append,h1,Bool.true_and,List.all_cons,h2,Bool.and_true,D.ok,Tag.ok,mB (Nat.zero_le 0) (Nat.zero_le 1) _ hw]
  rfl
 ·rintro _ _ ⟨rfl,rfl⟩
  refine⟨by simp [D.back,D.db,Tag.db,iZ,kf _ _ _ Xf], ?_⟩
  simp [St.back,iJ]
theorem T4 (A C:Prop) : @CB (.bool true) ⟨A,C⟩=A:=by simp [CB,pD]
theorem T5 (A C:Prop) : @CB (.bool false) ⟨A,C⟩=C:=by simp [CB,pD]
theorem OI (b:Bool) (A C:Prop) : @CB (.bool (!b)) ⟨A,C⟩ = @CB (.bool b) ⟨C,A⟩:=by
 cases b <;> simp [CB,pD]
theorem Be {b:Bool} {A C:Prop} (h1:b=true→A) (h2:b=false→C) : @CB (.bool b) ⟨A,C⟩:=⟨h1,h2⟩
theorem OM {b:Bool} {A C:Prop} (h:b=true) (h1:b=true→A) : @CB (.bool b) ⟨A,C⟩:=Be h1 (fun h'=>by rw [h]at h';cases h')
theorem ON {b:Bool} {A C:Prop} (h:b=false) (h1:b=false→C) : @CB (.bool b) ⟨A,C⟩:=Be (fun h'=>by rw [h]at h';cases h') h1
theorem Rz {n m:Nat} {res:List (Nat×Option (Bool×Nat))} {d:D} {s':St} {tm:Tm} {s:St} {Q:Exit→Tm→St→Prop} (hQ:n7 n m res d s'=Q)
 (h : ∃ l,aw res tm s=some l∧Wk ((ay l).fg n m) d∧fT (s.cut n m).au s'.au∧(s.cut n m).av=s'.av):Q .ret tm s:=hQ ▸ h
theorem RA {n m:Nat} {res:List (Nat×Option (Bool×Nat))} {d:D} {s':St} {tm:Tm} {s:St} {Q:Exit→Tm→St→Prop} (hQ:n7 n m res d s'=Q)
 (h : ∃ l,aw res tm s=some l∧Wk ((ay l).fg n m) d∧fT (s.cut n m).au s'.au∧(s.cut n m).av=s'.av):Q .normal tm s:=hQ ▸ h
end
attribute [go_sem] I1 MB MC MD I2 GD I3 GF I4 GG I5 ME MF MG MH MI I6 I7 I8 I9
theorem GH : ∀ (tm:Tm) (s:St) (x:X),aM (AO.mv x) tm s=some (X.ev tm x,s):=
 fun tm s x=>nd (aM.eq_1 tm s x)
theorem GK : ∀ (tm:Tm) (s:St) (c a b:X),
 aM (AO.pick c a b) tm s =
  match X.ev tm c with
  | D.bool t=>some (if t=true then X.ev tm a else X.ev tm b,s)
  | x=>none:=
 fun tm s c a b=>nd (aM.eq_2 tm s c a b)
theorem GM : ∀ (tm:Tm) (s:St) (zero:List D),
 aM (AO.alloc zero) tm s=some (D.ptr s.au.length 0,{au:=s.au++ [zero],av:=s.av}):=
 fun tm s zero=>nd (aM.eq_3 tm s zero)
theorem GN : ∀ (tm:Tm) (s:St) (x:X),
 aM (AO.box x) tm s =
  match (X.ev tm x).row with
  | some r=>some (D.ptr s.au.length 0,{au:=s.au++ [r],av:=s.av})
  | none=>none:=
 fun tm s x=>nd (aM.eq_4 tm s x)
theorem GO : ∀ (tm:Tm) (s:St) (zero:List D) (parts:List (Nat×Nat×X)),
 aM (AO.build zero parts) tm s =
  match mU zero (List.map (fun(p:Nat×Nat×X)=>(p.fst,p.snd.fst,X.ev tm p.snd.snd)) parts)with
  | some cs=>some (D.agg cs,s)
  | none=>none:=
 fun tm s zero parts=>nd (aM.eq_5 tm s zero parts)
theorem GQ : ∀ (tm:Tm) (s:St) (zero:List D) (size n:Nat) (parts:List (Nat×X)),
 aM (AO.cE zero size n parts) tm s =
  match gB size (fP zero n) (List.map (fun(p:Nat×X)=>(p.fst,X.ev tm p.snd)) parts)with
  | some rows=>some (D.slice Tag.full size rows,s)
  | none=>none:=
 fun tm s zero size n parts=>nd (aM.eq_6 tm s zero size n parts)
theorem GR : ∀ (tm:Tm) (s:St) (zero:List D) (size n:Nat) (parts:List (Nat×X)),
 aM (AO.pM zero size n parts) tm s =
  match gB size (fP zero n) (List.map (fun(p:Nat×X)=>(p.fst,X.ev tm p.snd)) parts)with
  | some rows=>
   some (D.slice (Tag.tok s.av.length) size rows,{au:=s.au,av:=s.av++ [some rows.length]})
  | none=>none:=
 fun tm s zero size n parts=>nd (aM.eq_7 tm s zero size n parts)
theorem GU : ∀ (tm:Tm) (s:St) (x:X),
 aM (AO.tG x) tm s =
  match X.ev tm x with
  | D.slice (Tag.tok t _) z rows=>
   if rows≠ []∧s.av[t]? = some (some rows.length)then
    some (D.slice Tag.shared z rows,{au:=s.au,av:=s.av.set t none})
   else none
  | x=>none:=
 fun tm s x=>nd (aM.eq_8 tm s x)
theorem GV : ∀ (tm:Tm) (s:St) (x:X) (agg:Bool) (size:Nat),
 aM (AO.load x agg size) tm s =
  match X.ev tm x with
  | D.ptr o off=>
   match s.au[o]? with
   | some cs=>
    match part cs off agg size with
    | some d=>some (d,s)
    | none=>none
   | none=>none
  | D.dd row off=>
   match part row off agg size with
   | some d=>some (d,s)
   | none=>none
  | x=>none:=
 fun tm s x agg size=>nd (aM.eq_9 tm s x agg size)
theorem Eb : ∀ (tm:Tm) (s:St) (p x:X) (size:Nat),
 aM (AO.store p x size) tm s =
  match X.ev tm p,(X.ev tm x).row with
  | D.ptr o off,some r=>
   match s.au[o]? with
   | some cs=>
    if r.length=size∧off+size≤cs.length then
     some (D.tuple [],{au:=s.au.set o (gw cs off r),av:=s.av})
    else none
   | none=>none
  | x,dQ=>none:=
 fun tm s p x size=>nd (aM.eq_10 tm s p x size)
theorem Ec : ∀ (tm:Tm) (s:St) (x:X),
 aM (AO.gu x) tm s =
  match X.ev tm x with
  | D.ptr o off=>some (D.ptr o off,s)
  | D.dd row off=>some (D.dd row off,s)
  | x=>none:=
 fun tm s x=>nd (aM.eq_11 tm s x)
theorem Ed : ∀ (tm:Tm) (s:St) (op:BinOp) (x y:X),
 aM (AO.bin op x y) tm s =
  match q5 op (X.ev tm x) (X.ev tm y)with
  | some d=>some (d,s)
  | none=>none:=
 fun tm s op x y=>nd (aM.eq_12 tm s op x y)
theorem Ee : ∀ (tm:Tm) (s:St) (neg:Bool) (x y:X),
 aM (AO.yH neg x y) tm s =
  match X.ev tm x,X.ev tm y with
  | D.bool a,D.bool b=>some (D.bool (if neg=true then !a==b else a==b),s)
  | x,dQ=>none:=
 fun tm s neg x y=>nd (aM.eq_13 tm s neg x y)
theorem Ef : ∀ (tm:Tm) (s:St) (neg:Bool) (ks:List Nat) (x y:X),
 aM (AO.eqs neg ks x y) tm s =
  match X.ev tm x,X.ev tm y with
  | D.agg a,D.agg b=>
   match iB ks a b with
   | some e=>some (D.bool (if neg=true then !e else e),s)
   | none=>none
  | x,dQ=>none:=
 fun tm s neg ks x y=>nd (aM.eq_14 tm s neg ks x y)
theorem Eg : ∀ (tm:Tm) (s:St) (neg:Bool) (x y:X),
 aM (AO.Ay neg x y) tm s =
  match X.ev tm x,X.ev tm y with
  | D.dY,D.dY=>some (D.bool !neg,s)
  | D.ptr o off,D.dY=>some (D.bool neg,s)
  | D.dd row off,D.dY=>some (D.bool neg,s)
  | x,dQ=>none:=
 fun tm s neg x y=>nd (aM.eq_15 tm s neg x y)
theorem Eh : ∀ (tm:Tm) (s:St) (op:UnOp) (x:X),
 aM (AO.un op x) tm s =
  match AH op (X.ev tm x)with
  | some d=>some (d,s)
  | none=>none:=
 fun tm s op x=>nd (aM.eq_16 tm s op x)
theorem Ei : ∀ (tm:Tm) (s:St) (k:IntKind) (x:X),
 aM (AO.conv k x) tm s =
  match X.ev tm x with
  | D.int k_1 n=>some (D.int k (k.wrap n),s)
  | x=>none:=
 fun tm s k x=>nd (aM.eq_17 tm s k x)
theorem Ej : ∀ (tm:Tm) (s:St) (x:X),
 aM (AO.wD x) tm s =
  match X.ev tm x with
  | D.slice g size rows=>
   match kG rows with
   | some b=>some (D.str b,s)
   | none=>none
  | x=>none:=
 fun tm s x=>nd (aM.eq_18 tm s x)
theorem Ek : ∀ (tm:Tm) (s:St) (x:X),
 aM (AO.rJ x) tm s =
  match X.ev tm x with
  | D.str l=>some (D.slice Tag.shared 1 (List.map (fun(c:UInt8)=> [D.int IntKind.u8 ↑c.toNat]) l),s)
  | x=>none:=
 fun tm s x=>nd (aM.eq_19 tm s x)
theorem El : ∀ (tm:Tm) (s:St) (size:Nat) (x:X) (lo hi:Option X),
 aM (AO.Az size x lo hi) tm s =
  match X.ev tm x with
  | D.slice g z rows=>
   match tO (Option.map (fun(x:X)=>X.ev tm x) lo),
    tP (Option.map (fun(x:X)=>X.ev tm x) hi) rows.length with
   | some l,some h=>
    if(rows = []∨z=size)∧0≤l∧l≤h∧h≤ ↑rows.length then
     some
      (D.slice (if l=0 then g.cut (decide (h = ↑rows.length))else Tag.shared) z
       (List.drop l.toNat (List.take h.toNat rows)),
       s)
    else none
   | x,dQ=>none
  | x=>none:=
 fun tm s size x lo hi=>nd (aM.eq_20 tm s size x lo hi)
theorem Em : ∀ (tm:Tm) (s:St) (x:X) (lo hi:Option X),
 aM (AO.AA x lo hi) tm s =
  match X.ev tm x with
  | D.str t=>
   match tO (Option.map (fun(x:X)=>X.ev tm x) lo),tP (Option.map (fun(x:X)=>X.ev tm x) hi) t.length with
   | some l,some h=>
    if 0≤l∧l≤h∧h≤ ↑t.length then some (D.str (List.drop l.toNat (List.take h.toNat t)),s)else none
   | x,dQ=>none
  | x=>none:=
 fun tm s x lo hi=>nd (aM.eq_21 tm s x lo hi)
theorem En : ∀ (tm:Tm) (s:St) (x:X) (off:Nat),
 aM (AO.aE x off) tm s =
  match X.ev tm x with
  | D.ptr o k=>some (D.ptr o (k+off),s)
  | D.dd row k=>some (D.dd row (k+off),s)
  | x=>none:=
 fun tm s x off=>nd (aM.eq_22 tm s x off)
theorem Eo : ∀ (tm:Tm) (s:St) (x:X) (off:Nat) (agg:Bool) (size:Nat),
 aM (AO.AB x off agg size) tm s =
  match X.ev tm x with
  | D.agg cs=>
   match part cs off agg size with
   | some d=>some (d,s)
   | none=>none
  | x=>none:=
 fun tm s x off agg size=>nd (aM.eq_23 tm s x off agg size)
theorem Ep : ∀ (tm:Tm) (s:St) (x i:X) (size:Nat),
 aM (AO.bT x i size) tm s =
  match X.ev tm x,X.ev tm i with
  | D.slice g z rows,D.int k n=>
   if 0≤n∧z=size then
    match rows[n.toNat]? with
    | some row=>some (D.dd row 0,s)
    | none=>none
   else none
  | x,dQ=>none:=
 fun tm s x i size=>nd (aM.eq_24 tm s x i size)
theorem Er : ∀ (tm:Tm) (s:St) (x i:X),
 aM (AO.pN x i) tm s =
  match X.ev tm x,X.ev tm i with
  | D.str t,D.int k n=>
   if 0≤n then
    match t[n.toNat]? with
    | some c=>some (D.int IntKind.u8 ↑c.toNat,s)
    | none=>none
   else none
  | x,dQ=>none:=
 fun tm s x i=>nd (aM.eq_25 tm s x i)
theorem Es : ∀ (tm:Tm) (s:St) (x:X) (i:Nat),
 aM (AO.ext x i) tm s =
  match X.ev tm x with
  | D.tuple ds=>
   match ds[i]? with
   | some d=>some (d,s)
   | none=>none
  | x=>none:=
 fun tm s x i=>nd (aM.eq_26 tm s x i)
theorem Et : ∀ (tm:Tm) (s:St) (x:X),
 aM (AO.nV x) tm s =
  match X.ev tm x with
  | D.str t=>some (D.int IntKind.i64 ↑t.length,s)
  | x=>none:=
 fun tm s x=>nd (aM.eq_27 tm s x)
theorem Eu : ∀ (tm:Tm) (s:St) (x:X),
 aM (AO.len x) tm s =
  match X.ev tm x with
  | D.slice g size rows=>some (D.int IntKind.i64 ↑rows.length,s)
  | x=>none:=
 fun tm s x=>nd (aM.eq_28 tm s x)
theorem Ev : ∀ (tm:Tm) (s:St) (size bytes:Nat) (x y:X),
 aM (AO.app size bytes x y) tm s=fY size bytes (X.ev tm x) (X.ev tm y) s:=
 fun tm s size bytes x y=>nd (aM.eq_29 tm s size bytes x y)
theorem Ew : ∀ (tm:Tm) (s:St) (isMax:Bool) (x y:X),
 aM (AO.mm isMax x y) tm s =
  match X.ev tm x,X.ev tm y with
  | D.int k a,D.int k' b=>
   if k=k' then some (D.int k (if isMax=true then if b > a then b else a else if b<a then b else a),s)
   else none
  | x,dQ=>none:=
 fun tm s isMax x y=>nd (aM.eq_30 tm s isMax x y)
theorem Ey (tm:Tm) (s:St) (r:List D) (T:TypeId):aM (AO.oC (.dY::r) T) tm s=some (.ptr s.au.length 0,{au:=s.au++ [.dZ T s.au.length::r],av:=s.av}):=nd rfl
theorem Ez (tm:Tm) (s:St) (x:X) (T:TypeId):aM (AO.tH x T) tm s =
 match (x.ev tm).row with
 | some (.dY::r)=>some (.ptr s.au.length 0,{au:=s.au++ [.dZ T s.au.length::r],av:=s.av})
 | _=>none:=nd rfl
theorem EA (tm:Tm) (s:St) (x y:X):aM (AO.apps x y) tm s =
 match y.ev tm with
 | .str l=>tQ (x.ev tm) (.slice .shared 1 (l.map fun c=> [.int .u8 c.toNat])) s
 | _=>none:=nd rfl
theorem EB (tm:Tm) (s:St) (x y:X):aM (AO.tJ x y) tm s=tQ (x.ev tm) (y.ev tm) s:=nd rfl
theorem EC (tm:Tm) (s:St) (f:Nat) (xs:List X):aM (AO.px f xs) tm s=some (.fa f (xs.map fun x=>x.ev tm),s):=nd rfl
theorem ED (tm:Tm) (s:St):aM AO.qo tm s=some (.fl s.au.length,{au:=s.au++ [[]],av:=s.av}):=nd rfl
theorem EE (tm:Tm) (s:St) (m k v:X):aM (AO.tL m k v) tm s =
 match m.ev tm,k.ev tm,v.ev tm with
 | .fl o, .str key, .slice g z rows=>
  match s.au[o]? with
  | some cs=>match vP key (.slice g z rows) cs with | some gj=>some (.tuple [],{au:=s.au.set o gj,av:=s.av}) | none=>none
  | none=>none
 | _,_,_=>none:=nd rfl
theorem EF (tm:Tm) (s:St) (m k:X) (zero:D):aM (AO.sr m k zero) tm s =
 match m.ev tm,k.ev tm with
 | .fl o, .str key=>
  match s.au[o]? with
  | some cs=>match vO key zero cs with | some d=>some (d,s) | none=>none
  | none=>none
 | _,_=>none:=nd rfl
theorem Bf (f:Nat) (xs:List X):(AO.px f xs).core=false:=nd rfl
theorem Bg:AO.qo.core=true:=nd rfl
theorem Bh (m k v:X):(AO.tL m k v).core=true:=nd rfl
theorem Bi (m k:X) (zero:D):(AO.sr m k zero).core=false:=nd rfl
theorem GX (n m f:Nat) (cs:List D):D.fg n m (.fa f cs) = .fa f (D.fD n m cs):=nd (by simp only [D.fg])
theorem GY (n m:Nat) (o:Nat):D.fg n m (.fl o)=if o<n then .fl o else .junk:=nd (by simp only [D.fg])
theorem EG (d:Option Nat) (g:Option (Nat×Bool)) (t:Nat) (xs:List X):(AI.fW d g t xs).dst=d:=nd rfl
theorem Bj (x y:X):(AO.tJ x y).core=true:=nd rfl
theorem Bk (z:List D) (T:TypeId):(AO.oC z T).core=true:=nd rfl
theorem Bl (x:X) (T:TypeId):(AO.tH x T).core=true:=nd rfl
theorem Bm (x y:X):(AO.apps x y).core=true:=nd rfl
theorem GZ (n m:Nat) (v:Value):D.fg n m (.val v) = .val v:=nd (by simp only [D.fg])
theorem G0 (n m:Nat) (T:TypeId) (o:Nat):D.fg n m (.dZ T o)=if o<n then .dZ T o else .junk:=nd (by simp only [D.fg])
theorem Ja : ∀ (tm:Tm) (t:Nat),X.ev tm (X.s t)=tm.get t:=
 fun tm t=>nd (X.ev.eq_1 tm t)
theorem Jb : ∀ (tm:Tm) (d:D),X.ev tm (X.k d)=d:=
 fun tm d=>nd (X.ev.eq_2 tm d)
theorem EH : ∀ (tm:Tm) (d:D) (t:Nat),tm.put (some t) d=tm.set t d:=
 fun tm d t=>nd (Tm.put.eq_1 tm d t)
theorem EI : ∀ (tm:Tm) (d:D),tm.put none d=tm:=
 fun tm d=>nd (Tm.put.eq_2 tm d)
theorem EJ : ∀ (x:Nat) (dQ:D),Tm.set [] x dQ = [(x,dQ)]:=
 fun x dQ=>nd (Tm.set.eq_1 x dQ)
theorem EK : ∀ (x:Nat) (dQ:D) (k:Nat) (e:D) (r:List (Nat×D)),
 Tm.set ((k,e)::r) x dQ=if k=x then(k,dQ)::r else(k,e)::Tm.set r x dQ:=
 fun x dQ k e r=>nd (Tm.set.eq_2 x dQ k e r)
theorem EL : ∀ (x:Nat),Tm.get [] x=D.junk:=
 fun x=>nd (Tm.get.eq_1 x)
theorem EM : ∀ (x k:Nat) (d:D) (r:List (Nat×D)),Tm.get ((k,d)::r) x=if k=x then d else Tm.get r x:=
 fun x k d r=>nd (Tm.get.eq_2 x k d r)
theorem G1 : ∀ (x:Nat),kU x [] = []:=
 fun x=>nd (kU.eq_1 x)
theorem G2 : ∀ (x:Nat) (d:D) (r:List D),kU x (d::r)=(x,d)::kU (x+1) r:=
 fun x d r=>nd (kU.eq_2 x d r)
theorem EN : ∀ (d:Option Nat) (g:Option (Nat×Bool)) (o:AO),(AI.op d g o).dst=d:=
 fun d g o=>nd (AI.dst.eq_1 d g o)
theorem EO : ∀ (d:Option Nat) (g:Option (Nat×Bool)) (f:Nat) (xs:List X),(AI.call d g f xs).dst=d:=
 fun d g f xs=>nd (AI.dst.eq_2 d g f xs)
theorem EP : ∀ (d:Option Nat) (g:Option (Nat×Bool)) (neg:Bool) (dQ:X),(AI.nil d g neg dQ).dst=d:=
 fun d g neg dQ=>nd (AI.dst.eq_3 d g neg dQ)
theorem Jc : ∀ (cs:List D) (off size:Nat),
 part cs off true size=if off+size≤cs.length then some (D.agg (List.take size (List.drop off cs)))else none:=
 fun cs off size=>nd (part.eq_1 cs off size)
theorem Jd : ∀ (cs:List D) (off size:Nat),part cs off false size=cs[off]? :=
 fun cs off size=>nd (part.eq_2 cs off size)
theorem ER : ∀ (cs:List D) (off:Nat) (r:List D),
 gw cs off r=List.take off cs++r++List.drop (off+r.length) cs:=
 fun cs off r=>nd (gw.eq_1 cs off r)
theorem G3 : ∀ (cells:List D),mU cells [] = some cells:=
 fun cells=>nd (mU.eq_1 cells)
theorem G4 : ∀ (cells:List D) (off size:Nat) (d:D) (rest:List (Nat×Nat×D)),
 mU cells ((off,size,d)::rest) =
  match d.row with
  | none=>none
  | some r=>if r.length=size∧off+size≤cells.length then mU (gw cells off r) rest else none:=
 fun cells off size d rest=>nd (mU.eq_2 cells off size d rest)
theorem Bn : ∀ (size:Nat) (rows:List (List D)),gB size rows [] = some rows:=
 fun size rows=>nd (gB.eq_1 size rows)
theorem Bo : ∀ (size:Nat) (rows:List (List D)) (i:Nat) (d:D) (rest:List (Nat×D)),
 gB size rows ((i,d)::rest) =
  match d.row with
  | none=>none
  | some r=>if r.length=size∧i<rows.length then gB size (rows.set i r) rest else none:=
 fun size rows i d rest=>nd (gB.eq_2 size rows i d rest)
theorem Bp : ∀ (zero:List D),fP zero 0 = []:=
 fun zero=>nd (fP.eq_1 zero)
theorem Bq : ∀ (zero:List D) (i:Nat),fP zero i.succ=zero::fP zero i:=
 fun zero i=>nd (fP.eq_2 zero i)
theorem Je : ∀ (op:BinOp) (k:IntKind) (a:Int) (k':IntKind) (b:Int),
 q5 op (D.int k a) (D.int k' b)=if k=k' then ey op k a b else none:=
 fun op k a k' b=>nd (q5.eq_1 op k a k' b)
theorem Jf : ∀ (op:BinOp) (a b:List UInt8),q5 op (D.str a) (D.str b)=kv op a b:=
 fun op a b=>nd (q5.eq_2 op a b)
theorem ES : ∀ (k:IntKind) (a b:Int),ey BinOp.add k a b=some (D.int k (k.wrap (a+b))):=
 fun k a b=>nd (ey.eq_1 k a b)
theorem ET : ∀ (k:IntKind) (a b:Int),ey BinOp.sub k a b=some (D.int k (k.wrap (a - b))):=
 fun k a b=>nd (ey.eq_2 k a b)
theorem EU : ∀ (k:IntKind) (a b:Int),ey BinOp.mul k a b=some (D.int k (k.wrap (a*b))):=
 fun k a b=>nd (ey.eq_3 k a b)
theorem EV : ∀ (k:IntKind) (a b:Int),
 ey BinOp.quo k a b=if b=0 then none else some (D.int k (k.wrap (a.tdiv b))):=
 fun k a b=>nd (ey.eq_4 k a b)
theorem EW : ∀ (k:IntKind) (a b:Int),ey BinOp.rem k a b=if b=0 then none else some (D.int k (a.tmod b)):=
 fun k a b=>nd (ey.eq_5 k a b)
theorem EX : ∀ (k:IntKind) (a b:Int),ey BinOp.eql k a b=some (D.bool (a==b)):=
 fun k a b=>nd (ey.eq_6 k a b)
theorem EY : ∀ (k:IntKind) (a b:Int),ey BinOp.neq k a b=some (D.bool (a != b)):=
 fun k a b=>nd (ey.eq_7 k a b)
theorem EZ : ∀ (k:IntKind) (a b:Int),ey BinOp.lss k a b=some (D.bool (decide (a<b))):=
 fun k a b=>nd (ey.eq_8 k a b)
theorem E0 : ∀ (k:IntKind) (a b:Int),ey BinOp.leq k a b=some (D.bool (decide (a≤b))):=
 fun k a b=>nd (ey.eq_9 k a b)
theorem Ci : ∀ (k:IntKind) (a b:Int),ey BinOp.gtr k a b=some (D.bool (decide (a > b))):=
 fun k a b=>nd (ey.eq_10 k a b)
theorem Cj : ∀ (k:IntKind) (a b:Int),ey BinOp.geq k a b=some (D.bool (decide (a≥b))):=
 fun k a b=>nd (ey.eq_11 k a b)
theorem E1 : ∀ (a b:List UInt8),
 kv BinOp.add a b=if a.length+b.length≤bb then some (D.str (a++b))else none:=
 fun a b=>nd (kv.eq_1 a b)
theorem E2 : ∀ (a b:List UInt8),kv BinOp.eql a b=some (D.bool (a==b)):=
 fun a b=>nd (kv.eq_2 a b)
theorem E3 : ∀ (a b:List UInt8),kv BinOp.neq a b=some (D.bool !a==b):=
 fun a b=>nd (kv.eq_3 a b)
theorem E4 : ∀ (a b:List UInt8),kv BinOp.lss a b=some (D.bool (bytesLess a b)):=
 fun a b=>nd (kv.eq_4 a b)
theorem MJ : ∀ (k:IntKind) (n:Int),AH UnOp.neg (D.int k n)=some (D.int k (k.wrap (0 - n))):=
 fun k n=>nd (AH.eq_1 k n)
theorem MK : ∀ (b:Bool),AH UnOp.not (D.bool b)=some (D.bool !b):=
 fun b=>nd (AH.eq_2 b)
theorem E5 : ∀ (k:IntKind) (a:Int) (k':IntKind) (b:Int),
 jO 0 (D.int k a) (D.int k' b)=if k=k' then some (a==b)else none:=
 fun k a k' b=>nd (jO.eq_1 k a k' b)
theorem E6 : ∀ (a b:Bool),jO 1 (D.bool a) (D.bool b)=some (a==b):=
 fun a b=>nd (jO.eq_2 a b)
theorem E7 : ∀ (a b:List UInt8),jO 2 (D.str a) (D.str b)=some (a==b):=
 fun a b=>nd (jO.eq_3 a b)
theorem Ck:iB [] [] [] = some true:=
 nd (iB.eq_1)
theorem Cl : ∀ (k:Nat) (ks:List Nat) (LG:D) (xs:List D) (y:D) (ys:List D),
 iB (k::ks) (LG::xs) (y::ys) =
  match jO k LG y with
  | none=>none
  | some true=>iB ks xs ys
  | some false=>some false:=
 fun k ks LG xs y ys=>nd (iB.eq_2 k ks LG xs y ys)
theorem MM:tO none=some 0:=
 nd (tO.eq_1)
theorem MN : ∀ (k:IntKind) (n:Int),tO (some (D.int k n))=some n:=
 fun k n=>nd (tO.eq_2 k n)
theorem MO : ∀ (len:Nat),tP none len=some ↑len:=
 fun len=>nd (tP.eq_1 len)
theorem MP : ∀ (len:Nat) (k:IntKind) (n:Int),tP (some (D.int k n)) len=some n:=
 fun len k n=>nd (tP.eq_2 len k n)
theorem Cm : ∀ (zero:List D),(AO.alloc zero).core=true:=
 fun zero=>nd (AO.core.eq_1 zero)
theorem Cn : ∀ (dQ:X),(AO.box dQ).core=true:=
 fun dQ=>nd (AO.core.eq_2 dQ)
theorem Co : ∀ (zero:List D) (size n:Nat) (parts:List (Nat×X)),(AO.pM zero size n parts).core=true:=
 fun zero size n parts=>nd (AO.core.eq_3 zero size n parts)
theorem Cp : ∀ (dQ:X),(AO.tG dQ).core=true:=
 fun dQ=>nd (AO.core.eq_4 dQ)
theorem Cq : ∀ (p dQ:X) (size:Nat),(AO.store p dQ size).core=true:=
 fun p dQ size=>nd (AO.core.eq_5 p dQ size)
theorem Cr : ∀ (size bytes:Nat) (dQ y:X),(AO.app size bytes dQ y).core=true:=
 fun size bytes dQ y=>nd (AO.core.eq_6 size bytes dQ y)
theorem Cs : ∀ (val:Nat) (zero:List D),(AI.op (some val) none (AO.alloc zero)).kind=AK.alloc:=
 fun val zero=>nd (AI.kind.eq_1 val zero)
theorem Ct : ∀ (zero:List D),(AO.alloc zero).kind=AK.core:=
 fun zero=>nd (AO.kind.eq_1 zero)
theorem Cu : ∀ (dQ:X),(AO.box dQ).kind=AK.core:=
 fun dQ=>nd (AO.kind.eq_2 dQ)
theorem Cv : ∀ (zero:List D) (size n:Nat) (parts:List (Nat×X)),(AO.pM zero size n parts).kind=AK.core:=
 fun zero size n parts=>nd (AO.kind.eq_3 zero size n parts)
theorem Cw : ∀ (dQ:X),(AO.tG dQ).kind=AK.core:=
 fun dQ=>nd (AO.kind.eq_4 dQ)
theorem Cx : ∀ (p dQ:X) (size:Nat),(AO.store p dQ size).kind=AK.core:=
 fun p dQ size=>nd (AO.kind.eq_5 p dQ size)
theorem Cy : ∀ (size bytes:Nat) (dQ y:X),(AO.app size bytes dQ y).kind=AK.core:=
 fun size bytes dQ y=>nd (AO.kind.eq_6 size bytes dQ y)
theorem Cz : ∀ (dQ:X) (agg:Bool) (size:Nat),(AO.load dQ agg size).kind=AK.load:=
 fun _ _ _=>nd rfl
theorem E8:eY AK.core=true:=
 nd (eY.eq_1)
theorem E9:eY AK.alloc=true:=
 nd (eY.eq_2)
theorem Fa : ∀ (i:AI) (tm:Tm) (d:D),kC i tm d [] = True:=
 fun i tm d=>nd (kC.eq_1 i tm d)
theorem Fb : ∀ (i:AI) (tm:Tm) (d:D) (s:St) (r:List St),
 kC i tm d (s::r)=(gx i tm s=some d∧kC i tm d r):=
 fun i tm d s r=>nd (kC.eq_2 i tm d s r)
theorem MQ : ∀ (tm:Tm) (s:St) (dst:Option Nat) (o:AO),
 gx (AI.op dst none o) tm s=Option.map (fun(x:D×St)=>x.fst) (aM o tm s):=
 fun tm s dst o=>nd (gx.eq_1 tm s dst o)
theorem MR : ∀ (tm:Tm) (s:St) (dst:Option Nat) (t:Nat) (want:Bool) (o:AO),
 gx (AI.op dst (some (t,want)) o) tm s =
  match tm.get t with
  | D.bool b=>if b=want then Option.map (fun(x:D×St)=>x.fst) (aM o tm s)else some (D.tuple [])
  | D.tuple vs=>some (D.tuple [])
  | x=>none:=
 fun tm s dst t want o=>nd (gx.eq_2 tm s dst t want o)
theorem CA : ∀ (is:List AI),jS is [] = some []:=
 fun is=>nd (jS.eq_1 is)
theorem CC : ∀ (is:List AI) (q b:Nat) (r:List (Nat×Nat)),
 jS is ((q,b)::r) =
  match is[q]?,jS is r with
  | some ai,some l=>some ((ai,b)::l)
  | x,dQ=>none:=
 fun is q b r=>nd (jS.eq_2 is q b r)
theorem MS : ∀ (tm:Tm) (n m:Nat),qE tm n m [] = True:=
 fun tm n m=>nd (qE.eq_1 tm n m)
theorem MT : ∀ (tm:Tm) (n m k:Nat) (d:D) (r:List (Nat×D)),
 qE tm n m ((k,d)::r)=(Wk (D.fg n m (tm.get k)) d∧qE tm n m r):=
 fun tm n m k d r=>nd (qE.eq_2 tm n m k d r)
theorem Jg : ∀ (n m o off:Nat),D.fg n m (D.ptr o off)=if o<n then D.ptr o off else D.junk:=
 fun n m o off=>nd (D.fg.eq_1 n m o off)
theorem Jh : ∀ (n m:Nat) (row:List D) (off:Nat),D.fg n m (D.dd row off)=D.dd (D.fD n m row) off:=
 fun n m row off=>nd (D.fg.eq_2 n m row off)
theorem Ji : ∀ (n m:Nat) (g:Tag) (z:Nat) (rows:List (List D)),
 D.fg n m (D.slice g z rows)=D.slice (Tag.fg m g) z (D.hO n m rows):=
 fun n m g z rows=>nd (D.fg.eq_3 n m g z rows)
theorem Jj : ∀ (n m:Nat) (cs:List D),D.fg n m (D.agg cs)=D.agg (D.fD n m cs):=
 fun n m cs=>nd (D.fg.eq_4 n m cs)
theorem Jk : ∀ (n m:Nat) (ds:List D),D.fg n m (D.tuple ds)=D.tuple (D.fD n m ds):=
 fun n m ds=>nd (D.fg.eq_5 n m ds)
theorem Jl : ∀ (n m:Nat),D.fg n m D.junk=D.junk:=
 fun n m=>nd (D.fg.eq_6 n m)
theorem Jm : ∀ (n m:Nat) (k:IntKind) (dQ:Int),D.fg n m (D.int k dQ)=D.int k dQ:=
 fun n m k dQ=>nd (D.fg.eq_7 n m k dQ)
theorem Jn : ∀ (n m:Nat) (b:Bool),D.fg n m (D.bool b)=D.bool b:=
 fun n m b=>nd (D.fg.eq_8 n m b)
theorem Jo : ∀ (n m:Nat) (l:List UInt8),D.fg n m (D.str l)=D.str l:=
 fun n m l=>nd (D.fg.eq_9 n m l)
theorem G5 : ∀ (n m:Nat),D.fg n m D.dY=D.dY:=
 fun n m=>nd (D.fg.eq_10 n m)
theorem G6 : ∀ (n m:Nat),D.fD n m [] = []:=
 fun n m=>nd (D.fD.eq_1 n m)
theorem G7 : ∀ (n m:Nat) (d:D) (r:List D),D.fD n m (d::r)=D.fg n m d::D.fD n m r:=
 fun n m d r=>nd (D.fD.eq_2 n m d r)
theorem G8 : ∀ (n m:Nat),D.hO n m [] = []:=
 fun n m=>nd (D.hO.eq_1 n m)
theorem G9 : ∀ (n m:Nat) (d:List D) (r:List (List D)),D.hO n m (d::r)=D.fD n m d::D.hO n m r:=
 fun n m d r=>nd (D.hO.eq_2 n m d r)
theorem Fc : ∀ (m t:Nat) (y:Bool),Tag.fg m (Tag.tok t y)=if t<m then Tag.tok t y else Tag.shared:=
 fun _ _ _=>nd rfl
theorem Fe : ∀ (s:St) (n m:Nat),
 s.cut n m = {au:=List.map (D.fD n m) (List.take n s.au),av:=List.take m s.av}:=
 fun s n m=>nd (St.cut.eq_1 s n m)
theorem Jp : ∀ (d:D),ay [d] = d:=
 fun d=>nd (ay.eq_1 d)
theorem Jq (size bytes t:Nat) (rows:List (List D)) (g:Tag) (r:List D) (s:St):fY size bytes (.slice (.tok t) size rows) (.slice g size [r]) s =
 if(rows.length+1)*(bytes+1)≤bb∧s.av[t]? = some (some rows.length)then some (.slice (.tok t) size (rows++ [r]),⟨s.au,s.av.set t (some (rows.length+1))⟩)else none:=by
 simp only [fY,List.length_singleton]
 by_cases h1:(rows.length+1)*(bytes+1)≤bb <;> by_cases h2:s.av[t]? = some (some rows.length) <;> simp [h1,h2]
theorem wb {size bytes t:Nat} {rows new:List (List D)} {g:Tag} {s:St} (h1:(rows.length+new.length)*(bytes+1)≤bb) (h2:s.av[t]? = some (some rows.length)) :
 fY size bytes (.slice (.tok t) size rows) (.slice g size new) s=some (.slice (.tok t) size (rows++new),⟨s.au,s.av.set t (some (rows.length+new.length))⟩):=by
 cases new with
 | nil=>
  have:s.av.set t (some rows.length)=s.av:=by
   apply List.ext_getElem?
   intro i
   rw [List.getElem?_set]
   split
   ·rename_i hi;subst hi;rw [h2,if_pos (List.getElem?_eq_some_iff.1 h2).1]
   ·rfl
  simp only [List.length_nil,Nat.add_zero]at h1
  simp [fY,h1,this]
 | cons x l=>
  simp only [fY,h1,h2]
  simp
theorem Ha (size bytes z:Nat) (g:Tag) (r:List D) (s:St):fY size bytes (.slice .full z []) (.slice g size [r]) s =
 if bytes+1≤bb then some (.slice (.tok s.av.length) size [r],⟨s.au,s.av++ [some 1]⟩)else none:=by
 simp [fY]
theorem MU {P:Program} {B:fp} {nt:Nat} (ac:AC) (Q:Exit→Tm→St→Prop) (tm:Tm) (s:St):DQ P B nt ac Q .normal tm s=Q .normal tm s:=nd rfl
theorem MV {P:Program} {B:fp} {nt:Nat} (ac:AC) (Q:Exit→Tm→St→Prop) (tm:Tm) (s:St):DQ P B nt ac Q .ret tm s=Q .ret tm s:=nd rfl
theorem MW {P:Program} {B:fp} {nt:Nat} (ac:AC) (Q:Exit→Tm→St→Prop) (tm:Tm) (s:St) (i:Nat):DQ P B nt ac Q (.exit i) tm s=Q (.exit i) tm s:=nd rfl
theorem MX (m:Nat):Tag.fg m .full = .full:=nd rfl
theorem Hb (m:Nat):Tag.fg m .shared = .shared:=nd rfl
theorem RB {P:Program} (K:Tm→St→Prop) (tm:Tm) (s:St):gN P [] K tm s=K tm s:=nd rfl
theorem s_op {P:Program} (dst:Option Nat) (o:AO) (r:List AI) (K:Tm→St→Prop) (tm:Tm) (s:St) :
 gN P (.op dst none o::r) K tm s=(match aM o tm s with | some (d,s')=>gN P r K (tm.put dst d) s' | none=>False):=nd rfl
def KJ (P:Program) (r:List AI) (K:Tm→St→Prop) (tm:Tm) (dst:Option Nat) (d:D) (s:St):Prop:=gN P r K (tm.put dst d) s
theorem T7 {P:Program} (r:List AI) (K:Tm→St→Prop) (tm:Tm) (dst:Option Nat) (d:D) (s:St):KJ P r K tm dst d s=gN P r K (tm.put dst d) s:=nd rfl
theorem s_call {P:Program} (dst:Option Nat) (f:Nat) (xs:List X) (r:List AI) (K:Tm→St→Prop) (tm:Tm) (s:St) :
 gN P (.call dst none f xs::r) K tm s=CL P f (xs.map (·.ev tm)) s (KJ P r K tm dst):=nd rfl
def NJ (P:Program) (dst:Option Nat) (neg:Bool) (x:D) (r:List AI) (K:Tm→St→Prop) (tm:Tm) (s:St):Prop:=
 match x with
 | .slice _ _ rows=>∀ b:Bool,(rows≠ []→b=false)→gN P r K (tm.put dst (.bool (if neg then !b else b))) s
 | _=>False
theorem OO {P:Program} (dst:Option Nat) (neg:Bool) (x:X) (r:List AI) (K:Tm→St→Prop) (tm:Tm) (s:St) :
 gN P (.nil dst none neg x::r) K tm s=NJ P dst neg (x.ev tm) r K tm s:=nd rfl
theorem MY {P:Program} (dst:Option Nat) (neg:Bool) (g:Tag) (z:Nat) (d:List D) (l:List (List D)) (r:List AI) (K:Tm→St→Prop) (tm:Tm) (s:St) :
 NJ P dst neg (.slice g z (d::l)) r K tm s=gN P r K (tm.put dst (.bool neg)) s:=by
 simp only [NJ,ne_eq,reduceCtorEq,not_false_eq_true,true_imp_iff,eq_iff_iff]
 refine⟨fun h=>by have:=h false rfl;cases neg <;> exact this,fun h b hb=> ?_⟩
 subst hb;cases neg <;> exact h
theorem Br {P:Program} {dst:Option Nat} {neg:Bool} {g:Tag} {z:Nat} {l:List (List D)} {r:List AI} {K:Tm→St→Prop} {tm:Tm} {s:St}
 (h1:l = []→gN P r K (tm.put dst (.bool (!neg))) s) (h2:gN P r K (tm.put dst (.bool neg)) s):NJ P dst neg (.slice g z l) r K tm s:=by
 intro b hb
 cases b with
 | false=>cases neg <;> exact h2
 | true=>
  have:l = []:=Decidable.byContradiction fun h=>by cases hb h
  cases neg <;> exact h1 this
theorem RE {P:Program} (dst:Option Nat) (t:Nat) (w:Bool) (o:AO) (r:List AI) (K:Tm→St→Prop) (tm:Tm) (s:St) :
 gN P (.op dst (some (t,w)) o::r) K tm s = @GB (tm.get t) w ⟨(gN P (.op dst none o::r) K tm s),(gN P r K (tm.put dst (.tuple [])) s)⟩:=nd rfl
def CV (P:Program) (x:D) (RF:List D) (s:St) (K:D→St→Prop):Prop:=
 match x with
 | .fa f kg=>enters P f=true∧CL P f (RF++kg) s K
 | _=>False
theorem MZ {P:Program} (dst:Option Nat) (t:Nat) (xs:List X) (r:List AI) (K:Tm→St→Prop) (tm:Tm) (s:St) :
 gN P (.fW dst none t xs::r) K tm s=CV P (tm.get t) (xs.map (·.ev tm)) s (KJ P r K tm dst):=nd rfl
theorem CV.use {P:Program} {f:Nat} {kg RF:List D} {s s':St} {d:D} {K:D→St→Prop} (he:enters P f=true) (h:aG P f (RF++kg) s d s') (k:K d s'):CV P (.fa f kg) RF s K:=⟨he,d,s',h,k⟩
theorem Jr {P:Program} (dst:Option Nat) (t:Nat) (w:Bool) (u:Nat) (xs:List X) (r:List AI) (K:Tm→St→Prop) (tm:Tm) (s:St) :
 gN P (.fW dst (some (t,w)) u xs::r) K tm s = @GB (tm.get t) w ⟨(gN P (.fW dst none u xs::r) K tm s),(gN P r K (tm.put dst (.tuple [])) s)⟩:=nd rfl
theorem M3 {P:Program} (dst:Option Nat) (t:Nat) (w:Bool) (f:Nat) (xs:List X) (r:List AI) (K:Tm→St→Prop) (tm:Tm) (s:St) :
 gN P (.call dst (some (t,w)) f xs::r) K tm s = @GB (tm.get t) w ⟨(gN P (.call dst none f xs::r) K tm s),(gN P r K (tm.put dst (.tuple [])) s)⟩:=nd rfl
theorem OQ {P:Program} (dst:Option Nat) (t:Nat) (w:Bool) (neg:Bool) (x:X) (r:List AI) (K:Tm→St→Prop) (tm:Tm) (s:St) :
 gN P (.nil dst (some (t,w)) neg x::r) K tm s = @GB (tm.get t) w ⟨(gN P (.nil dst none neg x::r) K tm s),(gN P r K (tm.put dst (.tuple [])) s)⟩:=nd rfl
theorem T8 (b:Bool) (A C:Prop) : @GB (.bool b) true ⟨A,C⟩ = @CB (.bool b) ⟨A,C⟩:=nd rfl
theorem T9 (b:Bool) (A C:Prop) : @GB (.bool b) false ⟨A,C⟩ = @CB (.bool b) ⟨C,A⟩:=by
 cases b <;> simp [GB,CB,GJ,pD]
theorem Ua (l:List D) (w:Bool) (A C:Prop) : @GB (.tuple l) w ⟨A,C⟩=C:=nd rfl
theorem RG {P:Program} {K:Tm→St→Prop} (bc:List St) (tm:Tm) (s:St):eB P K [] bc tm s=K tm s:=nd rfl
def OJ (P:Program) (o:AO) (dst:Option Nat) (b:Nat) (r:List (AI×Nat)) (K:Tm→St→Prop) (bc:List St) (tm:Tm) (s:St):Bool→Prop
 | true=>match aM o tm s with | some (d,s')=>eB P K r (s::bc) (tm.put dst d) s' | none=>False
 | false=>match aM o tm s with | some (d,_)=>kC (.op dst none o) tm d (bc.take b)∧eB P K r bc (tm.put dst d) s | none=>False
theorem Uc {P:Program} {K:Tm→St→Prop} (dst:Option Nat) (o:AO) (b:Nat) (r:List (AI×Nat)) (bc:List St) (tm:Tm) (s:St) :
 eB P K ((.op dst none o,b)::r) bc tm s=OJ P o dst b r K bc tm s o.core:=by
 simp only [eB,jT]
 cases o.core <;> rfl
theorem Ud {P:Program} (o:AO) (dst:Option Nat) (b:Nat) (r:List (AI×Nat)) (K:Tm→St→Prop) (bc:List St) (tm:Tm) (s:St) :
 OJ P o dst b r K bc tm s true=match aM o tm s with | some (d,s')=>eB P K r (s::bc) (tm.put dst d) s' | none=>False:=nd rfl
theorem Ue {P:Program} (o:AO) (dst:Option Nat) (b:Nat) (r:List (AI×Nat)) (K:Tm→St→Prop) (bc:List St) (tm:Tm) (s:St) :
 OJ P o dst b r K bc tm s false=match aM o tm s with | some (d,_)=>kC (.op dst none o) tm d (bc.take b)∧eB P K r bc (tm.put dst d) s | none=>False:=nd rfl
theorem RH {P:Program} {K:Tm→St→Prop} (dst:Option Nat) (t:Nat) (w:Bool) (o:AO) (b:Nat) (r:List (AI×Nat)) (bc:List St) (tm:Tm) (s:St) :
 eB P K ((.op dst (some (t,w)) o,b)::r) bc tm s = @GB (tm.get t) w ⟨(eB P K ((.op dst none o,b)::r) bc tm s),(eB P K r (if o.core then s::bc else bc) (tm.put dst (.tuple [])) s)⟩:=by
 simp only [GB,eB,jT]
 cases o.core <;> rfl
def KG (P:Program) (K:Tm→St→Prop) (r:List (AI×Nat)) (bc:List St) (tm:Tm) (dst:Option Nat) (d:D) (s:St):Prop:=eB P K r bc (tm.put dst d) s
theorem Uf {P:Program} (K:Tm→St→Prop) (r:List (AI×Nat)) (bc:List St) (tm:Tm) (dst:Option Nat) (d:D) (s:St):KG P K r bc tm dst d s=eB P K r bc (tm.put dst d) s:=nd rfl
theorem g_call {P:Program} {K:Tm→St→Prop} (dst:Option Nat) (f:Nat) (xs:List X) (b:Nat) (r:List (AI×Nat)) (bc:List St) (tm:Tm) (s:St) :
 eB P K ((.call dst none f xs,b)::r) bc tm s=CL P f (xs.map (·.ev tm)) s (KG P K r (s::bc) tm dst):=nd rfl
theorem M4 {P:Program} {K:Tm→St→Prop} (dst:Option Nat) (t:Nat) (w:Bool) (f:Nat) (xs:List X) (b:Nat) (r:List (AI×Nat)) (bc:List St) (tm:Tm) (s:St) :
 eB P K ((.call dst (some (t,w)) f xs,b)::r) bc tm s = @GB (tm.get t) w ⟨(eB P K ((.call dst none f xs,b)::r) bc tm s),(eB P K r (s::bc) (tm.put dst (.tuple [])) s)⟩:=nd rfl
class Ok (p:Prop):Prop where
 out:p
instance:Ok True:=⟨trivial⟩
instance {p q:Prop} [Ok p] [Ok q] : Ok (p∧q):=⟨⟨Ok.out,Ok.out⟩⟩
instance {α:Type} (a:α):Ok (a=a):=⟨rfl⟩
instance (d:D):Ok (Wk d .junk):=⟨Wk.junk d⟩
instance {l l':List D} [Ok (jR l l')] : Ok (Wk (.tuple l) (.tuple l')):=⟨Wk.tuple Ok.out⟩
instance {l l':List D} [Ok (jR l l')] : Ok (Wk (.agg l) (.agg l')):=⟨Wk.agg Ok.out⟩
instance {g:Tag} {z:Nat} {l l':List (List D)} [Ok (fT l l')] : Ok (Wk (.slice g z l) (.slice g z l')):=⟨Wk.rows Ok.out⟩
instance {g:Tag} {z:Nat} {l l':List (List D)} [Ok (fT l l')] : Ok (Wk (.slice g z l) (.slice .shared z l')):=⟨Wk.slice Ok.out⟩
instance (z z':Nat):Ok (Wk (.slice .full z []) (.slice .full z' [])):=⟨Wk.TV z z'⟩
instance (g:Tag) (z z':Nat):Ok (Wk (.slice g z []) (.slice .shared z' [])):=⟨Wk.nil g z z'⟩
instance (d:D):Ok (Wk d d):=⟨Wk.refl d⟩
instance:Ok (jR [] []):=⟨.nil⟩
instance {d d':D} {l l':List D} [Ok (Wk d d')] [Ok (jR l l')] : Ok (jR (d::l) (d'::l')):=⟨.cons Ok.out Ok.out⟩
instance (l:List D):Ok (jR l l):=⟨jR.refl l⟩
instance:Ok (fT [] []):=⟨.nil⟩
instance {d d':List D} {l l':List (List D)} [Ok (jR d d')] [Ok (fT l l')] : Ok (fT (d::l) (d'::l')):=⟨.cons Ok.out Ok.out⟩
instance {a a' b b':List (List D)} [Ok (fT a a')] [Ok (fT b b')] : Ok (fT (a++b) (a'++b')):=⟨fT.append Ok.out Ok.out⟩
instance (l:List (List D)):Ok (fT l l):=⟨fT.refl l⟩
theorem bs:(∀ b,(true || b)=true)∧(∀ b,(false || b)=b)∧(∀ b,(b || true)=true)∧(∀ b,(b || false)=b)∧(∀ b,(true && b)=b)∧(∀ b,(false && b)=false)∧(∀ b,(b && true)=b)∧(∀ b,(b && false)=false)∧
 (!true)=false∧(!false)=true∧(∀ b,(!!b)=b)∧((false=true)=False)∧(∀ (α β:Type) (a:α) (f:α→Option β),(some a).bind f=f a)∧
 (∀ (α β γ:Type) (x:Option α) (f:α→Option β) (g:β→Option γ),(x.bind f).bind g=x.bind fun y=>(f y).bind g):=
 ⟨Bool.true_or,Bool.false_or,Bool.or_true,Bool.or_false,Bool.true_and,Bool.false_and,Bool.and_true,Bool.and_false,rfl,rfl,Bool.not_not,by simp,fun _ _ _ _=>rfl,fun _ _ _ x f g=>Option.bind_assoc x f g⟩
attribute [go_sem] OI T4 T5 RB s_op T7 s_call OO MY RE M3 OQ T8 T9 Ua RG Uc Ud Ue RH Uf g_call M4 AO.core AI.kind AO.kind eY
attribute [go_sem] MZ Jr EC ED EE EF Bf Bg Bh Bi GX GY EG Mz IY
attribute [go_sem] EB Bj Ey Ez EA Bk Bl Bm GZ G0 My Gz Mu IV Mv IW Mw IX Gy Mx IZ D6 I0
attribute [go_sem] GH GK GM GN GO GQ GR GU GV Eb Ec Ed Ee Ef Eg Eh Ei Ej Ek El Em En Eo Ep Er Es Et Eu Ev Ew Ja Jb EH EI EJ EK EL EM G1 G2 EN EO EP Jc Jd ER G3 G4 Bn Bo Bp Bq Je Jf ES ET EU EV EW EX EY EZ E0 Ci Cj E1 E2 E3 E4 MJ MK E5 E6 E7 Ck Cl MM MN MO MP Cm Cn Co Cp Cq Cr Cs Ct Cu Cv Cw Cx Cy Cz E8 E9 Fa Fb MQ MR CA CC MS MT Jg Jh Ji Jj Jk Jl Jm Jn Jo G5 G6 G7 G8 G9 Fc Fe Jp Jq Ha MX Hb MU MV MW
attribute [go_sem] List.map_cons List.map_nil List.getElem?_cons_zero List.getElem?_cons_succ List.length_cons List.length_nil List.set_cons_zero List.set_cons_succ List.take_succ_cons List.take_zero List.take_nil List.drop_succ_cons List.drop_zero List.drop_nil List.cons_append List.nil_append List.append_nil Nat.zero_add Nat.add_zero Option.map_some Option.map_none
attribute [go_sem] Bool.not_false Bool.not_true List.length_map List.getElem?_map Int.toNat_natCast Int.natCast_nonneg Int.toNat_zero and_self and_true true_and
attribute [go_sem_proc ↓] reduceIte
attribute [go_sem_proc] Int.reduceLE reduceCtorEq Nat.reduceEqDiff Nat.reduceLeDiff Nat.reduceAdd Nat.reduceMul Nat.reduceSub Nat.reduceLT
theorem cR {b:Bool} {A C:Prop} (h1:b=true→A) (h:b=true:=by assumption) : @CB (.bool b) ⟨A,C⟩:=OM h h1
theorem cT {b:Bool} {A C:Prop} (h1:b=false→C) (h:b=false:=by assumption) : @CB (.bool b) ⟨A,C⟩:=ON h h1
theorem cU {b:Bool} {A C:Prop} (h1:b=true→A) (h2:b=false→C) : @CB (.bool b) ⟨A,C⟩:=⟨h1,h2⟩
theorem aI {a b:Prop} (x:a) (y:b):a∧b:=⟨x,y⟩
theorem cm {α:Type _} (a b:α):(some a=some b)=(a=b):=Option.some.injEq a b
theorem cq {α:Sort _} {p:α→Prop} {a:α} : (∃ x,a=x∧p x)↔p a:=exists_eq_left'
theorem vF {n m:Nat} (h:Nat.ble n m=true):n≤m:=Nat.le_of_ble_eq_true h
theorem aJ {n m:Nat} {res:List (Nat×Option (Bool×Nat))} {d:D} {s':St} {e:Exit} {tm:Tm} {s:St} {Q:Exit→Tm→St→Prop} (hQ:n7 n m res d s'=Q) (h : ∃ l,aw res tm s=some l∧Wk ((ay l).fg n m) d∧fT (s.cut n m).au s'.au∧(s.cut n m).av=s'.av) (he:e = .ret∨e = .normal:=by first | exact .inl rfl | exact .inr rfl):Q e tm s:=by cases he with | inl x=>cases x;exact Rz hQ h | inr x=>cases x;exact RA hQ h
theorem Xh {p:Prop} (h:p:=by repeat' (first | exact Ok.out | with_reducible refine aI ?_ ?_ | (simp;done))):p:=h
theorem bo {p:Prop} (h:p:=by repeat' (first | exact Ok.out | with_reducible refine aI ?_ ?_)):p:=h
theorem Bs {p:Prop} (h:p:=by(try cases h);simp only [aw,ay,cm,cq,go_sem,hD,hF,hJ,hP];repeat' (first | exact Ok.out | with_reducible refine aI ?_ ?_ | (simp;done))):p:=h
theorem Te {p:Prop} (h:p:=by simp only [go_sem,hD,hF,hJ,hP];repeat' (first | exact Ok.out | with_reducible refine aI ?_ ?_)):p:=h
theorem dc {P:Program} {B:fp} {nt:Nat} {a:AC} {Q:Exit→Tm→St→Prop} {tm bp:Tm} {s:St} {jL:List (List D)} (n m:Nat) (h:bk P B nt a Q bp ⟨jL,(s.cut n m).av⟩) (hn:B.s.au.length≤n:=by rw [hB];exact vF rfl) (hm:B.s.av.length≤m:=by rw [hB];exact vF rfl) (ht:qE tm n m bp:=by exact Te) (ho:fT (s.cut n m).au jL:=by exact Te):bk P B nt a Q tm s:=bk.re bp jL n m hn hm ht ho h
theorem da {P:Program} {B:fp} {nt:Nat} {a:AC} {Q:Exit→Tm→St→Prop} {tm bp:Tm} {s:St} {jL:List (List D)} (n m:Nat) (ht:qE tm n m bp) (ho:fT (s.cut n m).au jL) (h:bk P B nt a Q bp ⟨jL,(s.cut n m).av⟩) (hn:B.s.au.length≤n:=by rw [hB];exact vF rfl) (hm:B.s.av.length≤m:=by rw [hB];exact vF rfl):bk P B nt a Q tm s:=bk.re bp jL n m hn hm ht ho h
theorem bP:0<1∧0<1∧0<1∧0<1:=⟨Nat.zero_lt_one,Nat.zero_lt_one,Nat.zero_lt_one,Nat.zero_lt_one⟩
end Go.Abs

/-! Types -/

namespace Go.Abs
mutual
theorem Ff (n m:Nat) : ∀ d,D.ok 0 0 d=true→D.fg n m d=d
 | .junk,_=>by simp [D.fg]
 | .int k n,_=>by simp [D.fg]
 | .bool b,_=>by simp [D.fg]
 | .str l,_=>by simp [D.fg]
 | .dY,_=>by simp [D.fg]
 | .val v,_=>by simp [D.fg]
 | .dZ T o,h=>by simp [D.ok]at h
 | .fl o,h=>by simp [D.ok]at h
 | .fa f cs,h=>by
  simp only [D.ok]at h
  simp only [D.fg,fU n m cs h]
 | .ptr o f,h=>by simp [D.ok]at h
 | .dd r f,h=>by
  simp only [D.ok]at h
  simp only [D.fg,fU n m r h]
 | .slice g z rows,h=>by
  simp only [D.ok,Bool.and_eq_true]at h
  simp only [D.fg,Bt n m rows h.2]
  cases g with
  | tok t y=>simp [Tag.ok]at h
  | full=>rfl
  | shared=>rfl
 | .agg cs,h=>by
  simp only [D.ok]at h
  simp only [D.fg,fU n m cs h]
 | .tuple cs,h=>by
  simp only [D.ok]at h
  simp only [D.fg,fU n m cs h]
theorem fU (n m:Nat) : ∀ l,D.bG 0 0 l=true→D.fD n m l=l
 | [],_=>by simp [D.fD]
 | d::r,h=>by
  simp only [D.bG,Bool.and_eq_true]at h
  simp only [D.fD,Ff n m d h.1,fU n m r h.2]
theorem Bt (n m:Nat) : ∀ l,D.hY 0 0 l=true→D.hO n m l=l
 | [],_=>by simp [D.hO]
 | d::r,h=>by
  simp only [D.hY,Bool.and_eq_true]at h
  simp only [D.hO,fU n m d h.1,Bt n m r h.2]
end
theorem fq {α:Type} {f:α→List D} (h : ∀ x,D.bG 0 0 (f x)=true) (l:List α):D.hY 0 0 (l.map f)=true:=by
 simp [A3,h]
theorem jU {α:Type} {f:α→List D} (h : ∀ x,D.bG 0 0 (f x)=true) (n m:Nat) (l:List α):D.hO n m (l.map f)=l.map f:=Bt n m _ (fq h l)
theorem C7 (n m:Nat) : ∀ a b,D.hO n m (a++b)=D.hO n m a++D.hO n m b
 | [],b=>by simp [D.hO]
 | x::a,b=>by simp [D.hO,C7 n m a b]
abbrev aA:=List UInt8
structure lZ where
 kind:Int
 text:aA
 n:Int
 pos:Int
deriving DecidableEq
structure Ex where
 op:Int
 n:Int
 name:aA
 kids:List Ex
structure Ar where
 ref:Bool
 name:aA
 x:Ex
structure Sm where
 id:Int
 kind:Int
 labels:List aA
 name:aA
 proc:aA
 x:Ex
 has:Bool
 args:List Ar
 a7:List Sm
 aU:List Sm
structure Pm where
 name:aA
 ref:Bool
structure Pc where
 name:aA
 params:List Pm
 vars:List aA
 body:List Sm
 fin:List aA
structure Pg where
 globals:List aA
 procs:List Pc
def mP:Ex:=⟨0,0,[],[]⟩
def Xi:Ar:=⟨false,[],mP⟩
def LH:Sm:=⟨0,0,[],[],[],mP,false,[],[],[]⟩
def LI:Pg:=⟨[],[]⟩
def encStr (s:aA):List D:= [.str s]
def gy (t:lZ):List D:= [.int .i64 t.kind, .str t.text, .int .i64 t.n, .int .i64 t.pos]
def sl (z:Nat) (rows:List (List D)):D:= .slice .shared z rows
mutual
def bj:Ex→List D
 | ⟨op,n,name,kids⟩=> [.int .i64 op, .int .i64 n, .str name, .slice .shared 4 (pW kids)]
def pW:List Ex→List (List D)
 | []=> []
 | x::l=>bj x::pW l
end
theorem za : ∀ l,pW l=l.map bj
 | []=>by simp [pW]
 | x::l=>by simp [pW,za l]
theorem fj (x:Ex):bj x = [.int .i64 x.op, .int .i64 x.n, .str x.name, .slice .shared 4 (x.kids.map bj)]:=by
 cases x;simp [bj,za]
def df (a:Ar):List D:= [.bool a.ref, .str a.name, .int .i64 a.x.op, .int .i64 a.x.n, .str a.x.name, .slice .shared 4 (a.x.kids.map bj)]
mutual
def bd:Sm→List D
 | ⟨id,kind,labels,name,proc,x,has,args,a7,aU⟩=> [.int .i64 id, .int .i64 kind, .slice .shared 1 (labels.map encStr), .str name, .str proc,
  .int .i64 x.op, .int .i64 x.n, .str x.name, .slice .shared 4 (x.kids.map bj), .bool has, .slice .shared 6 (args.map df), .slice .shared 13 (oN a7), .slice .shared 13 (oN aU)]
def oN:List Sm→List (List D)
 | []=> []
 | x::l=>bd x::oN l
end
theorem zb : ∀ l,oN l=l.map bd
 | []=>by simp [oN]
 | x::l=>by simp [oN,zb l]
theorem cZ (s:Sm):bd s = [.int .i64 s.id, .int .i64 s.kind, .slice .shared 1 (s.labels.map encStr), .str s.name, .str s.proc,
 .int .i64 s.x.op, .int .i64 s.x.n, .str s.x.name, .slice .shared 4 (s.x.kids.map bj), .bool s.has, .slice .shared 6 (s.args.map df), .slice .shared 13 (s.a7.map bd), .slice .shared 13 (s.aU.map bd)]:=by
 cases s;simp [bd,zb]
def fu (p:Pm):List D:= [.str p.name, .bool p.ref]
def bR (p:Pc):List D:= [.str p.name, .slice .shared 2 (p.params.map fu), .slice .shared 1 (p.vars.map encStr), .slice .shared 13 (p.body.map bd), .slice .shared 1 (p.fin.map encStr)]
def bX (p:Pg):List D:= [.slice .shared 1 (p.globals.map encStr), .slice .shared 5 (p.procs.map bR)]
theorem OR (x:lZ):(gy x).length=4:=nd rfl
theorem M5 (x:lZ):List.take 4 (gy x)=gy x:=nd rfl
theorem M6 (x:lZ):List.drop 4 (gy x) = []:=nd rfl
theorem Hc (x:lZ):(gy x)[0]? = some (.int .i64 x.kind):=nd rfl
theorem Hd (x:lZ):(gy x)[1]? = some (.str x.text):=nd rfl
theorem He (x:lZ):(gy x)[2]? = some (.int .i64 x.n):=nd rfl
theorem Hf (x:lZ):(gy x)[3]? = some (.int .i64 x.pos):=nd rfl
theorem RI (w8:Int) (LJ:aA) (n_:Int) (OT:Int):gy ⟨w8,LJ,n_,OT⟩ = [.int .i64 w8, .str LJ, .int .i64 n_, .int .i64 OT]:=by simp only [gy]
theorem LK (x:Ex):(bj x).length=4:=by simp only [fj];rfl
theorem OU (x:Ex):List.take 4 (bj x)=bj x:=by simp only [fj];rfl
theorem OV (x:Ex):List.drop 4 (bj x) = []:=by simp only [fj];rfl
theorem Js (x:Ex):(bj x)[0]? = some (.int .i64 x.op):=by simp only [fj];rfl
theorem Jt (x:Ex):(bj x)[1]? = some (.int .i64 x.n):=by simp only [fj];rfl
theorem Ju (x:Ex):(bj x)[2]? = some (.str x.name):=by simp only [fj];rfl
theorem Jv (x:Ex):(bj x)[3]? = some (.slice .shared 4 (x.kids.map bj)):=by simp only [fj];rfl
theorem Ug (Tf:Int) (n_:Int) (kW:aA) (LL:List Ex):bj ⟨Tf,n_,kW,LL⟩ = [.int .i64 Tf, .int .i64 n_, .str kW, .slice .shared 4 (LL.map bj)]:=by simp only [fj]
theorem RJ (x:Ar):(df x).length=6:=nd rfl
theorem OW (x:Ar):List.take 6 (df x)=df x:=nd rfl
theorem OX (x:Ar):List.drop 6 (df x) = []:=nd rfl
theorem Jw (x:Ar):(df x)[0]? = some (.bool x.ref):=nd rfl
theorem Jx (x:Ar):(df x)[1]? = some (.str x.name):=nd rfl
theorem Jy (x:Ar):(df x)[2]? = some (.int .i64 x.x.op):=nd rfl
theorem Jz (x:Ar):(df x)[3]? = some (.int .i64 x.x.n):=nd rfl
theorem JA (x:Ar):(df x)[4]? = some (.str x.x.name):=nd rfl
theorem JB (x:Ar):(df x)[5]? = some (.slice .shared 4 (x.x.kids.map bj)):=nd rfl
theorem JC (x:Ar):List.take 4 (List.drop 2 (df x))=bj x.x:=by simp only [df,fj];rfl
theorem Uh (Bu:Bool) (kW:aA) (x_:Ex):df ⟨Bu,kW,x_⟩ = [.bool Bu, .str kW, .int .i64 x_.op, .int .i64 x_.n, .str x_.name, .slice .shared 4 (x_.kids.map bj)]:=by simp only [df]
theorem Ao (x:Sm):(bd x).length=13:=by simp only [cZ];rfl
theorem OY (x:Sm):List.take 13 (bd x)=bd x:=by simp only [cZ];rfl
theorem OZ (x:Sm):List.drop 13 (bd x) = []:=by simp only [cZ];rfl
theorem JD (x:Sm):(bd x)[0]? = some (.int .i64 x.id):=by simp only [cZ];rfl
theorem JE (x:Sm):(bd x)[1]? = some (.int .i64 x.kind):=by simp only [cZ];rfl
theorem JF (x:Sm):(bd x)[2]? = some (.slice .shared 1 (x.labels.map encStr)):=by simp only [cZ];rfl
theorem JG (x:Sm):(bd x)[3]? = some (.str x.name):=by simp only [cZ];rfl
theorem JH (x:Sm):(bd x)[4]? = some (.str x.proc):=by simp only [cZ];rfl
theorem JI (x:Sm):(bd x)[5]? = some (.int .i64 x.x.op):=by simp only [cZ];rfl
theorem JJ (x:Sm):(bd x)[6]? = some (.int .i64 x.x.n):=by simp only [cZ];rfl
theorem JK (x:Sm):(bd x)[7]? = some (.str x.x.name):=by simp only [cZ];rfl
theorem JL (x:Sm):(bd x)[8]? = some (.slice .shared 4 (x.x.kids.map bj)):=by simp only [cZ];rfl
theorem JM (x:Sm):(bd x)[9]? = some (.bool x.has):=by simp only [cZ];rfl
theorem Hg (x:Sm):(bd x)[10]? = some (.slice .shared 6 (x.args.map df)):=by simp only [cZ];rfl
theorem Hh (x:Sm):(bd x)[11]? = some (.slice .shared 13 (x.a7.map bd)):=by simp only [cZ];rfl
theorem Hi (x:Sm):(bd x)[12]? = some (.slice .shared 13 (x.aU.map bd)):=by simp only [cZ];rfl
theorem JN (x:Sm):List.take 4 (List.drop 5 (bd x))=bj x.x:=by simp only [cZ,fj];rfl
theorem Ui (Tg:Int) (w8:Int) (C8:List aA) (kW:aA) (LM:aA) (x_:Ex) (O0:Bool) (LN:List Ar) (O1:List Sm) (O2:List Sm):bd ⟨Tg,w8,C8,kW,LM,x_,O0,LN,O1,O2⟩ = [.int .i64 Tg, .int .i64 w8, .slice .shared 1 (C8.map encStr), .str kW, .str LM, .int .i64 x_.op, .int .i64 x_.n, .str x_.name, .slice .shared 4 (x_.kids.map bj), .bool O0, .slice .shared 6 (LN.map df), .slice .shared 13 (O1.map bd), .slice .shared 13 (O2.map bd)]:=by simp only [cZ]
theorem RK (x:Pm):(fu x).length=2:=nd rfl
theorem O3 (x:Pm):List.take 2 (fu x)=fu x:=nd rfl
theorem O4 (x:Pm):List.drop 2 (fu x) = []:=nd rfl
theorem JO (x:Pm):(fu x)[0]? = some (.str x.name):=nd rfl
theorem JP (x:Pm):(fu x)[1]? = some (.bool x.ref):=nd rfl
theorem Uj (kW:aA) (Bu:Bool):fu ⟨kW,Bu⟩ = [.str kW, .bool Bu]:=by simp only [fu]
theorem RL (x:Pc):(bR x).length=5:=nd rfl
theorem O5 (x:Pc):List.take 5 (bR x)=bR x:=nd rfl
theorem O6 (x:Pc):List.drop 5 (bR x) = []:=nd rfl
theorem JQ (x:Pc):(bR x)[0]? = some (.str x.name):=nd rfl
theorem JR (x:Pc):(bR x)[1]? = some (.slice .shared 2 (x.params.map fu)):=nd rfl
theorem JS (x:Pc):(bR x)[2]? = some (.slice .shared 1 (x.vars.map encStr)):=nd rfl
theorem JT (x:Pc):(bR x)[3]? = some (.slice .shared 13 (x.body.map bd)):=nd rfl
theorem JU (x:Pc):(bR x)[4]? = some (.slice .shared 1 (x.fin.map encStr)):=nd rfl
theorem Uk (kW:aA) (C9:List Pm) (LO:List aA) (LP:List Sm) (O7:List aA):bR ⟨kW,C9,LO,LP,O7⟩ = [.str kW, .slice .shared 2 (C9.map fu), .slice .shared 1 (LO.map encStr), .slice .shared 13 (LP.map bd), .slice .shared 1 (O7.map encStr)]:=by simp only [bR]
theorem RM (x:Pg):(bX x).length=2:=nd rfl
theorem O8 (x:Pg):List.take 2 (bX x)=bX x:=nd rfl
theorem O9 (x:Pg):List.drop 2 (bX x) = []:=nd rfl
theorem JV (x:Pg):(bX x)[0]? = some (.slice .shared 1 (x.globals.map encStr)):=nd rfl
theorem JW (x:Pg):(bX x)[1]? = some (.slice .shared 5 (x.procs.map bR)):=nd rfl
theorem Ul (Bv:List aA) (Hj:List Pc):bX ⟨Bv,Hj⟩ = [.slice .shared 1 (Bv.map encStr), .slice .shared 5 (Hj.map bR)]:=by simp only [bX]
attribute [go_sem] OR M5 M6 Hc Hd He Hf RI LK OU OV Js Jt Ju Jv Ug RJ OW OX Jw Jx Jy Jz JA JB JC Uh Ao OY OZ JD JE JF JG JH JI JJ JK JL JM Hg Hh Hi JN Ui RK O3 O4 JO JP Uj RL O5 O6 JQ JR JS JT JU Uk RM O8 O9 JV JW Ul
theorem w9 (s:aA):D.bG 0 0 (encStr s)=true:=rfl
theorem LQ (t:lZ):D.bG 0 0 (gy t)=true:=rfl
mutual
theorem fZ : ∀ x,D.bG 0 0 (bj x)=true
 | ⟨op,n,name,kids⟩=>by simp [bj,D.bG,D.ok,Tag.ok,LR kids]
theorem LR : ∀ l,D.hY 0 0 (pW l)=true
 | []=>rfl
 | x::l=>by simp [pW,D.hY,fZ x,LR l]
end
theorem Fg (a:Ar):D.bG 0 0 (df a)=true:=by simp [df,D.bG,D.ok,Tag.ok,fq fZ]
mutual
theorem pX : ∀ x,D.bG 0 0 (bd x)=true
 | ⟨id,kind,labels,name,proc,x,has,args,a7,aU⟩=>by simp [bd,D.bG,D.ok,Tag.ok,Fh a7,Fh aU,fq w9,fq fZ,fq Fg]
theorem Fh : ∀ l,D.hY 0 0 (oN l)=true
 | []=>rfl
 | x::l=>by simp [oN,D.hY,pX x,Fh l]
end
theorem Fi (p:Pm):D.bG 0 0 (fu p)=true:=rfl
theorem sG (p:Pc):D.bG 0 0 (bR p)=true:=by simp [bR,D.bG,D.ok,Tag.ok,fq Fi,fq w9,fq pX]
theorem kN (p:Pg):D.bG 0 0 (bX p)=true:=by simp [bX,D.bG,D.ok,Tag.ok,fq w9,fq sG]
theorem Pa (n m:Nat) (x:lZ):D.fD n m (gy x)=gy x:=fU n m _ (LQ x)
theorem RN (n m:Nat) (x:Ex):D.fD n m (bj x)=bj x:=fU n m _ (fZ x)
theorem RO (n m:Nat) (x:Ar):D.fD n m (df x)=df x:=fU n m _ (Fg x)
theorem RP (n m:Nat) (x:Sm):D.fD n m (bd x)=bd x:=fU n m _ (pX x)
theorem RQ (n m:Nat) (x:Pm):D.fD n m (fu x)=fu x:=fU n m _ (Fi x)
theorem RR (n m:Nat) (x:Pc):D.fD n m (bR x)=bR x:=fU n m _ (sG x)
theorem RS (n m:Nat) (x:Pg):D.fD n m (bX x)=bX x:=fU n m _ (kN x)
attribute [go_sem] Pa RN RO RP RQ RR RS
theorem dJ (l:List aA):D.hY 0 0 (l.map encStr)=true:=fq w9 l
theorem LS (l:List Ex):D.hY 0 0 (l.map bj)=true:=fq fZ l
theorem Fj (l:List Ar):D.hY 0 0 (l.map df)=true:=fq Fg l
theorem nh (l:List Sm):D.hY 0 0 (l.map bd)=true:=fq pX l
theorem LU (l:List Pm):D.hY 0 0 (l.map fu)=true:=fq Fi l
theorem Ap (l:List Pc):D.hY 0 0 (l.map bR)=true:=fq sG l
theorem Hk (n m:Nat) (l:List aA):D.hO n m (l.map encStr)=l.map encStr:=jU w9 n m l
theorem Pb (n m:Nat) (l:List lZ):D.hO n m (l.map gy)=l.map gy:=jU LQ n m l
theorem RT (n m:Nat) (l:List Ex):D.hO n m (l.map bj)=l.map bj:=jU fZ n m l
theorem RU (n m:Nat) (l:List Ar):D.hO n m (l.map df)=l.map df:=jU Fg n m l
theorem RV (n m:Nat) (l:List Sm):D.hO n m (l.map bd)=l.map bd:=jU pX n m l
theorem RW (n m:Nat) (l:List Pm):D.hO n m (l.map fu)=l.map fu:=jU Fi n m l
theorem LV (n m:Nat) (l:List Pc):D.hO n m (l.map bR)=l.map bR:=jU sG n m l
theorem Pe (x:Ex) (r:List D):bj x++r = .int .i64 x.op:: .int .i64 x.n:: .str x.name:: .slice .shared 4 (x.kids.map bj)::r:=by rw [fj];rfl
theorem M7 (d:D) (x:Ex):d::bj x = [d, .int .i64 x.op, .int .i64 x.n, .str x.name, .slice .shared 4 (x.kids.map bj)]:=by rw [fj]
attribute [go_sem] Pe M7
theorem RX:((0:Nat):Int)=0:=nd rfl
theorem RY:((1:Nat):Int)=1:=nd rfl
theorem RZ:((2:Nat):Int)=2:=nd rfl
attribute [go_sem] RX RY RZ C7 List.length_append List.map_append encStr mP Xi LH LI Hk Pb RT RU RV RW LV
theorem mx (a b:Nat):(if(b:Int) > (a:Int)then(b:Int)else(a:Int))=((max a b:Nat):Int):=by split <;> omega
theorem c7 {x:Int} (h1 : -9223372036854775808≤x) (h2:x<9223372036854775808):IntKind.wrap .i64 x=x:=by
 rw [IntKind.wrap_i64];omega
@[go_sem] theorem aD {n:Nat} (h:n<4611686018427387904):IntKind.wrap .i64 ((n:Int)+1)=((n+1:Nat):Int):=by
 rw [c7] <;> omega
def inc (n:Nat):Option Nat:=if n<4611686018427387904 then some (n+1)else none
def Um (n:Int):Option Int:=if -4611686018427387904<n∧n<4611686018427387904 then some (n+1)else none
@[go_sem] theorem Ti {n:Nat} (h:n+1<4611686018427387904):IntKind.wrap .i64 ((n:Int)+1)=((n+1:Nat):Int):=by
 rw [c7] <;> omega
@[go_sem] theorem Tj {n:Nat} (h:n<4611686018427387904):IntKind.wrap .i64 ((n:Int)+2)=((n+2:Nat):Int):=by
 rw [c7] <;> omega
def Pf {α:Type} (l:List α) (i:Nat):Option α:=if i<4611686018427387904 then l[i]? else none
def push {α:Type} (k:Nat) (l:List α) (x:α):Option (List α):=if(l.length+1)*k≤bb then some (l++ [x])else none
end Go.Abs

/-! Mir -/

namespace Go.Abs
mutual
def Ex.size:Ex→Nat
 | ⟨_,_,_,kids⟩=>1+Ex.aN kids
def Ex.aN:List Ex→Nat
 | []=>0
 | x::l=>1+x.size+Ex.aN l
end
mutual
def Ex.depth:Ex→Nat
 | ⟨_,_,_,kids⟩=>Ex.hZ kids+1
def Ex.hZ:List Ex→Nat
 | []=>0
 | x::l=>max x.depth (Ex.hZ l)
end
def Ph (x:Ex):Option Int:=if x.size<4611686018427387904 then some (x.depth:Int)else none
theorem Ex.bA {x:Ex} : ∀ {l:List Ex},x∈l→x.size<Ex.aN l
 | y::l,h=>by
  simp only [Ex.aN]
  rcases List.mem_cons.1 h with rfl | h
  ·omega
  ·have:=Ex.bA h;omega
theorem Ex.cu : ∀ (l:List Ex),l.length≤Ex.aN l
 | []=>Nat.le_refl _
 | x::l=>by simp only [Ex.aN,List.length_cons];have:=Ex.cu l;omega
def Fk (t:lZ):Int×Int:=
 if t.kind != 4 then(0,0)
 else if t.text == [124,124]then(17,1)
 else if t.text == [38,38]then(16,2)
 else if t.text == [61,61]then(14,3)
 else if t.text == [33,61]then(15,3)
 else if t.text == [60]then(10,4)
 else if t.text == [60,61]then(11,4)
 else if t.text == [62]then(12,4)
 else if t.text == [62,61]then(13,4)
 else if t.text == [43]then(8,5)
 else if t.text == [45]then(9,5)
 else if t.text == [42]then(5,6)
 else if t.text == [47]then(6,6)
 else if t.text == [37]then(7,6)
 else(0,0)
structure Rd where
 l:List lZ
 i:Nat
 code:Int
 Bw:Int
 n:Nat
abbrev Rd.good (r:Rd):Bool:=r.code==0
def Rd.pY (r:Rd):Option lZ:=(Pf r.l r.i).bind fun t=>if decide (0≤t.kind) && decide (t.kind≤4)then some t else none
def Rd.bad (c:Int) (r:Rd):Option Rd:=if r.good then r.pY.bind fun t=>some {r with code:=c,Bw:=t.pos}else some r
def Rd.is (text:aA) (r:Rd):Option Bool:=r.pY.bind fun t=>some ((t.kind==3 || t.kind==4) && t.text==text)
def Rd.take (text:aA) (r:Rd):Option (Bool×Rd):=
 if !r.good then some (false,r)else(r.is text).bind fun b=>if !b then some (false,r)else some (true,{r with i:=r.i+1})
def Rd.want (text:aA) (r:Rd):Option Rd:=(r.take text).bind fun p=>if !p.1 then p.2.bad 3 else some p.2
def Rd.name (room:Bool) (r:Rd):Option (aA×Rd):=
 r.pY.bind fun t=>if !r.good || t.kind != 1 then(r.bad 3).bind fun r=>some ([],r)else if !room then(r.bad 4).bind fun r=>some ([],r)else some (t.text,{r with i:=r.i+1})
def Rd.on (r:Rd):Rd:= {r with i:=r.i+1}
mutual
def Rd.one:Nat→Rd→Option (Ex×Rd)
 | 0,_=>none
 | n+1,r=>r.pY.bind fun t=>
  if !r.good then some (mP,r)
  else if t.kind==2 then some (⟨1,t.n,[],[]⟩,{r with i:=r.i+1})
  else if t.kind==1 then some (⟨2,0,t.text,[]⟩,{r with i:=r.i+1})
  else(r.take [40]).bind fun p=>
   if p.1 then(Rd.two n 1 p.2).bind fun x=>(x.2.want [41]).bind fun r=>some (x.1,r)
   else(p.2.take [45]).bind fun p=>
    if p.1 then(Rd.one n p.2).bind fun x=>some (⟨3,0,[],[x.1]⟩,x.2)
    else(p.2.take [33]).bind fun p=>
     if p.1 then(Rd.one n p.2).bind fun x=>some (⟨4,0,[],[x.1]⟩,x.2)
     else(p.2.bad 3).bind fun r=>some (mP,r)
def Rd.two:Nat→Int→Rd→Option (Ex×Rd)
 | 0,_,_=>none
 | n+1,least,r=>(Rd.one n r).bind fun x=>Rd.Pj n least x.1 x.2
def Rd.Pj:Nat→Int→Ex→Rd→Option (Ex×Rd)
 | 0,_,_,_=>none
 | n+1,least,x,r=>
  if r.good then r.pY.bind fun t=>
   if decide ((Fk t).2<least) || (Fk t).1==0 then some (x,r)
   else(Rd.two n ((Fk t).2+1) {r with i:=r.i+1}).bind fun y=>Rd.Pj n least ⟨(Fk t).1,0,[],[x,y.1]⟩ y.2
  else some (x,r)
end
def Rd.whole (n:Nat) (r:Rd):Option (Ex×Rd):=
 r.pY.bind fun t=>(Rd.two n 1 r).bind fun x=>
  if x.2.good then(Ph x.1).bind fun d=>if decide (d > 20)then some (x.1,{x.2 with code:=4,Bw:=t.pos})else some (x.1,x.2)
  else some (x.1,x.2)
def Rd.names:Nat→List aA→Int→Rd→Option (List aA×Rd)
 | 0,_,_,_=>none
 | n+1,l,ga,r=>
  if r.good then(r.name (decide ((l.length:Int)<ga))).bind fun p=>(push 17 l p.1).bind fun l=>(p.2.take [44]).bind fun q=>
   if !q.1 then(q.2.want [59]).bind fun r=>some (l,r)else Rd.names n l ga q.2
  else some (l,r)
def Rd.ahead (sign:aA) (r:Rd):Option Bool:=
 if r.good then r.pY.bind fun t=>if t.kind==1 then(Pf r.l (r.i+1)).bind fun u=>some (u.kind==4 && u.text==sign)else some false
 else some false
def Rd.labels:Nat→List aA→Rd→Option (List aA×Rd)
 | 0,_,_=>none
 | n+1,l,r=>(r.ahead [58]).bind fun b=>if b then r.pY.bind fun t=>(push 17 l t.text).bind fun l=>Rd.labels n l {r with i:=r.i+2}else some (l,r)
def Rd.Pk (r:Rd):Option Bool:=
 r.pY.bind fun t=>some (if t.kind==1 then true else if t.kind != 3 then false
  else t.text == [105,102] || t.text == [119,104,105,108,101] || t.text == [98,114,101,97,107] || t.text == [99,111,110,116,105,110,117,101] || t.text == [114,101,116,117,114,110] || t.text == [103,111,116,111] || t.text == [114,101,97,100] || t.text == [112,114,105,110,116])
def Rd.Fl (m:Nat):Nat→List Ar→Rd→Option (List Ar×Rd)
 | 0,_,_=>none
 | n+1,l,r=>
  if r.good then(r.take [114,101,102]).bind fun p=>
   if p.1 then(p.2.name true).bind fun x=>(push 81 l ⟨true,x.1,mP⟩).bind fun l=>(x.2.take [44]).bind fun c=>if !c.1 then some (l,c.2)else Rd.Fl m n l c.2
   else(Rd.whole m p.2).bind fun x=>(push 81 l ⟨false,[],x.1⟩).bind fun l=>(x.2.take [44]).bind fun c=>if !c.1 then some (l,c.2)else Rd.Fl m n l c.2
  else some (l,r)
def Rd.other (sign:aA) (r:Rd):Option Bool:=if r.good then(r.is sign).bind fun b=>some !b else some false
def Rd.call (m:Nat) (name proc:aA) (r:Rd):Option (Sm×Rd):=
 (r.want [40]).bind fun r=>(r.other [41]).bind fun b=>
  if b then(Rd.Fl m m [] r).bind fun q=>(q.2.want [41]).bind fun r=>(r.want [59]).bind fun r=>some (⟨0,4,[],name,proc,mP,false,q.1,[],[]⟩,r)
  else(r.want [41]).bind fun r=>(r.want [59]).bind fun r=>some (⟨0,4,[],name,proc,mP,false,[],[],[]⟩,r)
def Rd.named (m:Nat) (r:Rd):Option (Sm×Rd):=
 (r.name true).bind fun x=>(x.2.is [40]).bind fun b=>
  if b then Rd.call m [] x.1 x.2
  else(x.2.want [61]).bind fun r=>(r.ahead [40]).bind fun b=>
   if b then(r.name true).bind fun y=>Rd.call m x.1 y.1 y.2
   else(Rd.whole m r).bind fun y=>(y.2.want [59]).bind fun r=>some (⟨0,1,[],x.1,[],y.1,false,[],[],[]⟩,r)
def Rd.plain (m:Nat) (word:aA) (r:Rd):Option (Sm×Rd):=
 if word == [98,114,101,97,107]then some (⟨0,7,[],[],[],mP,false,[],[],[]⟩,r)
 else if word == [99,111,110,116,105,110,117,101]then some (⟨0,8,[],[],[],mP,false,[],[],[]⟩,r)
 else if word == [114,101,116,117,114,110]then(r.is [59]).bind fun b=>
  if !b then(Rd.whole m r).bind fun x=>some (⟨0,9,[],[],[],x.1,true,[],[],[]⟩,x.2)else some (⟨0,9,[],[],[],mP,false,[],[],[]⟩,r)
 else if word == [103,111,116,111]then(r.name true).bind fun x=>some (⟨0,10,[],x.1,[],mP,false,[],[],[]⟩,x.2)
 else if word == [114,101,97,100]then(r.name true).bind fun x=>some (⟨0,2,[],x.1,[],mP,false,[],[],[]⟩,x.2)
 else if word == [112,114,105,110,116]then(Rd.whole m r).bind fun x=>some (⟨0,3,[],[],[],x.1,false,[],[],[]⟩,x.2)
 else some (LH,r)
def Rd.head (m:Nat) (r:Rd):Option (Ex×Rd):=(r.want [40]).bind fun r=>(Rd.whole m r).bind fun x=>(x.2.want [41]).bind fun r=>some (x.1,r)
mutual
def Rd.rows (m:Nat):Nat→Int→Bool→Rd→Option ((List Sm×List aA)×Rd)
 | 0,_,_,_=>none
 | n+1,nest,body,r=>Rd.LW m n nest body [] r
def Rd.LW (m:Nat):Nat→Int→Bool→List Sm→Rd→Option ((List Sm×List aA)×Rd)
 | 0,_,_,_,_=>none
 | n+1,nest,body,out,r=>
  if r.good then(Rd.labels m [] r).bind fun l=>(l.2.is [125]).bind fun b=>
   if b && (body || (l.1.length:Int)==0)then some ((out,l.1),{l.2 with i:=l.2.i+1})
   else(Rd.stmt m n nest l.2).bind fun s=>(push 209 out {s.1 with labels:=l.1}).bind fun out=>Rd.LW m n nest body out s.2
  else some (([],[]),r)
def Rd.stmt (m:Nat):Nat→Int→Rd→Option (Sm×Rd)
 | 0,_,_=>none
 | n+1,nest,r=>r.Pk.bind fun b=>
  if !b then(r.bad 3).bind fun r=>some (LH,r)
  else(inc r.n).bind fun k=>
   if decide ((k:Int) > 200) || decide (nest > 12)then(({r with n:=k} : Rd).bad 4).bind fun r=>some (LH,r)
   else({r with n:=k} : Rd).pY.bind fun t=>
    if t.kind==1 then Rd.named m {r with n:=k}
    else if t.text == [105,102]then Rd.choice m n nest {r with n:=k,i:=r.i+1}
    else if t.text == [119,104,105,108,101]then(Rd.head m {r with n:=k,i:=r.i+1}).bind fun x=>(Rd.block m n nest x.2).bind fun b=>some (⟨0,6,[],[],[],x.1,false,[],b.1,[]⟩,b.2)
    else(Rd.plain m t.text {r with n:=k,i:=r.i+1}).bind fun s=>(s.2.want [59]).bind fun r=>some (s.1,r)
def Rd.block (m:Nat):Nat→Int→Rd→Option (List Sm×Rd)
 | 0,_,_=>none
 | n+1,nest,r=>(r.want [123]).bind fun r=>(Um nest).bind fun k=>(Rd.rows m n k false r).bind fun p=>some (p.1.1,p.2)
def Rd.choice (m:Nat):Nat→Int→Rd→Option (Sm×Rd)
 | 0,_,_=>none
 | n+1,nest,r=>(Rd.head m r).bind fun x=>(Rd.block m n nest x.2).bind fun t=>(t.2.take [101,108,115,101]).bind fun q=>
  if q.1 then(Rd.block m n nest q.2).bind fun e=>some (⟨0,5,[],[],[],x.1,false,[],t.1,e.1⟩,e.2)
  else some (⟨0,5,[],[],[],x.1,false,[],t.1,[]⟩,q.2)
end
def Rd.params:Nat→List Pm→Rd→Option (List Pm×Rd)
 | 0,_,_=>none
 | n+1,l,r=>
  if r.good then(r.take [114,101,102]).bind fun q=>(q.2.name (decide ((l.length:Int)<8))).bind fun x=>(push 25 l ⟨x.1,q.1⟩).bind fun l=>(x.2.take [44]).bind fun c=>
   if !c.1 then some (l,c.2)else Rd.params n l c.2
  else some (l,r)
def Rd.vars (m:Nat):Nat→List aA→Rd→Option (List aA×Rd)
 | 0,_,_=>none
 | n+1,l,r=>(r.take [118,97,114]).bind fun q=>if q.1 then(Rd.names m l 16 q.2).bind fun x=>Rd.vars m n x.1 x.2 else some (l,q.2)
def Rd.LX (m:Nat) (name:aA) (ps:List Pm) (r:Rd):Option (Pc×Rd):=
 (Rd.vars m m [] r).bind fun v=>(Rd.rows m m 1 true v.2).bind fun b=>some (⟨name,ps,v.1,b.1.1,b.1.2⟩,b.2)
def Rd.proc (m:Nat) (r:Rd):Option (Pc×Rd):=
 (r.name true).bind fun x=>(x.2.want [40]).bind fun r=>(r.other [41]).bind fun b=>
  if b then(Rd.params m [] r).bind fun q=>(q.2.want [41]).bind fun r=>(r.want [123]).bind fun r=>Rd.LX m x.1 q.1 r
  else(r.want [41]).bind fun r=>(r.want [123]).bind fun r=>Rd.LX m x.1 [] r
def Rd.globals (m:Nat):Nat→List aA→Rd→Option (List aA×Rd)
 | 0,_,_=>none
 | n+1,l,r=>(r.take [103,108,111,98,97,108]).bind fun q=>if q.1 then(Rd.names m l 16 q.2).bind fun x=>Rd.globals m n x.1 x.2 else some (l,q.2)
def Rd.Pl (r:Rd):Option Bool:=if r.good then r.is [112,114,111,99]else some false
def Rd.Hl (r:Rd):Option Bool:=if r.good then r.pY.bind fun t=>some (t.kind != 0)else some false
def Rd.procs (m:Nat):Nat→List Pc→Rd→Option (List Pc×Rd)
 | 0,_,_=>none
 | n+1,l,r=>r.Pl.bind fun b=>
  if b then
   if(l.length:Int)==16 then(r.bad 4).bind fun r=>some (l,r)
   else(Rd.proc m {r with i:=r.i+1}).bind fun x=>(push 113 l x.1).bind fun l=>Rd.procs m n l x.2
  else r.Hl.bind fun b=>if b then(r.bad 3).bind fun r=>some (l,r)else some (l,r)
def Rd.program (m:Nat) (r:Rd):Option (Pg×Rd):=(Rd.globals m m [] r).bind fun g=>(Rd.procs m m [] g.2).bind fun q=>some (⟨g.1,q.1⟩,q.2)
mutual
def Ex.beq:Ex→Ex→Bool
 | ⟨op,n,name,kids⟩,⟨Xj,n',Fm,LY⟩=>if op != Xj || n != n' || !(name==Fm) || (kids.length:Int) != (LY.length:Int)then false else Ex.lO kids LY
def Ex.lO:List Ex→List Ex→Bool
 | [],_=>true
 | _::_,[]=>true
 | x::l,y::l'=>if !Ex.beq x y then false else Ex.lO l l'
end
end Go.Abs

/-! MirTree -/

namespace Go.Abs
def Ar.aN:List Ar→Nat
 | []=>0
 | a::l=>1+a.x.size+Ar.aN l
mutual
def Sm.size:Sm→Nat
 | ⟨_,_,labels,_,_,x,_,args,a7,aU⟩=>1+labels.length+x.size+Ar.aN args+Sm.aN a7+Sm.aN aU
def Sm.aN:List Sm→Nat
 | []=>0
 | s::l=>1+s.size+Sm.aN l
end
def Pc.size (f:Pc):Nat:=1+f.params.length+f.vars.length+f.fin.length+Sm.aN f.body
def Pc.aN:List Pc→Nat
 | []=>0
 | f::l=>1+f.size+Pc.aN l
def Pg.size (p:Pg):Nat:=1+p.globals.length+Pc.aN p.procs
mutual
def Sm.num (b:Bool) (n:Nat):Sm→Sm×Nat
 | ⟨id,kind,labels,name,proc,x,has,args,a7,aU⟩=>
  (⟨if b then((n+1:Nat):Int)else id,kind,labels,name,proc,x,has,args,(Sm.eC b (n+1) a7).1,(Sm.eC b (Sm.eC b (n+1) a7).2 aU).1⟩,(Sm.eC b (Sm.eC b (n+1) a7).2 aU).2)
def Sm.eC (b:Bool) (n:Nat):List Sm→List Sm×Nat
 | []=>([],n)
 | s::l=>((Sm.num b n s).1::(Sm.eC b (Sm.num b n s).2 l).1,(Sm.eC b (Sm.num b n s).2 l).2)
end
def Pc.eC (n:Nat):List Pc→List Pc
 | []=> []
 | f::l=> {f with body:=(Sm.eC true n f.body).1}::Pc.eC (Sm.eC true n f.body).2 l
def Pg.number (p:Pg):Pg:= {p with procs:=Pc.eC 0 p.procs}
def Pg.rW (p:Pg):Option Pg:=if p.size<1073741824 then some p.number else none
mutual
theorem Sm.Pn (b:Bool) (n:Nat) : ∀ s:Sm,(Sm.num b n s).2≤n+s.size
 | ⟨id,kind,labels,name,proc,x,has,args,a7,aU⟩=>by
  simp only [Sm.num,Sm.size]
  have h1:=Sm.pL b (n+1) a7
  have h2:=Sm.pL b (Sm.eC b (n+1) a7).2 aU
  omega
theorem Sm.pL (b:Bool) (n:Nat) : ∀ l:List Sm,(Sm.eC b n l).2≤n+Sm.aN l
 | []=>by simp [Sm.eC,Sm.aN]
 | s::l=>by
  simp only [Sm.eC,Sm.aN]
  have h1:=Sm.Pn b n s
  have h2:=Sm.pL b (Sm.num b n s).2 l
  omega
end
theorem Sm.cu : ∀ (l:List Sm),l.length≤Sm.aN l
 | []=>Nat.le_refl _
 | x::l=>by simp only [Sm.aN,List.length_cons];have:=Sm.cu l;omega
theorem Ar.cu : ∀ (l:List Ar),l.length≤Ar.aN l
 | []=>Nat.le_refl _
 | x::l=>by simp only [Ar.aN,List.length_cons];have:=Ar.cu l;omega
theorem Pc.cu : ∀ (l:List Pc),l.length≤Pc.aN l
 | []=>Nat.le_refl _
 | x::l=>by simp only [Pc.aN,List.length_cons];have:=Pc.cu l;omega
theorem Ar.bA {x:Ar} : ∀ {l:List Ar},x∈l→x.x.size<Ar.aN l
 | y::l,h=>by
  simp only [Ar.aN]
  rcases List.mem_cons.1 h with rfl | h
  ·omega
  ·have:=Ar.bA h;omega
theorem Sm.bA {x:Sm} : ∀ {l:List Sm},x∈l→x.size<Sm.aN l
 | y::l,h=>by
  simp only [Sm.aN]
  rcases List.mem_cons.1 h with rfl | h
  ·omega
  ·have:=Sm.bA h;omega
theorem Pc.bA {x:Pc} : ∀ {l:List Pc},x∈l→x.size<Pc.aN l
 | y::l,h=>by
  simp only [Pc.aN]
  rcases List.mem_cons.1 h with rfl | h
  ·omega
  ·have:=Pc.bA h;omega
end Go.Abs

/-! MirFlat -/

namespace Go.Abs
structure Im where
 s:Sm
 proc:Int
 up:Int
 next:Int
 loop:Int
mutual
def Sm.gG:Sm→Nat
 | ⟨_,_,_,_,_,_,_,_,a7,aU⟩=>1+Sm.gm a7+Sm.gm aU
def Sm.gm:List Sm→Nat
 | []=>0
 | s::l=>s.gG+Sm.gm l
end
mutual
def Im.one (proc up next loop:Int) (out:List Im):Sm→List Im
 | ⟨id,kind,labels,name,pc,x,has,args,a7,aU⟩=>
  Im.rows proc ((out.length:Int)+1) (if kind==6 then(out.length:Int)+1 else next) (if kind==6 then(out.length:Int)+1 else loop)
   (Im.rows proc ((out.length:Int)+1) (if kind==6 then(out.length:Int)+1 else next) (if kind==6 then(out.length:Int)+1 else loop) (out++ [⟨⟨id,kind,labels,name,pc,x,has,args,a7,aU⟩,proc,up,next,loop⟩]) a7) aU
def Im.rows (proc up next loop:Int) (out:List Im):List Sm→List Im
 | []=>out
 | s::l=>Im.rows proc up next loop (Im.one proc up (if l.length=0 then next else(out.length:Int)+1+(s.gG:Int)) loop out s) l
end
theorem Im.Po (proc up next loop:Int) (out:List Im) (s:Sm):Im.one proc up next loop out s =
 Im.rows proc ((out.length:Int)+1) (if s.kind==6 then(out.length:Int)+1 else next) (if s.kind==6 then(out.length:Int)+1 else loop)
  (Im.rows proc ((out.length:Int)+1) (if s.kind==6 then(out.length:Int)+1 else next) (if s.kind==6 then(out.length:Int)+1 else loop) (out++ [⟨s,proc,up,next,loop⟩]) s.a7) s.aU:=by
 cases s;simp only [Im.one]
mutual
theorem M8 (proc up next loop:Int) (out:List Im) : ∀ s:Sm,(Im.one proc up next loop out s).length=out.length+s.gG
 | ⟨id,kind,labels,name,pc,x,has,args,a7,aU⟩=>by
  simp only [Im.one,Sm.gG]
  rw [eW,eW]
  simp only [List.length_append,List.length_cons,List.length_nil];omega
theorem eW (proc up next loop:Int) (out:List Im) : ∀ l:List Sm,(Im.rows proc up next loop out l).length=out.length+Sm.gm l
 | []=>rfl
 | s::l=>by
  simp only [Im.rows,Sm.gm]
  rw [eW,M8];omega
end
mutual
theorem wc : ∀ s:Sm,s.gG≤s.size
 | ⟨_,_,labels,_,_,x,_,args,a7,aU⟩=>by
  have:=lj a7;have:=lj aU
  simp only [Sm.gG,Sm.size];omega
theorem lj : ∀ l:List Sm,Sm.gm l≤Sm.aN l
 | []=>Nat.le_refl _
 | s::l=>by
  have:=wc s;have:=lj l
  simp only [Sm.gm,Sm.aN];omega
end
structure Sh where
 L:List Im
 lo:List Int
 hi:List Int
def Sh.go (i:Nat) (h:Sh):List Pc→Sh
 | []=>h
 | f::l=>Sh.go (i+1) ⟨Im.rows i 0 (-1) 0 h.L f.body,h.lo++ [(h.L.length:Int)+1],h.hi++ [((Im.rows i 0 (-1) 0 h.L f.body).length:Int)+1]⟩ l
def Pg.fv (p:Pg):Sh:=Sh.go 0 ⟨[],[],[]⟩ p.procs
end Go.Abs

/-! Nums -/

namespace Go.Abs
def LZ:Nat:=3
def pk:Nat:=4
def JX:Nat:=5
def ni:Nat:=6
def rj:Nat:=7
def o6:Nat:=8
def M9:Nat:=9
def me:Nat:=10
def Pp:Nat:=11
def oA:Nat:=12
def NK:Nat:=13
def kX:Nat:=14
def Na:Nat:=15
def mf:Nat:=16
def pZ:Nat:=17
def rk:Nat:=18
def rl:Nat:=19
def qF:Nat:=20
def mg:Nat:=21
def NL:Nat:=22
def NM:Nat:=23
def Pq:Nat:=24
def pE:Nat:=25
def Q4:Nat:=26
def R0:Nat:=27
def Q5:Nat:=28
def Pr:Nat:=29
def Ps:Nat:=30
def rm:Nat:=31
def gh:Nat:=32
def eD:Nat:=33
def ib:Nat:=34
def sH:Nat:=35
def kD:Nat:=36
def mh:Nat:=37
def kn:Nat:=38
def Q6:Nat:=39
def Pt:Nat:=40
def Pu:Nat:=41
def oB:Nat:=42
def NN:Nat:=43
def jk:Nat:=44
def jM:Nat:=45
def nj:Nat:=46
def bZ:Nat:=47
def gb:Nat:=48
def gv:Nat:=49
def Nb:Nat:=50
def fV:Nat:=51
def kE:Nat:=52
def rn:Nat:=53
def eo:Nat:=54
def kY:Nat:=55
def mj:Nat:=56
def ml:Nat:=57
def jx:Nat:=58
def nk:Nat:=59
def NO:Nat:=60
def Nc:Nat:=61
def Pv:Nat:=62
def Pw:Nat:=63
def L0:Nat:=64
def jV:Nat:=65
def ko:Nat:=66
def gP:Nat:=67
def R1:Nat:=68
def Q7:Nat:=69
def Px:Nat:=70
def Py:Nat:=71
def nn:Nat:=72
def ix:Nat:=73
def pF:Nat:=74
def gD:Nat:=75
def e7:Nat:=76
def kZ:Nat:=77
def gE:Nat:=78
def R3:Nat:=79
def Pz:Nat:=80
def PA:Nat:=81
def NP:Nat:=82
def Q8:Nat:=83
def NQ:Nat:=84
def ez:Nat:=85
def iR:Nat:=86
def np:Nat:=87
def xa:Nat:=88
def L1:Nat:=89
def ij:Nat:=90
def p6:Nat:=91
def fb:Nat:=92
def iL:Nat:=93
def gU:Nat:=94
def n9:Nat:=95
def gI:Nat:=96
def PB:Nat:=97
def PC:Nat:=98
def nq:Nat:=99
def uv:Nat:=100
def sI:Nat:=101
def o7:Nat:=102
def L2:Nat:=103
def jy:Nat:=104
def PD:Nat:=105
def rp:Nat:=106
def R4:Nat:=107
def lC:Nat:=108
def fK:Nat:=109
def uw:Nat:=110
def wA:Nat:=111
def ux:Nat:=112
def vl:Nat:=113
def vb:Nat:=114
def rI:Nat:=115
def Ip:Nat:=116
def tC:Nat:=117
def we:Nat:=118
def Iq:Nat:=119
def Ir:Nat:=120
def jz:Nat:=121
def l5:Nat:=122
def l6:Nat:=123
def kF:Nat:=124
def PE:Nat:=125
def rq:Nat:=126
def lk:Nat:=127
def nr:Nat:=128
def o8:Nat:=129
def nu:Nat:=130
def p7:Nat:=131
def rr:Nat:=132
def Q9:Nat:=133
def R5:Nat:=134
def l7:Nat:=135
def wB:Nat:=136
def Ca:Nat:=137
def CD:Nat:=138
def tD:Nat:=139
def xP:Nat:=140
def Hn:Nat:=141
def p8:Nat:=142
def ry:Nat:=143
def p9:Nat:=144
def rz:Nat:=145
def xQ:Nat:=146
end Go.Abs

/-! Codes0 -/

namespace Go.Abs
abbrev AI.o (t:Nat) (a:AO):AI:= .op (some t) none a
abbrev AI.g (t c:Nat) (b:Bool) (a:AO):AI:= .op (some t) (some (c,b)) a
abbrev AI.c (t f:Nat) (l:List X):AI:= .call (some t) none f l
abbrev AI.d (t c:Nat) (b:Bool) (f:Nat) (l:List X):AI:= .call (some t) (some (c,b)) f l
abbrev AI.m (t:Nat) (x:X):AI:= .op (some t) none (.mv x)
abbrev bB:X:= .s 0
abbrev bm:X:= .s 1
abbrev di:X:= .s 2
abbrev c9:X:= .s 3
abbrev dL:X:= .s 4
abbrev bN:X:= .s 5
abbrev cv:X:= .s 6
abbrev cf:X:= .s 7
abbrev cA:X:= .s 8
abbrev dv:X:= .s 9
abbrev cj:X:= .s 10
abbrev b7:X:= .s 11
abbrev cH:X:= .s 12
abbrev cV:X:= .s 13
abbrev cW:X:= .s 14
abbrev dq:X:= .s 15
abbrev cy:X:= .s 16
abbrev dA:X:= .s 17
abbrev dE:X:= .s 18
abbrev ef:X:= .s 19
abbrev eg:X:= .s 20
abbrev eh:X:= .s 21
abbrev ew:X:= .s 22
abbrev ep:X:= .s 23
abbrev fw:X:= .s 24
abbrev e9:X:= .s 25
abbrev fQ:X:= .s 26
abbrev fx:X:= .s 27
abbrev gn:X:= .s 28
abbrev gp:X:= .s 29
abbrev gV:X:= .s 30
abbrev gq:X:= .s 31
abbrev gF:X:= .s 32
abbrev gQ:X:= .s 33
abbrev gW:X:= .s 34
abbrev iM:X:= .s 35
abbrev iN:X:= .s 36
abbrev jA:X:= .s 37
abbrev jW:X:= .s 38
abbrev jX:X:= .s 39
abbrev ll:X:= .s 40
abbrev kp:X:= .s 41
abbrev ln:X:= .s 42
abbrev kO:X:= .s 43
abbrev lp:X:= .s 44
abbrev mD:X:= .s 45
abbrev mE:X:= .s 46
abbrev nw:X:= .s 47
abbrev ny:X:= .s 48
abbrev lq:X:= .s 49
abbrev mF:X:= .s 50
abbrev lP:X:= .s 51
abbrev lQ:X:= .s 52
abbrev mH:X:= .s 53
abbrev nz:X:= .s 54
abbrev oa:X:= .s 55
abbrev oc:X:= .s 56
abbrev od:X:= .s 57
abbrev oe:X:= .s 58
abbrev lR:X:= .s 59
abbrev qa:X:= .s 60
abbrev sJ:X:= .s 61
abbrev qb:X:= .s 62
abbrev rA:X:= .s 63
abbrev qc:X:= .s 64
abbrev rB:X:= .s 65
abbrev wg:X:= .s 66
abbrev uy:X:= .s 67
abbrev uz:X:= .s 68
abbrev wh:X:= .s 69
abbrev wi:X:= .s 70
abbrev Bx:X:= .s 71
abbrev x9:X:= .s 72
abbrev By:X:= .s 73
abbrev Bz:X:= .s 74
abbrev BA:X:= .s 75
abbrev ya:X:= .s 76
abbrev BB:X:= .s 77
abbrev yc:X:= .s 78
abbrev JY:X:= .s 79
abbrev JZ:X:= .s 80
abbrev J0:X:= .s 81
abbrev J1:X:= .s 82
abbrev J2:X:= .s 83
abbrev PF:X:= .s 84
abbrev PG:X:= .s 85
abbrev PH:X:= .s 86
abbrev PI:X:= .s 87
abbrev PJ:X:= .s 88
abbrev PK:X:= .s 89
abbrev PN:X:= .s 90
abbrev PO:X:= .s 91
abbrev PQ:X:= .s 92
abbrev Un:X:= .s 93
abbrev Uo:X:= .s 94
abbrev Up:X:= .s 95
abbrev Xk:AC:= .cond dE (.seq (.run [.o 4 (.mv (.k (.bool false)))]) .ret) .skip
abbrev Xl:AC:= .cond eh (.seq (.run [.o 4 (.mv (.k (.bool true)))]) .ret) .skip
abbrev Xm:AC:= .cond e9 (.seq (.run [.o 4 (.mv (.k (.bool true)))]) .ret) .skip
abbrev Xn:AC:= .seq (.block 3 (.seq (.run [.o 54 (.bT mF lQ 16), .o 55 (.load nz true 16), .o 14 (.alloc [(.int .i64 0),(.int .i64 0),(.slice .full 0 []),(.str []),(.str []),(.int .i64 0),(.int .i64 0),(.str []),(.slice .full 0 []),(.bool false),(.slice .full 0 []),(.slice .full 0 []),(.slice .full 0 []),(.int .i64 0),(.int .i64 0),(.bool false)]), .op none none (.store cW oa 16)]) (.run [.m 56 cA, .o 57 (.aE cW 0), .o 58 (.load od true 13), .c 59 rl [oe], .o 60 (.app 1 16 oc lR), .m 8 qa]))) (.run [.o 61 (.bin .add lQ (.k (.int .i64 1))), .m 52 sJ])
abbrev Xo:AC:= .block 2 (.loop (.seq (.run [.o 53 (.bin .lss lQ lP)]) (.seq (.cond mH .skip (.exit 2)) Xn)))
abbrev Xp:AC:= .seq (.run [.o 44 (.load di true 2), .m 45 cj, .c 46 pZ [lp,mD], .m 43 mE, .o 47 (.ext kO 0), .o 48 (.ext kO 1), .o 11 (.alloc [(.str []),(.slice .full 0 []),(.slice .full 0 []),(.slice .full 0 []),(.slice .full 0 [])]), .op none none (.store b7 nw 5), .m 12 ny]) (.seq (.run [.o 49 (.load b7 true 5), .c 50 rk [lq], .o 51 (.len mF), .o 52 (.mv (.k (.int .i64 0)))]) Xo)
abbrev Xq:AC:= .seq (.block 1 (.seq (.run [.o 36 (.bT gF gW 1), .o 37 (.load iN false 1), .m 10 jA]) (.seq (.run [.m 38 cf, .o 39 (.load di true 2), .m 40 cj, .c 41 me [jX,ll], .o 42 (.app 1 16 jW kp), .m 7 ln]) Xp))) (.run [.o 62 (.bin .add gW (.k (.int .i64 1))), .m 34 qb])
abbrev Xr:AC:= .block 0 (.loop (.seq (.run [.o 35 (.bin .lss gW gQ)]) (.seq (.cond iM .skip (.exit 0)) Xq)))
abbrev Xs:AC:= .cond BB (.seq (.run [.o 4 (.mv (.k (.bool false)))]) .ret) .skip
abbrev Xt:AC:= .seq (.run [.o 67 (.bT rA rB 1), .o 68 (.load uy false 1), .m 16 uz]) (.seq (.run [.m 69 cy, .m 70 bN, .o 71 (.bin .neq wh wi), .m 72 Bx, .g 73 72 true (.mv cf), .g 74 72 true (.mv cy), .d 75 72 true qF [By,Bz], .g 76 72 true (.un .not BA), .o 77 (.pick x9 ya (.k (.bool false)))]) Xs)
abbrev Xu:AC:= .seq (.cond wg .skip (.exit 4)) (.seq (.block 5 Xt) (.run [.o 78 (.bin .add rB (.k (.int .i64 1))), .m 65 yc]))
abbrev Xv:AC:= .seq (.run [.m 63 cv, .o 64 (.len rA), .o 65 (.mv (.k (.int .i64 0)))]) (.block 4 (.loop (.seq (.run [.o 66 (.bin .lss rB qc)]) Xu)))
abbrev Xw:AC:= .seq (.seq (.run [.m 32 cv, .o 33 (.len gF), .o 34 (.mv (.k (.int .i64 0)))]) Xr) (.seq Xv (.seq (.run [.o 79 (.load di true 2), .m 80 bN, .c 81 kX [JY,JZ], .m 82 cA, .c 83 mg [J0,J1], .m 4 J2]) .ret))
abbrev Xx:AC:= .seq (.run [.o 29 (.load di true 2), .m 30 bN, .c 31 oA [gp,gV], .m 6 gq]) (.seq (.run [.o 7 (.mv (.k (.slice .full 0 []))), .o 8 (.mv (.k (.slice .full 0 [])))]) Xw)
abbrev Xy:AC:= .seq (.seq (.run [.o 22 (.load di true 2), .c 23 mf [ew], .o 24 (.AB ep 0 false 1), .o 25 (.bin .neq fw (.k (.int .i64 0)))]) Xm) (.seq (.run [.o 26 (.load di true 2), .m 27 bm, .c 28 o6 [fQ,fx], .m 5 gn]) Xx)
abbrev Xz:AC:= .seq (.run [.o 2 (.box bB), .o 4 (.mv (.k (.bool false)))]) (.seq (.seq (.run [.c 17 ni [], .o 18 (.un .not dA)]) Xk) (.seq (.seq (.run [.o 19 (.load di true 2), .c 20 rj [ef], .o 21 (.un .not eg)]) Xl) Xy))
abbrev XA:AC:= .seq (.run [.c 2 rm [], .o 1 (.alloc [(.slice .full 0 []),(.slice .full 0 [])]), .op none none (.store bm di 2)]) (.seq (.run [.o 3 (.load bm true 2),(.c 4 oA [c9,(.k (.str [109,97,105,110]))]), .o 5 (.len dL), .o 6 (.bin .eql bN (.k (.int .i64 2))), .m 7 cv, .g 8 7 true (.load bm true 2),(.d 9 7 true kX [cA,(.k (.str [109,97,105,110]))]), .g 10 7 true (.len dv), .g 11 7 true (.bin .eql cj (.k (.int .i64 1))), .o 12 (.pick cf b7 (.k (.bool false))), .m 13 cH, .g 14 13 true (.load bm true 2),(.d 15 13 true me [cW,(.k (.str [112]))]), .g 16 13 true (.len dq), .g 17 13 true (.bin .eql cy (.k (.int .i64 0))), .o 18 (.pick cV dA (.k (.bool false))), .m 0 dE]) .ret)
abbrev XB:AC:= .seq (.run [.o 0 (.mv (.k (.bool false)))]) XA
abbrev XC:AC:= .par [.o 26 (.aE bN 4), .o 27 (.load fQ false 1), .o 28 (.aE bN 2), .o 29 (.load gn false 1), .o 30 (.aE bN 0), .o 31 (.load gV false 1), .m 32 c9, .c 33 eD [gq,gF], .c 34 gh [gp,gQ], .c 35 gh [fx,gW], .m 3 iM] [(4,0),(5,0),(6,0),(7,0),(2,0),(3,1),(8,0),(0,0),(1,2),(9,0),(10,0)]
abbrev XD:AC:= .seq (.seq (.run [.m 36 cv, .o 37 (.aE bN 1), .o 38 (.load jA false 1), .o 39 (.len jW), .o 40 (.bin .lss iN jX), .m 41 ll, .g 42 41 true (.mv c9), .g 43 41 true (.bin .leq ln (.k (.int .i64 20000))), .o 44 (.pick kp kO (.k (.bool false)))]) (.cond lp .skip (.exit 2))) (.seq (.block 3 (.run [.o 47 (.aE bN 1), .o 48 (.load nw false 1), .m 49 cv, .o 50 (.bT ny lq 2), .o 51 (.aE mF 0), .o 52 (.load lP false 1), .m 53 c9, .c 54 eD [lQ,mH], .m 3 nz])) (.run [.m 45 cv, .o 46 (.bin .add mD (.k (.int .i64 1))), .m 6 mE]))
abbrev XE:AC:= .seq (.seq (.run [.o 6 (.mv (.k (.int .i64 0)))]) (.block 2 (.loop XD))) (.run [.o 55 (.aE bN 3), .o 56 (.load oa false 1), .m 57 c9, .c 58 ib [oc,od], .m 3 oe])
abbrev XF:AC:= .seq (.block 1 (.seq (.run [.o 21 (.aE bm 1), .o 22 (.load eh false 1), .m 23 dL, .o 24 (.bT ew ep 5), .o 25 (.load fw true 5), .o 5 (.alloc [(.str []),(.slice .full 0 []),(.slice .full 0 []),(.slice .full 0 []),(.slice .full 0 [])]), .op none none (.store bN e9 5)]) (.seq XC XE))) (.run [.m 19 dL, .o 20 (.bin .add ef (.k (.int .i64 1))), .m 4 eg])
abbrev XG:AC:= .seq (.seq (.run [.m 10 dL, .o 11 (.aE bm 1), .o 12 (.load b7 false 1), .o 13 (.len cH), .o 14 (.bin .lss cj cV), .m 15 cW, .g 16 15 true (.mv c9), .g 17 15 true (.bin .leq cy (.k (.int .i64 20000))), .o 18 (.pick dq dA (.k (.bool false)))]) (.cond dE .skip (.exit 0))) XF
abbrev XH:AC:= .seq (.seq (.run [.o 4 (.mv (.k (.int .i64 0)))]) (.block 0 (.loop XG))) (.seq (.run [.m 59 c9, .o 60 (.bin .leq lR (.k (.int .i64 20000))), .m 2 qa]) .ret)
abbrev XI:AC:= .seq (.run [.o 1 (.box bB), .o 2 (.mv (.k (.bool false)))]) (.seq (.run [.o 7 (.aE bm 0), .o 8 (.load cf false 1), .c 9 gh [cA,(.k (.int .i64 0))], .m 3 dv]) XH)
abbrev XJ:AC:= .cond cA (.seq (.run [.o 4 (.mv (.k (.str [])))]) .ret) .skip
abbrev XK:AC:= .par [.o 9 (.aE di 1), .o 10 (.load dv false 1), .m 11 bm, .o 12 (.aE di 1), .o 13 (.load cH false 1), .o 14 (.len cV), .c 15 sH [b7,cW], .o 16 (.bT cj dq 5), .o 17 (.aE cy 0), .o 18 (.load dA false 1), .m 4 dE] [(2,0),(3,0),(4,0),(5,0),(6,0),(0,0),(1,1),(7,0),(8,0),(9,0),(10,0)]
abbrev XL:AC:= .seq (.seq (.run [.o 5 (.aE di 1), .o 6 (.load bN false 1), .o 7 (.len cv), .o 8 (.bin .eql cf (.k (.int .i64 0)))]) XJ) (.seq XK .ret)
abbrev XM:AC:= .seq (.run [.o 2 (.box bB), .o 4 (.mv (.k (.str [])))]) XL
abbrev XN:AC:= .cond cA (.seq (.run [.o 4 (.mv (.k (.slice .full 0 [])))]) .ret) .skip
abbrev XO:AC:= .seq (.run [.o 2 (.box bB), .o 4 (.mv (.k (.slice .full 0 [])))]) (.seq (.seq (.run [.o 5 (.load di true 2), .m 6 bm, .c 7 kD [bN,cv], .o 8 (.un .not cf)]) XN) (.seq (.run [.o 9 (.load di true 2), .c 10 kn [dv], .m 11 bm, .c 12 mh [cj,b7], .m 4 cH]) .ret))
abbrev XP:AC:= .cond cA (.seq (.run [.o 4 (.mv (.k (.slice .full 0 [])))]) .ret) .skip
abbrev XQ:AC:= .seq (.run [.o 2 (.box bB), .o 4 (.mv (.k (.slice .full 0 [])))]) (.seq (.seq (.run [.o 5 (.load di true 2), .m 6 bm, .c 7 kD [bN,cv], .o 8 (.un .not cf)]) XP) (.seq (.run [.o 9 (.load di true 2), .c 10 kn [dv], .m 11 bm, .c 12 oB [cj,b7], .m 4 cH]) .ret))
abbrev XR:AC:= .cond cy (.seq (.run [.o 4 (.mv (.k (.slice .full 0 [])))]) .ret) .skip
abbrev XS:AC:= .seq (.run [.o 43 (.bT jX kp 1), .o 44 (.load kO false 1), .m 12 lp]) (.seq (.run [.o 45 (.aE di 0), .o 46 (.load mD false 1), .m 47 cH, .c 48 bZ [mE,nw]]) (.cond ny (.run [.m 49 cv, .m 50 cH, .o 51 (.cE [(.str [])] 1 1 [(0,mF)]), .o 52 (.app 1 16 lq lP), .m 6 lQ]) .skip))
abbrev XT:AC:= .seq (.cond ln .skip (.exit 4)) (.seq (.block 5 XS) (.run [.o 53 (.bin .add kp (.k (.int .i64 1))), .m 41 mH]))
abbrev XU:AC:= .seq (.run [.o 37 (.aE cj 0), .o 38 (.load jA true 13), .c 39 nj [jW], .o 40 (.len jX), .o 41 (.mv (.k (.int .i64 0)))]) (.block 4 (.loop (.seq (.run [.o 42 (.bin .lss kp ll)]) XT)))
abbrev XV:AC:= .seq (.block 3 (.seq (.run [.o 35 (.bT gq gQ 17), .o 36 (.load iM true 17), .o 10 (.alloc [(.int .i64 0),(.int .i64 0),(.slice .full 0 []),(.str []),(.str []),(.int .i64 0),(.int .i64 0),(.str []),(.slice .full 0 []),(.bool false),(.slice .full 0 []),(.slice .full 0 []),(.slice .full 0 []),(.int .i64 0),(.int .i64 0),(.int .i64 0),(.int .i64 0)]), .op none none (.store cj iN 17)]) XU)) (.run [.o 54 (.bin .add gQ (.k (.int .i64 1))), .m 33 nz])
abbrev XW:AC:= .block 2 (.loop (.seq (.run [.o 34 (.bin .lss gQ gF)]) (.seq (.cond gW .skip (.exit 2)) XV)))
abbrev XX:AC:= .seq (.run [.o 25 (.bT eh ep 1), .o 26 (.load e9 false 1), .m 8 fQ]) (.seq (.run [.m 27 bN, .m 28 bN, .m 29 cA, .c 30 jM [gn,gp], .c 31 jk [fx,gV], .o 32 (.len gq), .o 33 (.mv (.k (.int .i64 0)))]) XW)
abbrev XY:AC:= .seq (.cond fw .skip (.exit 0)) (.seq (.block 1 XX) (.run [.o 55 (.bin .add ep (.k (.int .i64 1))), .m 23 oa]))
abbrev XZ:AC:= .seq (.run [.m 19 bN, .m 20 bm, .c 21 oB [ef,eg], .o 22 (.len eh), .o 23 (.mv (.k (.int .i64 0)))]) (.block 0 (.loop (.seq (.run [.o 24 (.bin .lss ep ew)]) XY)))
abbrev X0:AC:= .seq (.run [.o 17 (.load di true 2), .c 18 kn [dA], .m 5 dE]) (.seq (.run [.o 6 (.mv (.k (.slice .full 0 [])))]) (.seq XZ (.seq (.run [.m 56 cv, .c 57 gb [oc]]) (.seq (.run [.m 58 cv, .c 59 gv [oe], .m 4 lR]) .ret))))
abbrev X1:AC:= .seq (.run [.o 2 (.box bB), .o 4 (.mv (.k (.slice .full 0 [])))]) (.seq (.seq (.run [.o 13 (.load di true 2), .m 14 bm, .c 15 kD [cV,cW], .o 16 (.un .not dq)]) XR) X0)
abbrev X2:AC:= .seq (.run [(.o 16 (.build [(.int .i64 0),(.int .i64 0)] [(0,(1,(.k (.int .i64 1))))])), .op none none (.store di cy 2)]) .ret
abbrev X3:AC:= .seq (.block 1 (.seq (.run [.o 22 (.bT dE eg 5), .o 23 (.load ew true 5), .o 5 (.alloc [(.str []),(.slice .full 0 []),(.slice .full 0 []),(.slice .full 0 []),(.slice .full 0 [])]), .op none none (.store bN ep 5)]) (.run [.m 24 c9, .o 25 (.aE bN 0), .o 26 (.load e9 false 1), .o 27 (.cE [(.str [])] 1 1 [(0,fQ)]), .o 28 (.app 1 16 fw fx), .m 3 gn]))) (.run [.o 29 (.bin .add eg (.k (.int .i64 1))), .m 20 gp])
abbrev X4:AC:= .block 0 (.loop (.seq (.run [.o 21 (.bin .lss eg ef)]) (.seq (.cond eh .skip (.exit 0)) X3)))
abbrev X5:AC:= .seq (.run [(.o 53 (.build [(.int .i64 0),(.int .i64 0)] [(0,(1,(.k (.int .i64 5))))])), .op none none (.store di mH 2)]) .ret
abbrev X6:AC:= .seq (.run [(.o 73 (.build [(.int .i64 0),(.int .i64 0)] [(0,(1,(.k (.int .i64 5))))])), .op none none (.store di By 2)]) .ret
abbrev X7:AC:= .seq (.run [.o 89 (.aE cH 0), .o 90 (.aE PK 0), .o 91 (.load PN false 1),(.o 92 (.build [(.int .i64 0),(.int .i64 0)] [(0,(1,(.k (.int .i64 5)))),(1,(1,PO))])), .op none none (.store di PQ 2)]) .ret
abbrev X8:AC:= .seq (.block 5 (.seq (.run [.o 80 (.bT ya yc 17), .o 81 (.load JZ true 17), .o 12 (.alloc [(.int .i64 0),(.int .i64 0),(.slice .full 0 []),(.str []),(.str []),(.int .i64 0),(.int .i64 0),(.str []),(.slice .full 0 []),(.bool false),(.slice .full 0 []),(.slice .full 0 []),(.slice .full 0 []),(.int .i64 0),(.int .i64 0),(.int .i64 0),(.int .i64 0)]), .op none none (.store cH J0 17)]) (.seq (.run [.o 82 (.load bm true 2), .o 83 (.load dv true 5), .m 84 c9, .o 85 (.aE cH 0), .o 86 (.load PG true 13), .c 87 mj [J1,J2,PF,PH], .o 88 (.un .not PI)]) (.cond PJ X7 .skip)))) (.run [.o 93 (.bin .add yc (.k (.int .i64 1))), .m 78 Un])
abbrev X9:AC:= .block 4 (.loop (.seq (.run [.o 79 (.bin .lss yc BB)]) (.seq (.cond JY .skip (.exit 4)) X8)))
abbrev Ya:AC:= .seq (.seq (.run [.m 66 cj, .c 67 kE [wg], .m 68 uy, .g 69 68 false (.mv cj), .g 70 68 false (.px 55 [bm]), .d 71 68 false eo [wh,wi], .o 72 (.pick uz (.k (.bool true)) Bx)]) (.cond x9 X6 .skip)) (.seq (.run [.m 74 cf, .m 75 cA, .c 76 jk [Bz,BA], .o 77 (.len ya), .o 78 (.mv (.k (.int .i64 0)))]) X9)
abbrev Yb:AC:= .seq (.block 3 (.seq (.run [.m 61 lR, .o 62 (.bT od lR 5), .o 63 (.load qb true 5), .o 9 (.alloc [(.str []),(.slice .full 0 []),(.slice .full 0 []),(.slice .full 0 []),(.slice .full 0 [])]), .m 8 sJ, .op none none (.store dv rA 5)]) (.seq (.run [.o 64 (.load dv true 5), .c 65 rn [qc], .m 10 rB]) Ya))) (.run [.o 94 (.bin .add lR (.k (.int .i64 1))), .m 59 Uo])
abbrev Yc:AC:= .block 2 (.loop (.seq (.run [.o 60 (.bin .lss lR oe)]) (.seq (.cond qa .skip (.exit 2)) Yb)))
abbrev Yd:AC:= .seq (.seq (.run [.o 56 (.aE bm 1), .o 57 (.load oc false 1), .o 58 (.len od), .o 59 (.mv (.k (.int .i64 0)))]) Yc) (.seq (.run [.o 95 (.build [(.int .i64 0),(.int .i64 0)] []), .op none none (.store di Up 2)]) .ret)
abbrev Ye:AC:= .seq (.seq (.run [.o 32 (.aE bm 0), .o 33 (.load gF false 1), .c 34 kE [gQ], .m 35 gW, .g 36 35 false (.mv c9), .d 37 35 false kE [iN], .o 38 (.pick iM (.k (.bool true)) jA), .m 39 jW, .g 40 39 false (.mv cv), .g 41 39 false (.bin .lss ll (.k (.int .i64 0))), .o 42 (.pick jX (.k (.bool true)) kp), .m 43 ln, .g 44 43 false (.aE bm 1), .g 45 43 false (.load lp false 1), .g 46 43 false (.mv cv), .g 47 43 false (.bT mD mE 5), .g 48 43 false (.aE nw 1), .g 49 43 false (.load ny false 1), .g 50 43 false (.len lq), .g 51 43 false (.bin .gtr mF (.k (.int .i64 0))), .o 52 (.pick kO (.k (.bool true)) lP)]) (.cond lQ X5 .skip)) (.seq (.run [.o 54 (.load bm true 2), .c 55 kn [nz], .m 7 oa]) Yd)
abbrev Yf:AC:= .seq (.seq (.run [.o 17 (.aE bm 1), .o 18 (.load dA false 1), .o 19 (.len dE), .o 20 (.mv (.k (.int .i64 0)))]) X4) (.seq (.run [.m 30 c9,(.c 31 fV [gV,(.k (.str [109,97,105,110]))]), .m 6 gq]) Ye)
abbrev Yg:AC:= .seq (.seq (.run [.o 13 (.load bm true 2), .c 14 pE [cV], .o 15 (.un .not cW)]) (.cond dq X2 .skip)) (.seq (.run [.o 3 (.mv (.k (.slice .full 0 [])))]) Yf)
abbrev Yh:AC:= .seq (.run [.o 1 (.box bB), .o 2 (.alloc [(.int .i64 0),(.int .i64 0)])]) Yg
abbrev Yi:AC:= .cond b7 (.seq (.run [.o 12 (.build [(.str []),(.slice .full 0 []),(.slice .full 0 []),(.slice .full 0 []),(.slice .full 0 [])] []), .op none none (.store dL cH 5), .o 5 (.mv (.k (.bool false)))]) .ret) .skip
abbrev Yj:AC:= .cond e9 (.seq (.run [.o 26 (.load cA true 5), .op none none (.store dL fQ 5), .o 5 (.mv (.k (.bool true)))]) .ret) .skip
abbrev Yk:AC:= .seq (.block 1 (.seq (.run [.o 20 (.bT cy dE 5), .o 21 (.load eg true 5), .o 8 (.alloc [(.str []),(.slice .full 0 []),(.slice .full 0 []),(.slice .full 0 []),(.slice .full 0 [])]), .op none none (.store cA eh 5)]) (.seq (.run [.o 22 (.aE cA 0), .o 23 (.load ew false 1), .m 24 bm, .o 25 (.bin .eql ep fw)]) Yj))) (.run [.o 27 (.bin .add dE (.k (.int .i64 1))), .m 18 fx])
abbrev Yl:AC:= .block 0 (.loop (.seq (.run [.o 19 (.bin .lss dE dA)]) (.seq (.cond ef .skip (.exit 0)) Yk)))
abbrev Ym:AC:= .seq (.seq (.run [.o 15 (.aE cv 1), .o 16 (.load dq false 1), .o 17 (.len cy), .o 18 (.mv (.k (.int .i64 0)))]) Yl) (.seq (.run [.o 28 (.build [(.str []),(.slice .full 0 []),(.slice .full 0 []),(.slice .full 0 []),(.slice .full 0 [])] []), .op none none (.store dL gn 5), .o 5 (.mv (.k (.bool false)))]) .ret)
abbrev Yn:AC:= .seq (.run [.o 2 (.box bB), .o 4 (.alloc [(.str []),(.slice .full 0 []),(.slice .full 0 []),(.slice .full 0 []),(.slice .full 0 [])]), .o 5 (.mv (.k (.bool false)))]) (.seq (.seq (.run [.o 9 (.load di true 2), .c 10 pE [dv], .o 11 (.un .not cj)]) Yi) (.seq (.run [.o 13 (.load di true 2), .c 14 ml [cV], .o 6 (.alloc [(.slice .full 0 []),(.slice .full 0 [])]), .op none none (.store cv cW 2)]) Ym))
abbrev Yo:AC:= .seq (.run [.o 1 (.box bB), .o 2 (.mv (.k (.slice .full 0 [])))]) (.seq (.run [.o 3 (.aE bm 3), .o 4 (.load c9 false 1),(.c 5 jx [dL,(.k (.int .i64 1)),(.k (.int .i64 0)),(.k (.bool false)),(.k (.slice .full 0 []))]), .m 2 bN]) .ret)
abbrev Yp:AC:= .seq (.seq (.run [.o 31 (.aE bN 0), .o 32 (.load gq false 1)]) (.cond gF (.run [.m 33 c9, .o 34 (.aE bN 1), .o 35 (.load gW false 1), .o 36 (.cE [(.str [])] 1 1 [(0,iM)]), .o 37 (.app 1 16 gQ iN), .m 3 jA]) .skip)) (.run [.m 38 c9, .o 39 (.aE bN 2), .o 40 (.load jX true 4), .c 41 nk [ll], .o 42 (.app 1 16 jW kp), .m 3 ln])
abbrev Yq:AC:= .seq (.block 1 (.seq (.run [.o 29 (.bT e9 fx 6), .o 30 (.load gp true 6), .o 5 (.alloc [(.bool false),(.str []),(.int .i64 0),(.int .i64 0),(.str []),(.slice .full 0 [])]), .op none none (.store bN gV 6)]) Yp)) (.run [.o 43 (.bin .add fx (.k (.int .i64 1))), .m 27 kO])
abbrev Yr:AC:= .block 0 (.loop (.seq (.run [.o 28 (.bin .lss fx fQ)]) (.seq (.cond gn .skip (.exit 0)) Yq)))
abbrev Ys:AC:= .seq (.seq (.run [.o 24 (.aE bm 10), .o 25 (.load fw false 1), .o 26 (.len e9), .o 27 (.mv (.k (.int .i64 0)))]) Yr) (.seq (.run [.m 44 c9, .m 2 lp]) .ret)
abbrev Yt:AC:= .seq (.seq (.run [.o 6 (.aE bm 3), .o 7 (.load cv false 1), .o 8 (.bin .neq cf (.k (.str []))), .m 9 cA, .g 10 9 true (.aE bm 1), .g 11 9 true (.load cj false 1), .g 12 9 true (.bin .neq b7 (.k (.int .i64 10))), .o 13 (.pick dv cH (.k (.bool false)))]) (.cond cV (.run [.m 14 c9, .o 15 (.aE bm 3), .o 16 (.load dq false 1), .o 17 (.cE [(.str [])] 1 1 [(0,cy)]), .o 18 (.app 1 16 cW dA), .m 3 dE]) .skip)) (.seq (.run [.m 19 c9, .o 20 (.aE bm 5), .o 21 (.load eg true 4), .c 22 nk [eh], .o 23 (.app 1 16 ef ew), .m 3 ep]) Ys)
abbrev Yu:AC:= .seq (.run [.o 1 (.box bB), .o 2 (.mv (.k (.slice .full 0 [])))]) (.seq (.run [.o 3 (.mv (.k (.slice .full 0 [])))]) Yt)
abbrev Yv:AC:= .cond cy (.seq (.run [.o 4 (.mv (.k (.bool true)))]) .ret) .skip
abbrev Yw:AC:= .seq (.block 1 (.seq (.run [.m 10 cA, .m 5 cj]) (.seq (.run [.m 11 bB, .m 12 bN, .o 13 (.bT b7 cH 1), .o 14 (.load cV false 1), .m 15 bm, .o 16 (.bin .eql cW dq)]) Yv))) (.run [.o 17 (.bin .add cA (.k (.int .i64 1))), .m 8 dA])
abbrev Yx:AC:= .block 0 (.loop (.seq (.run [.o 9 (.bin .lss cA cf)]) (.seq (.cond dv .skip (.exit 0)) Yw)))
abbrev Yy:AC:= .seq (.seq (.run [.m 6 bB, .o 7 (.len cv), .o 8 (.mv (.k (.int .i64 0)))]) Yx) (.seq (.run [.o 4 (.mv (.k (.bool false)))]) .ret)
abbrev Yz:AC:= .seq (.run [.o 4 (.mv (.k (.bool false)))]) Yy
abbrev YA:AC:= .cond cy (.seq (.run [.o 4 (.mv (.k (.bool false)))]) .ret) .skip
abbrev YB:AC:= .seq (.block 1 (.seq (.run [.o 11 (.bT cf dv 1), .o 12 (.load b7 false 1), .m 6 cH]) (.seq (.run [.m 13 bm, .m 14 cv, .c 15 qF [cV,cW], .o 16 (.un .not dq)]) YA))) (.run [.o 17 (.bin .add dv (.k (.int .i64 1))), .m 9 dA])
abbrev YC:AC:= .block 0 (.loop (.seq (.run [.o 10 (.bin .lss dv cA)]) (.seq (.cond cj .skip (.exit 0)) YB)))
abbrev YD:AC:= .seq (.seq (.run [.m 7 bB, .o 8 (.len cf), .o 9 (.mv (.k (.int .i64 0)))]) YC) (.seq (.run [.o 4 (.mv (.k (.bool true)))]) .ret)
abbrev YE:AC:= .seq (.run [.o 4 (.mv (.k (.bool false)))]) YD
abbrev YF:AC:= .cond ep (.seq (.run [.o 2 (.mv (.k (.bool false)))]) .ret) .skip
abbrev YG:AC:= .run [.o 33 (.aE bN 1), .o 34 (.load gQ false 1), .o 35 (.len gW), .o 36 (.bin .gtr iM (.k (.int .i64 8))), .m 37 iN, .g 38 37 false (.aE bN 2), .g 39 37 false (.load jW false 1), .g 40 37 false (.len jX), .g 41 37 false (.bin .gtr ll (.k (.int .i64 16))), .o 42 (.pick jA (.k (.bool true)) kp), .m 43 ln, .g 44 43 false (.aE bN 0), .g 45 43 false (.load lp false 1), .d 46 43 false ko [mD], .g 47 43 false (.un .not mE), .o 48 (.pick kO (.k (.bool true)) nw), .m 49 ny, .g 50 49 false (.aE bN 2), .g 51 49 false (.load mF false 1), .d 52 49 false jV [lP], .g 53 49 false (.un .not lQ), .o 54 (.pick lq (.k (.bool true)) mH), .m 55 nz, .g 56 55 false (.aE bN 4), .g 57 55 false (.load oc false 1), .d 58 55 false jV [od], .g 59 55 false (.un .not oe), .o 60 (.pick oa (.k (.bool true)) lR)]
abbrev YH:AC:= .cond qa (.seq (.run [.o 2 (.mv (.k (.bool false)))]) .ret) .skip
abbrev YI:AC:= .cond Bx (.seq (.run [.o 2 (.mv (.k (.bool false)))]) .ret) .skip
abbrev YJ:AC:= .seq (.block 3 (.seq (.run [.o 66 (.bT qb qc 2), .o 67 (.load wg true 2), .o 7 (.alloc [(.str []),(.bool false)]), .op none none (.store cf uy 2)]) (.seq (.run [.o 68 (.aE cf 0), .o 69 (.load uz false 1), .c 70 ko [wh], .o 71 (.un .not wi)]) YI))) (.run [.o 72 (.bin .add qc (.k (.int .i64 1))), .m 64 x9])
abbrev YK:AC:= .block 2 (.loop (.seq (.run [.o 65 (.bin .lss qc rA)]) (.seq (.cond rB .skip (.exit 2)) YJ)))
abbrev YL:AC:= .cond BB (.seq (.run [.o 2 (.mv (.k (.bool false)))]) .ret) .skip
abbrev YM:AC:= .seq (.seq (.run [.o 61 (.aE bN 1), .o 62 (.load sJ false 1), .o 63 (.len qb), .o 64 (.mv (.k (.int .i64 0)))]) YK) (.seq (.run [.m 73 c9, .o 74 (.aE bN 3), .o 75 (.load Bz false 1), .c 76 gP [By,BA,(.k (.int .i64 1))], .o 77 (.un .not ya)]) YL)
abbrev YN:AC:= .seq (.block 1 (.seq (.run [.o 31 (.bT fx gp 5), .o 32 (.load gq true 5), .o 5 (.alloc [(.str []),(.slice .full 0 []),(.slice .full 0 []),(.slice .full 0 []),(.slice .full 0 [])]), .op none none (.store bN gF 5)]) (.seq (.seq YG YH) YM))) (.run [.o 78 (.bin .add gp (.k (.int .i64 1))), .m 29 yc])
abbrev YO:AC:= .block 0 (.loop (.seq (.run [.o 30 (.bin .lss gp gn)]) (.seq (.cond gV .skip (.exit 0)) YN)))
abbrev YP:AC:= .seq (.seq (.run [.o 26 (.aE bm 1), .o 27 (.load fQ false 1), .o 28 (.len fx), .o 29 (.mv (.k (.int .i64 0)))]) YO) (.seq (.run [.o 2 (.mv (.k (.bool true)))]) .ret)
abbrev YQ:AC:= .seq (.seq (.run [.o 8 (.aE bm 0), .o 9 (.load cA false 1), .o 10 (.len dv), .o 11 (.bin .gtr cj (.k (.int .i64 16))), .m 12 b7, .g 13 12 false (.aE bm 1), .g 14 12 false (.load cV false 1), .g 15 12 false (.len cW), .g 16 12 false (.bin .gtr dq (.k (.int .i64 16))), .o 17 (.pick cH (.k (.bool true)) cy), .m 18 dA, .g 19 18 false (.aE bm 0), .g 20 18 false (.load ef false 1), .d 21 18 false jV [eg], .g 22 18 false (.un .not eh), .o 23 (.pick dE (.k (.bool true)) ew)]) YF) (.seq (.run [.o 24 (.build [(.int .i64 0)] []), .o 25 (.box fw), .m 3 e9]) YP)
abbrev YR:AC:= .seq (.run [.o 1 (.box bB), .o 2 (.mv (.k (.bool false)))]) YQ
abbrev YS:AC:= .run [(.o 3 (.cE [(.str [])] 1 1 [(0,(.k (.str [118])))])), .c 4 nn [(.k (.int .i64 2))],(.o 5 (.build [(.int .i64 0),(.int .i64 0),(.slice .full 0 []),(.str []),(.str []),(.int .i64 0),(.int .i64 0),(.str []),(.slice .full 0 []),(.bool false),(.slice .full 0 []),(.slice .full 0 []),(.slice .full 0 [])] [(0,(1,(.k (.int .i64 1)))),(1,(1,(.k (.int .i64 1)))),(3,(1,(.k (.str [118])))),(5,(4,dL))])), .c 6 nn [(.k (.int .i64 3))], .o 7 (.build [(.bool false),(.str []),(.int .i64 0),(.int .i64 0),(.str []),(.slice .full 0 [])] [(2,(4,cv))]),(.o 8 (.build [(.bool false),(.str []),(.int .i64 0),(.int .i64 0),(.str []),(.slice .full 0 [])] [(0,(1,(.k (.bool true)))),(1,(1,(.k (.str [118]))))])), .o 9 (.cE [(.bool false),(.str []),(.int .i64 0),(.int .i64 0),(.str []),(.slice .full 0 [])] 6 2 [(0,cf),(1,cA)]),(.o 10 (.build [(.int .i64 0),(.int .i64 0),(.slice .full 0 []),(.str []),(.str []),(.int .i64 0),(.int .i64 0),(.str []),(.slice .full 0 []),(.bool false),(.slice .full 0 []),(.slice .full 0 []),(.slice .full 0 [])] [(0,(1,(.k (.int .i64 2)))),(1,(1,(.k (.int .i64 4)))),(3,(1,(.k (.str [103])))),(4,(1,(.k (.str [112])))),(10,(1,dv))])),(.c 11 ix [(.k (.str [118]))]),(.o 12 (.build [(.int .i64 0),(.int .i64 0),(.slice .full 0 []),(.str []),(.str []),(.int .i64 0),(.int .i64 0),(.str []),(.slice .full 0 []),(.bool false),(.slice .full 0 []),(.slice .full 0 []),(.slice .full 0 [])] [(0,(1,(.k (.int .i64 3)))),(1,(1,(.k (.int .i64 3)))),(5,(4,b7))])),(.c 13 ix [(.k (.str [103]))]),(.o 14 (.build [(.int .i64 0),(.int .i64 0),(.slice .full 0 []),(.str []),(.str []),(.int .i64 0),(.int .i64 0),(.str []),(.slice .full 0 []),(.bool false),(.slice .full 0 []),(.slice .full 0 []),(.slice .full 0 [])] [(0,(1,(.k (.int .i64 4)))),(1,(1,(.k (.int .i64 3)))),(5,(4,cV))])), .o 15 (.cE [(.int .i64 0),(.int .i64 0),(.slice .full 0 []),(.str []),(.str []),(.int .i64 0),(.int .i64 0),(.str []),(.slice .full 0 []),(.bool false),(.slice .full 0 []),(.slice .full 0 []),(.slice .full 0 [])] 13 4 [(0,bN),(1,cj),(2,cH),(3,cW)]),(.o 16 (.build [(.str []),(.slice .full 0 []),(.slice .full 0 []),(.slice .full 0 []),(.slice .full 0 [])] [(0,(1,(.k (.str [109,97,105,110])))),(2,(1,c9)),(3,(1,dq))])), .o 1 (.alloc [(.str []),(.slice .full 0 []),(.slice .full 0 []),(.slice .full 0 []),(.slice .full 0 [])]), .op none none (.store bm cy 5)]
abbrev YT:AC:= .run [(.o 17 (.build [(.str []),(.bool false)] [(0,(1,(.k (.str [120]))))])),(.o 18 (.build [(.str []),(.bool false)] [(0,(1,(.k (.str [121])))),(1,(1,(.k (.bool true))))])), .o 19 (.cE [(.str []),(.bool false)] 2 2 [(0,dA),(1,dE)]),(.o 20 (.cE [(.str [])] 1 1 [(0,(.k (.str [101])))])),(.c 21 ix [(.k (.str [121]))]),(.c 22 ix [(.k (.str [120]))]), .c 23 pF [(.k (.int .i64 8)),eh,ew],(.o 24 (.build [(.int .i64 0),(.int .i64 0),(.slice .full 0 []),(.str []),(.str []),(.int .i64 0),(.int .i64 0),(.str []),(.slice .full 0 []),(.bool false),(.slice .full 0 []),(.slice .full 0 []),(.slice .full 0 [])] [(0,(1,(.k (.int .i64 5)))),(1,(1,(.k (.int .i64 1)))),(3,(1,(.k (.str [121])))),(5,(4,ep))])),(.c 25 ix [(.k (.str [121]))]), .c 26 nn [(.k (.int .i64 9))], .c 27 pF [(.k (.int .i64 12)),e9,fQ],(.o 28 (.build [(.int .i64 0),(.int .i64 0),(.slice .full 0 []),(.str []),(.str []),(.int .i64 0),(.int .i64 0),(.str []),(.slice .full 0 []),(.bool false),(.slice .full 0 []),(.slice .full 0 []),(.slice .full 0 [])] [(0,(1,(.k (.int .i64 7)))),(1,(1,(.k (.int .i64 10)))),(3,(1,(.k (.str [101]))))])), .o 29 (.cE [(.int .i64 0),(.int .i64 0),(.slice .full 0 []),(.str []),(.str []),(.int .i64 0),(.int .i64 0),(.str []),(.slice .full 0 []),(.bool false),(.slice .full 0 []),(.slice .full 0 []),(.slice .full 0 [])] 13 1 [(0,gn)]),(.o 30 (.build [(.int .i64 0),(.int .i64 0),(.slice .full 0 []),(.str []),(.str []),(.int .i64 0),(.int .i64 0),(.str []),(.slice .full 0 []),(.bool false),(.slice .full 0 []),(.slice .full 0 []),(.slice .full 0 [])] [(0,(1,(.k (.int .i64 6)))),(1,(1,(.k (.int .i64 5)))),(5,(4,fx)),(11,(1,gp))])),(.c 31 ix [(.k (.str [121]))]),(.o 32 (.build [(.int .i64 0),(.int .i64 0),(.slice .full 0 []),(.str []),(.str []),(.int .i64 0),(.int .i64 0),(.str []),(.slice .full 0 []),(.bool false),(.slice .full 0 []),(.slice .full 0 []),(.slice .full 0 [])] [(0,(1,(.k (.int .i64 8)))),(1,(1,(.k (.int .i64 9)))),(9,(1,(.k (.bool true)))),(5,(4,gq))])), .o 33 (.cE [(.int .i64 0),(.int .i64 0),(.slice .full 0 []),(.str []),(.str []),(.int .i64 0),(.int .i64 0),(.str []),(.slice .full 0 []),(.bool false),(.slice .full 0 []),(.slice .full 0 []),(.slice .full 0 [])] 13 3 [(0,fw),(1,gV),(2,gF)]),(.o 34 (.build [(.str []),(.slice .full 0 []),(.slice .full 0 []),(.slice .full 0 []),(.slice .full 0 [])] [(0,(1,(.k (.str [112])))),(1,(1,ef)),(4,(1,eg)),(3,(1,gQ))])), .o 2 (.alloc [(.str []),(.slice .full 0 []),(.slice .full 0 []),(.slice .full 0 []),(.slice .full 0 [])]), .op none none (.store di gW 5)]
abbrev YU:AC:= .seq (.run [(.o 35 (.cE [(.str [])] 1 1 [(0,(.k (.str [103])))])), .o 36 (.load bm true 5), .o 37 (.load di true 5), .o 38 (.cE [(.str []),(.slice .full 0 []),(.slice .full 0 []),(.slice .full 0 []),(.slice .full 0 [])] 5 2 [(0,iN),(1,jA)]), .o 39 (.build [(.slice .full 0 []),(.slice .full 0 [])] [(0,(1,iM)),(1,(1,jW))]), .op none none (.store bB jX 2)]) .ret
abbrev YV:AC:= .seq (.run [.o 0 (.alloc [(.slice .full 0 []),(.slice .full 0 [])])]) (.seq YS (.seq YT YU))
abbrev YW:AC:= .seq (.seq (.run [.m 6 bN, .m 7 bB, .o 8 (.len cf), .o 9 (.bin .lss cv cA), .m 10 dv, .g 11 10 true (.mv bm), .g 12 10 true (.bin .leq b7 (.k (.int .i64 20000))), .o 13 (.pick cj cH (.k (.bool false)))]) (.cond cV .skip (.exit 0))) (.seq (.block 1 (.run [.m 16 bB, .m 17 bN, .o 18 (.bT cy dA 1), .o 19 (.load dE false 1), .m 20 bm, .c 21 eD [ef,eg], .m 1 eh])) (.run [.m 14 bN, .o 15 (.bin .add cW (.k (.int .i64 1))), .m 5 dq]))
abbrev YX:AC:= .seq (.seq (.run [.o 5 (.mv (.k (.int .i64 0)))]) (.block 0 (.loop YW))) (.seq (.run [.m 22 bm, .m 4 ew]) .ret)
abbrev YY:AC:= .seq (.run [.o 4 (.mv (.k (.int .i64 0)))]) YX
abbrev YZ:AC:= .cond cV (.seq (.run [.o 4 (.mv (.k (.int .i64 20001)))]) .ret) .skip
abbrev Y0:AC:= .seq (.seq (.run [.m 5 bm, .o 6 (.bin .gtr bN (.k (.int .i64 20000))), .m 7 cv, .g 8 7 false (.mv bB), .g 9 7 false (.nV cA), .g 10 7 false (.mv bm), .g 11 7 false (.bin .sub (.k (.int .i64 20000)) cj), .g 12 7 false (.bin .geq dv b7), .o 13 (.pick cf (.k (.bool true)) cH)]) YZ) (.seq (.run [.m 14 bm, .o 15 (.bin .add cW (.k (.int .i64 1))), .m 16 bB, .o 17 (.nV cy), .o 18 (.bin .add dq dA), .m 4 dE]) .ret)
abbrev Y1:AC:= .seq (.run [.o 4 (.mv (.k (.int .i64 0)))]) Y0
abbrev Y2:AC:= .par [.o 22 (.aE cv 4), .o 23 (.load ew false 1), .o 24 (.aE cv 3), .o 25 (.load fw false 1), .o 26 (.aE cv 2), .o 27 (.load fQ false 1), .o 28 (.aE cv 5), .o 29 (.load gn true 4), .m 30 bm, .c 31 gD [gp,gV], .c 32 gh [fx,gq], .c 33 eD [e9,gF], .c 34 eD [ep,gQ], .m 1 gW] [(6,0),(7,0),(8,0),(9,0),(4,0),(5,1),(10,0),(2,0),(3,2),(11,0),(0,0),(1,3),(12,0),(13,0)]
abbrev Y3:AC:= .par [.o 46 (.aE cv 10), .o 47 (.load mE false 1), .m 48 cf, .o 49 (.bT nw ny 6), .o 50 (.aE lq 1), .o 51 (.load mF false 1), .o 52 (.aE cv 10), .o 53 (.load lQ false 1), .m 54 cf, .o 55 (.bT mH nz 6), .o 56 (.aE oa 2), .o 57 (.load oc true 4), .m 58 bm, .c 59 gD [od,oe], .c 60 eD [lP,lR], .m 1 qa] [(6,0),(7,0),(8,0),(9,0),(10,0),(11,0),(12,0),(13,0),(0,0),(1,1),(2,0),(3,0),(4,0),(5,1),(14,0),(15,0)]
abbrev Y4:AC:= .seq (.seq (.run [.m 35 cf, .o 36 (.aE cv 10), .o 37 (.load iN false 1), .o 38 (.len jA), .o 39 (.bin .lss iM jW), .m 40 jX, .g 41 40 true (.mv bm), .g 42 40 true (.bin .leq kp (.k (.int .i64 20000))), .o 43 (.pick ll ln (.k (.bool false)))]) (.cond kO .skip (.exit 2))) (.seq (.block 3 Y3) (.run [.m 44 cf, .o 45 (.bin .add lp (.k (.int .i64 1))), .m 7 mD]))
abbrev Y5:AC:= .par [.o 61 (.aE cv 12), .o 62 (.load sJ false 1), .o 63 (.aE cv 11), .o 64 (.load rA false 1), .m 65 bm, .c 66 ib [qc,rB], .c 67 ib [qb,wg], .m 1 uy] [(2,0),(3,0),(4,0),(5,0),(0,0),(1,1),(6,0),(7,0)]
abbrev Y6:AC:= .seq (.seq (.run [.o 7 (.mv (.k (.int .i64 0)))]) (.block 2 (.loop Y4))) Y5
abbrev Y7:AC:= .seq (.block 1 (.seq (.run [.m 18 bB, .m 19 bN, .o 20 (.bT dE ef 13), .o 21 (.load eg true 13), .o 6 (.alloc [(.int .i64 0),(.int .i64 0),(.slice .full 0 []),(.str []),(.str []),(.int .i64 0),(.int .i64 0),(.str []),(.slice .full 0 []),(.bool false),(.slice .full 0 []),(.slice .full 0 []),(.slice .full 0 [])]), .op none none (.store cv eh 13)]) (.seq Y2 Y6))) (.run [.m 16 bN, .o 17 (.bin .add cy (.k (.int .i64 1))), .m 5 dA])
abbrev Y8:AC:= .seq (.seq (.run [.m 8 bN, .m 9 bB, .o 10 (.len dv), .o 11 (.bin .lss cA cj), .m 12 b7, .g 13 12 true (.mv bm), .g 14 12 true (.bin .leq cV (.k (.int .i64 20000))), .o 15 (.pick cH cW (.k (.bool false)))]) (.cond dq .skip (.exit 0))) Y7
abbrev Y9:AC:= .seq (.seq (.run [.o 5 (.mv (.k (.int .i64 0)))]) (.block 0 (.loop Y8))) (.seq (.run [.m 68 bm, .m 4 uz]) .ret)
abbrev Za:AC:= .seq (.run [.o 4 (.mv (.k (.int .i64 0)))]) Y9
abbrev Zb:AC:= .cond cv (.seq (.run [.o 4 (.mv (.k (.int .i64 0)))]) .ret) .skip
abbrev Zc:AC:= .seq (.seq (.run [.m 10 bB, .o 11 (.bin .lss cj (.k (.int .i64 0)))]) (.cond b7 (.seq (.run [.m 12 bB, .m 13 bm, .o 14 (.bin .add cH cV), .m 4 cW]) .ret) .skip)) (.seq (.run [.m 15 bB, .m 4 dq]) .ret)
abbrev Zd:AC:= .seq (.seq (.run [.m 5 bm, .o 6 (.bin .lss bN (.k (.int .i64 1)))]) Zb) (.seq (.run [.m 7 bB, .m 8 bm, .o 9 (.bin .rem cf cA), .m 0 dv]) Zc)
abbrev Ze:AC:= .seq (.run [.o 4 (.mv (.k (.int .i64 0)))]) Zd
abbrev Zf:AC:= .seq (.run [.o 2 (.box bB), .o 3 (.box bm), .o 4 (.mv (.k (.bool false)))]) (.seq (.run [.o 5 (.load di true 2), .c 6 mf [bN], .o 7 (.AB cv 0 false 1), .o 8 (.bin .eql cf (.k (.int .i64 0))), .m 9 cA, .g 10 9 true (.aE di 1), .g 11 9 true (.load cj false 1), .g 12 9 true (.px 77 [c9]), .d 13 9 true e7 [b7,cH], .o 14 (.pick dv cV (.k (.bool false))), .m 4 cW]) .ret)
abbrev Zg:AC:= .seq (.run [.o 16 (.bT cH cW 17), .o 17 (.load cy true 17), .o 7 (.alloc [(.int .i64 0),(.int .i64 0),(.slice .full 0 []),(.str []),(.str []),(.int .i64 0),(.int .i64 0),(.str []),(.slice .full 0 []),(.bool false),(.slice .full 0 []),(.slice .full 0 []),(.slice .full 0 []),(.int .i64 0),(.int .i64 0),(.int .i64 0),(.int .i64 0)]), .op none none (.store cf dA 17)]) (.seq (.run [.o 18 (.aE cf 0), .o 19 (.aE dE 1), .o 20 (.load ef false 1), .o 21 (.bin .eql eg (.k (.int .i64 4)))]) (.cond eh (.run [.m 22 bN, .o 23 (.aE cf 0), .o 24 (.aE ep 4), .o 25 (.load fw false 1), .o 26 (.cE [(.str [])] 1 1 [(0,e9)]), .o 27 (.app 1 16 ew fQ), .m 5 fx]) .skip))
abbrev Zh:AC:= .seq (.cond dq .skip (.exit 0)) (.seq (.block 1 Zg) (.run [.o 28 (.bin .add cW (.k (.int .i64 1))), .m 14 gn]))
abbrev Zi:AC:= .seq (.run [.m 8 bB, .m 9 bB, .m 10 bm, .c 11 jM [dv,cj], .c 12 jk [cA,b7], .o 13 (.len cH), .o 14 (.mv (.k (.int .i64 0)))]) (.block 0 (.loop (.seq (.run [.o 15 (.bin .lss cW cV)]) Zh)))
abbrev Zj:AC:= .seq (.run [.o 4 (.mv (.k (.slice .full 0 [])))]) (.seq (.run [.o 5 (.mv (.k (.slice .full 0 [])))]) (.seq Zi (.seq (.run [.m 29 bN, .c 30 gb [gp]]) (.seq (.run [.m 31 bN, .c 32 gv [gq], .m 4 gF]) .ret))))
abbrev Zk:AC:= .par [.m 17 c9, .m 18 c9, .o 19 (.gu dE), .o 20 (.aE ef 3), .o 21 (.load eg false 1), .m 22 c9, .o 23 (.gu ew), .o 24 (.aE ep 2), .o 25 (.load fw false 1), .o 26 (.len e9), .o 27 (.bin .add fQ (.k (.int .i64 1))), .o 28 (.cE [(.int .i64 0)] 1 1 [(0,fx)]), .o 29 (.app 1 8 eh gn), .o 30 (.gu dA), .o 31 (.aE gV 3), .op none none (.store gq gp 1)] [(1,0),(2,0),(3,0),(4,0),(5,0),(6,0),(7,0),(8,0),(9,0),(10,0),(11,0),(12,0),(0,0),(13,0),(14,0),(15,0)]
abbrev Zl:AC:= .par [.m 38 c9, .m 39 c9, .o 40 (.gu jX), .o 41 (.aE ll 4), .o 42 (.load kp false 1), .m 43 c9, .o 44 (.gu kO), .o 45 (.aE lp 2), .o 46 (.load mD false 1), .o 47 (.len mE), .o 48 (.bin .add nw (.k (.int .i64 1))), .o 49 (.cE [(.int .i64 0)] 1 1 [(0,ny)]), .o 50 (.app 1 8 ln lq), .o 51 (.gu jW), .o 52 (.aE lP 4), .op none none (.store lQ mF 1)] [(1,0),(2,0),(3,0),(4,0),(5,0),(6,0),(7,0),(8,0),(9,0),(10,0),(11,0),(12,0),(0,0),(13,0),(14,0),(15,0)]
abbrev Zm:AC:= .seq (.run [.m 32 c9, .o 33 (.aE bN 3), .o 34 (.load gQ false 1), .m 35 dL,(.o 36 (.build [(.int .i64 0),(.int .i64 0),(.slice .full 0 []),(.str []),(.str []),(.int .i64 0),(.int .i64 0),(.str []),(.slice .full 0 []),(.bool false),(.slice .full 0 []),(.slice .full 0 []),(.slice .full 0 []),(.int .i64 0),(.int .i64 0),(.int .i64 0),(.int .i64 0)] [(13,(1,iM)),(15,(1,(.k (.int .i64 (-1)))))])), .c 37 gE [gF,gW,iN]]) Zl
abbrev Zn:AC:= .seq (.block 1 (.seq (.run [.m 14 cH, .o 15 (.bT cj cH 5), .o 16 (.load dq true 5), .o 5 (.alloc [(.str []),(.slice .full 0 []),(.slice .full 0 []),(.slice .full 0 []),(.slice .full 0 [])]), .m 4 cW, .op none none (.store bN cy 5)]) (.seq Zk Zm))) (.run [.o 53 (.bin .add cH (.k (.int .i64 1))), .m 12 mH])
abbrev Zo:AC:= .block 0 (.loop (.seq (.run [.o 13 (.bin .lss cH b7)]) (.seq (.cond cV .skip (.exit 0)) Zn)))
abbrev Zp:AC:= .seq (.seq (.run [.o 9 (.aE bm 1), .o 10 (.load dv false 1), .o 11 (.len cj), .o 12 (.mv (.k (.int .i64 0)))]) Zo) (.seq (.run [.m 54 c9, .m 2 nz]) .ret)
abbrev Zq:AC:= .seq (.run [.o 1 (.box bB), .o 2 (.mv (.k .dY))]) (.seq (.run [.o 6 (.load bm true 2), .o 7 (.build [(.slice .full 0 []),(.slice .full 0 []),(.slice .full 0 []),(.slice .full 0 []),(.slice .full 0 [])] [(0,(2,cv))]), .o 8 (.box cf), .m 3 cA]) Zp)
end Go.Abs

/-! Have0 -/

namespace Go.Abs
open Go.Proofs
theorem kP:Has Tryz.prog pk 84 [(4,none)] Xz:=⟨Tryz.f4,by kernel_rfl,by kernel_rfl⟩
theorem vm:Has Tryz.prog ni 19 [(0,none)] XB:=⟨Tryz.f6,by kernel_rfl,by kernel_rfl⟩
theorem zW:Has Tryz.prog rj 61 [(2,none)] XI:=⟨Tryz.f7,by kernel_rfl,by kernel_rfl⟩
theorem qG:Has Tryz.prog o6 19 [(4,none)] XM:=⟨Tryz.f8,by kernel_rfl,by kernel_rfl⟩
theorem qH:Has Tryz.prog me 13 [(4,none)] XO:=⟨Tryz.f10,by kernel_rfl,by kernel_rfl⟩
theorem tf:Has Tryz.prog oA 13 [(4,none)] XQ:=⟨Tryz.f12,by kernel_rfl,by kernel_rfl⟩
theorem po:Has Tryz.prog kX 60 [(4,none)] X1:=⟨Tryz.f14,by kernel_rfl,by kernel_rfl⟩
theorem qI:Has Tryz.prog mf 96 [(2,(some (true,2)))] Yh:=⟨Tryz.f16,by kernel_rfl,by kernel_rfl⟩
theorem rX:Has Tryz.prog pZ 29 [(4,(some (true,5))),(5,none)] Yn:=⟨Tryz.f17,by kernel_rfl,by kernel_rfl⟩
theorem zX:Has Tryz.prog rk 6 [(2,none)] Yo:=⟨Tryz.f18,by kernel_rfl,by kernel_rfl⟩
theorem zY:Has Tryz.prog rl 45 [(2,none)] Yu:=⟨Tryz.f19,by kernel_rfl,by kernel_rfl⟩
theorem CF:Has Tryz.prog qF 18 [(4,none)] Yz:=⟨Tryz.f20,by kernel_rfl,by kernel_rfl⟩
theorem xb:Has Tryz.prog mg 18 [(4,none)] YE:=⟨Tryz.f21,by kernel_rfl,by kernel_rfl⟩
theorem BD:Has Tryz.prog pE 79 [(2,none)] YR:=⟨Tryz.f25,by kernel_rfl,by kernel_rfl⟩
theorem zZ:Has Tryz.prog rm 40 [(0,(some (true,2)))] YV:=⟨Tryz.f31,by kernel_rfl,by kernel_rfl⟩
theorem tz:Has Tryz.prog gh 23 [(4,none)] YY:=⟨Tryz.f32,by kernel_rfl,by kernel_rfl⟩
theorem lr:Has Tryz.prog eD 19 [(4,none)] Y1:=⟨Tryz.f33,by kernel_rfl,by kernel_rfl⟩
theorem nU:Has Tryz.prog ib 69 [(4,none)] Za:=⟨Tryz.f34,by kernel_rfl,by kernel_rfl⟩
theorem uA:Has Tryz.prog sH 16 [(4,none)] Ze:=⟨Tryz.f35,by kernel_rfl,by kernel_rfl⟩
theorem qJ:Has Tryz.prog kD 15 [(4,none)] Zf:=⟨Tryz.f36,by kernel_rfl,by kernel_rfl⟩
theorem xc:Has Tryz.prog mh 33 [(4,none)] Zj:=⟨Tryz.f37,by kernel_rfl,by kernel_rfl⟩
theorem BE:Has Tryz.prog kn 55 [(2,none)] Zq:=⟨Tryz.f38,by kernel_rfl,by kernel_rfl⟩
end Go.Abs

/-! Codes1 -/

namespace Go.Abs
abbrev Zr:AC:= .seq (.run [.o 26 (.bT ew fw 1), .o 27 (.load fQ false 1), .m 8 fx]) (.seq (.run [.m 28 bN, .m 29 cA, .c 30 bZ [gn,gp], .o 31 (.un .not gV)]) (.cond gq (.run [.m 32 bN, .m 33 cA, .o 34 (.cE [(.str [])] 1 1 [(0,gQ)]), .o 35 (.app 1 16 gF gW), .m 5 iM]) .skip))
abbrev Zs:AC:= .seq (.cond e9 .skip (.exit 2)) (.seq (.block 3 Zr) (.run [.o 36 (.bin .add fw (.k (.int .i64 1))), .m 24 iN]))
abbrev Zt:AC:= .seq (.run [.m 17 bB, .m 18 bN, .m 19 cv, .o 20 (.bT dE ef 1), .o 21 (.load eg false 1), .c 22 mh [dA,eh], .o 23 (.len ew), .o 24 (.mv (.k (.int .i64 0)))]) (.block 2 (.loop (.seq (.run [.o 25 (.bin .lss fw ep)]) Zs)))
abbrev Zu:AC:= .seq (.seq (.run [.m 11 cv, .m 12 bN, .o 13 (.len cH), .o 14 (.bin .lss b7 cV)]) (.cond cW .skip (.exit 0))) (.seq (.block 1 Zt) (.run [.m 15 cv, .o 16 (.bin .add dq (.k (.int .i64 1))), .m 6 cy]))
abbrev Tk:AC:= .seq (.run [.m 39 bN, .m 4 jX]) .ret
abbrev Zv:AC:= .seq (.seq (.run [.o 6 (.mv (.k (.int .i64 0)))]) (.block 0 (.loop Zu))) (.seq (.run [.m 37 bN, .c 38 gb [jA]]) Tk)
abbrev Zw:AC:= .seq (.run [.o 4 (.mv (.k (.slice .full 0 [])))]) (.seq (.run [.m 9 bm, .o 10 (.cE [(.str [])] 1 1 [(0,dv)]), .m 5 cj]) Zv)
abbrev Zx:AC:= .par [.m 5 bB, .o 6 (.gu bN), .o 7 (.aE cv 2), .o 8 (.load cf false 1), .m 9 bB, .o 10 (.gu dv), .o 11 (.aE cj 3), .o 12 (.load b7 false 1), .m 13 bm, .o 14 (.bT cH cV 1), .o 15 (.load cW false 1), .o 16 (.bin .sub dq (.k (.int .i64 1))), .m 17 bB, .o 18 (.gu dA), .o 19 (.aE dE 4), .o 20 (.load ef false 1), .m 21 bm, .o 22 (.bT eg eh 1), .o 23 (.load ew false 1), .o 24 (.bin .sub ep (.k (.int .i64 1))), .o 25 (.Az 17 cA (some cy) (some fw)), .m 4 e9] [(0,0),(1,0),(2,0),(3,0),(4,0),(5,0),(6,0),(7,0),(8,0),(9,0),(10,0),(11,0),(12,0),(13,0),(14,0),(15,0),(16,0),(17,0),(18,0),(19,0),(20,0),(21,0)]
abbrev Zy:AC:= .seq (.run [.o 4 (.mv (.k (.slice .full 0 [])))]) (.seq Zx .ret)
abbrev Zz:AC:= .seq (.run [.o 3 (.box bm), .o 4 (.mv (.k (.int .i64 0)))]) (.seq (.run [.m 5 bB, .o 6 (.gu bN), .o 7 (.aE cv 0), .o 8 (.aE cf 1), .o 9 (.load cA false 1), .o 10 (.px 86 [c9]), .c 11 ez [dv,cj], .m 4 b7]) .ret)
abbrev ZA:AC:= .seq (.seq (.run [.o 31 (.aE bN 0), .o 32 (.load gq false 1)]) (.cond gF (.run [.m 33 c9, .o 34 (.aE bN 1), .o 35 (.load gW false 1), .o 36 (.cE [(.str [])] 1 1 [(0,iM)]), .o 37 (.app 1 16 gQ iN), .m 3 jA]) .skip)) (.run [.m 38 c9, .o 39 (.aE bN 2), .o 40 (.load jX true 4), .c 41 np [ll], .o 42 (.app 1 16 jW kp), .m 3 ln])
abbrev ZB:AC:= .seq (.block 1 (.seq (.run [.o 29 (.bT e9 fx 6), .o 30 (.load gp true 6), .o 5 (.alloc [(.bool false),(.str []),(.int .i64 0),(.int .i64 0),(.str []),(.slice .full 0 [])]), .op none none (.store bN gV 6)]) ZA)) (.run [.o 43 (.bin .add fx (.k (.int .i64 1))), .m 27 kO])
abbrev ZC:AC:= .block 0 (.loop (.seq (.run [.o 28 (.bin .lss fx fQ)]) (.seq (.cond gn .skip (.exit 0)) ZB)))
abbrev ZD:AC:= .seq (.seq (.run [.o 24 (.aE bm 10), .o 25 (.load fw false 1), .o 26 (.len e9), .o 27 (.mv (.k (.int .i64 0)))]) ZC) (.seq (.run [.m 44 c9, .m 2 lp]) .ret)
abbrev ZE:AC:= .seq (.seq (.run [.o 6 (.aE bm 1), .o 7 (.load cv false 1), .o 8 (.bin .neq cf (.k (.int .i64 10))), .m 9 cA, .g 10 9 true (.aE bm 3), .g 11 9 true (.load cj false 1), .g 12 9 true (.bin .neq b7 (.k (.str []))), .o 13 (.pick dv cH (.k (.bool false)))]) (.cond cV (.run [.m 14 c9, .o 15 (.aE bm 3), .o 16 (.load dq false 1), .o 17 (.cE [(.str [])] 1 1 [(0,cy)]), .o 18 (.app 1 16 cW dA), .m 3 dE]) .skip)) (.seq (.run [.m 19 c9, .o 20 (.aE bm 5), .o 21 (.load eg true 4), .c 22 np [eh], .o 23 (.app 1 16 ef ew), .m 3 ep]) ZD)
abbrev ZF:AC:= .seq (.run [.o 1 (.box bB), .o 2 (.mv (.k (.slice .full 0 [])))]) (.seq (.run [.o 3 (.mv (.k (.slice .full 0 [])))]) ZE)
abbrev ZG:AC:= .seq (.run [.o 4 (.mv (.k (.bool false)))]) (.seq (.run [.m 5 bB, .m 6 bm, .c 7 fV [bN,cv], .o 8 (.bin .geq cf (.k (.int .i64 0))), .m 4 cA]) .ret)
abbrev ZH:AC:= .block 1 (.seq (.run [.m 10 cA, .m 5 cj]) (.seq (.run [.m 11 bm, .m 12 bB, .m 13 bN, .o 14 (.bT cH cV 1), .o 15 (.load cW false 1), .o 16 (.bin .eql b7 dq)]) (.cond cy (.seq (.run [.m 17 bN, .m 4 dA]) .ret) .skip)))
abbrev ZI:AC:= .seq (.cond dv .skip (.exit 0)) (.seq ZH (.run [.o 18 (.bin .add cA (.k (.int .i64 1))), .m 8 dE]))
abbrev ZJ:AC:= .seq (.run [.m 6 bB, .o 7 (.len cv), .o 8 (.mv (.k (.int .i64 0)))]) (.block 0 (.loop (.seq (.run [.o 9 (.bin .lss cA cf)]) ZI)))
abbrev ZK:AC:= .seq (.run [(.o 4 (.mv (.k (.int .i64 (-1)))))]) .ret
abbrev ZL:AC:= .seq (.run [.o 4 (.mv (.k (.int .i64 0)))]) (.seq ZJ ZK)
abbrev ZM:AC:= .cond cy (.seq (.run [.o 2 (.mv (.k (.bool true)))]) .ret) .skip
abbrev ZN:AC:= .block 1 (.seq (.run [.m 9 cf, .o 10 (.bT bN cf 1), .o 11 (.load cj false 1), .m 3 dv, .m 4 b7]) (.seq (.run [.m 12 bB, .m 13 c9, .o 14 (.Az 1 cH none (some cV)), .m 15 dL, .c 16 bZ [cW,dq]]) ZM))
abbrev ZO:AC:= .seq (.cond cA .skip (.exit 0)) (.seq ZN (.run [.o 17 (.bin .add cf (.k (.int .i64 1))), .m 7 dA]))
abbrev ZP:AC:= .seq (.run [.m 5 bB, .o 6 (.len bN), .o 7 (.mv (.k (.int .i64 0)))]) (.block 0 (.loop (.seq (.run [.o 8 (.bin .lss cf cv)]) ZO)))
abbrev ZQ:AC:= .seq ZP (.seq (.run [.o 2 (.mv (.k (.bool false)))]) .ret)
abbrev ZR:AC:= .seq (.run [.o 2 (.mv (.k (.bool false)))]) ZQ
abbrev ZS:AC:= .seq (.block 1 (.seq (.run [.o 11 (.bT cf dv 2), .o 12 (.load b7 true 2), .o 5 (.alloc [(.str []),(.bool false)]), .op none none (.store bN cH 2)]) (.run [.m 13 c9, .o 14 (.aE bN 0), .o 15 (.load cW false 1), .o 16 (.cE [(.str [])] 1 1 [(0,dq)]), .o 17 (.app 1 16 cV cy), .m 3 dA]))) (.run [.o 18 (.bin .add dv (.k (.int .i64 1))), .m 9 dE])
abbrev ZT:AC:= .block 0 (.loop (.seq (.run [.o 10 (.bin .lss dv cA)]) (.seq (.cond cj .skip (.exit 0)) ZS)))
abbrev ZU:AC:= .seq (.seq (.run [.o 6 (.aE bm 1), .o 7 (.load cv false 1), .o 8 (.len cf), .o 9 (.mv (.k (.int .i64 0)))]) ZT) (.seq (.run [.m 19 c9, .o 20 (.aE bm 2), .o 21 (.load eg false 1), .o 22 (.app 1 16 ef eh), .m 2 ew]) .ret)
abbrev ZV:AC:= .seq (.run [.o 1 (.box bB), .o 2 (.mv (.k (.slice .full 0 [])))]) (.seq (.run [.o 3 (.mv (.k (.slice .full 0 [])))]) ZU)
abbrev ZW:AC:= .seq (.run [.o 4 (.mv (.k (.bool false)))]) (.seq (.run [.m 5 bB, .m 6 bm, .c 7 ij [bN,cv], .o 8 (.bin .geq cf (.k (.int .i64 0))), .m 4 cA]) .ret)
abbrev ZX:AC:= .seq (.run [.o 3 (.mv (.k (.bool false)))]) (.seq (.run [.o 4 (.aE bm 0), .o 5 (.load dL false 1), .m 6 bB, .c 7 bZ [bN,cv], .m 3 cf]) .ret)
abbrev ZY:AC:= .cond ew (.seq (.run [.o 8 (.mv (.k (.bool false)))]) .ret) .skip
abbrev ZZ:AC:= .seq (.run [.o 16 (.bT cH cW 1), .o 17 (.load cy false 1), .m 10 dA]) (.seq (.run [.o 18 (.load dL true 2), .o 19 (.load bN true 5), .m 20 cj, .c 21 p6 [dE,ef,eg], .o 22 (.bin .eql eh (.k (.int .i64 0)))]) ZY)
abbrev Z0:AC:= .seq (.cond dq .skip (.exit 0)) (.seq (.block 1 ZZ) (.run [.o 23 (.bin .add cW (.k (.int .i64 1))), .m 14 ep]))
abbrev Z1:AC:= .seq (.run [.o 11 (.load cf true 13), .c 12 nj [b7], .o 13 (.len cH), .o 14 (.mv (.k (.int .i64 0)))]) (.block 0 (.loop (.seq (.run [.o 15 (.bin .lss cW cV)]) Z0)))
abbrev Z2:AC:= .seq Z1 (.seq (.run [.o 24 (.aE cf 1), .o 25 (.load fw false 1), .o 26 (.bin .neq e9 (.k (.int .i64 4))), .m 27 fQ, .g 28 27 false (.aE cf 4), .g 29 27 false (.load gn false 1), .g 30 27 false (.bin .neq gp (.k (.str [109,97,105,110]))), .g 31 27 false (.mv gV), .g 32 31 true (.mv di), .g 33 31 true (.aE cf 4), .g 34 31 true (.load gQ false 1), .d 35 31 true bZ [gF,gW], .g 36 27 false (.pick gq iM (.k (.bool false))), .o 37 (.pick fx (.k (.bool true)) iN), .m 8 jA]) .ret)
abbrev Z3:AC:= .seq (.run [.o 4 (.box bB), .o 5 (.box bm), .o 7 (.box c9), .o 8 (.mv (.k (.bool false)))]) Z2
abbrev Z4:AC:= .par [.o 19 (.aE cv 0), .o 20 (.load ef false 1), .o 21 (.aE cv 1), .o 22 (.load eh false 1), .c 23 iL [ew], .o 24 (.aE cv 2), .o 25 (.load fw false 1), .c 26 fb [e9], .o 27 (.aE cv 4), .o 28 (.load fx false 1), .c 29 fb [gn], .o 30 (.build [(.str []),(.slice .full 0 []),(.slice .full 0 []),(.slice .full 0 []),(.slice .full 0 [])] [(0,(1,eg)),(1,(1,ep)),(2,(1,fQ)),(4,(1,gp))]), .o 7 (.alloc [(.str []),(.slice .full 0 []),(.slice .full 0 []),(.slice .full 0 []),(.slice .full 0 [])]), .op none none (.store cf gV 5)] [(2,0),(3,0),(4,0),(5,0),(6,1),(7,0),(8,0),(9,2),(10,0),(12,0),(0,0),(1,4),(11,0),(13,0)]
abbrev Z5:AC:= .seq (.run [.o 17 (.bT cV dq 5), .o 18 (.load dA true 5), .o 6 (.alloc [(.str []),(.slice .full 0 []),(.slice .full 0 []),(.slice .full 0 []),(.slice .full 0 [])]), .op none none (.store cv dE 5)]) (.seq Z4 (.seq (.run [.o 32 (.aE cv 3), .o 33 (.load gF false 1), .m 34 c9, .c 35 gU [gQ,gW,(.k (.bool true))], .m 31 iM, .o 36 (.ext gq 0), .o 37 (.ext gq 1), .o 38 (.aE cf 3), .op none none (.store jW iN 1), .m 3 jA]) (.run [.o 39 (.aE dL 1), .o 40 (.load jX false 1), .o 41 (.load cf true 5), .o 42 (.cE [(.str []),(.slice .full 0 []),(.slice .full 0 []),(.slice .full 0 []),(.slice .full 0 [])] 5 1 [(0,kp)]), .o 43 (.app 5 112 ll ln), .o 44 (.aE dL 1), .op none none (.store lp kO 1)])))
abbrev Z6:AC:= .seq (.cond cy .skip (.exit 0)) (.seq (.block 1 Z5) (.run [.o 45 (.bin .add dq (.k (.int .i64 1))), .m 15 mD]))
abbrev Z7:AC:= .seq (.run [.o 12 (.aE bm 1), .o 13 (.load cH false 1), .o 14 (.len cV), .o 15 (.mv (.k (.int .i64 0)))]) (.block 0 (.loop (.seq (.run [.o 16 (.bin .lss dq cW)]) Z6)))
abbrev Z8:AC:= .seq (.run [.o 3 (.mv (.k (.int .i64 0)))]) (.seq (.run [.o 8 (.aE bm 0), .o 9 (.load cA false 1), .c 10 fb [dv], .o 11 (.build [(.slice .full 0 []),(.slice .full 0 [])] [(0,(1,cj))]), .o 4 (.alloc [(.slice .full 0 []),(.slice .full 0 [])]), .op none none (.store dL b7 2)]) (.seq Z7 (.seq (.run [.o 46 (.load dL true 2), .op none none (.store di mE 2)]) .ret)))
abbrev Z9:AC:= .seq (.run [.o 1 (.box bB), .o 2 (.alloc [(.slice .full 0 []),(.slice .full 0 [])])]) Z8
abbrev QMK:AC:= .run [.m 23 dL, .m 24 bB, .m 25 b7, .o 26 (.bT fw e9 13), .o 27 (.load fQ true 13), .m 28 bm, .m 29 di, .m 30 c9, .o 31 (.build [(.int .i64 0),(.int .i64 0),(.slice .full 0 []),(.str []),(.str []),(.int .i64 0),(.int .i64 0),(.str []),(.slice .full 0 []),(.bool false),(.slice .full 0 []),(.slice .full 0 []),(.slice .full 0 []),(.int .i64 0),(.int .i64 0),(.bool false)] [(0,(13,fx)),(13,(1,gn)),(14,(1,gp)),(15,(1,gV))]), .o 32 (.cE [(.int .i64 0),(.int .i64 0),(.slice .full 0 []),(.str []),(.str []),(.int .i64 0),(.int .i64 0),(.str []),(.slice .full 0 []),(.bool false),(.slice .full 0 []),(.slice .full 0 []),(.slice .full 0 []),(.int .i64 0),(.int .i64 0),(.bool false)] 16 1 [(0,gq)]), .o 33 (.app 16 232 ep gF), .m 4 gQ]
abbrev QMM:AC:= .par [.m 36 bB, .m 37 b7, .o 38 (.bT iN jA 13), .o 39 (.aE jW 11), .o 40 (.load jX false 1), .m 41 bm, .o 42 (.bin .add kp (.k (.int .i64 1))), .m 43 bB, .m 44 b7, .o 45 (.bT kO lp 13), .o 46 (.aE mD 0), .o 47 (.load mE false 1), .m 48 dL, .c 49 jx [ll,ln,nw,(.k (.bool false)),ny], .m 4 lq] [(0,0),(1,0),(2,0),(3,0),(4,0),(5,0),(6,0),(7,0),(8,0),(9,0),(10,0),(11,0),(12,0),(13,0),(14,0)]
abbrev QMN:AC:= .par [.m 50 bB, .m 51 b7, .o 52 (.bT mF lP 13), .o 53 (.aE lQ 12), .o 54 (.load mH false 1), .m 55 bm, .o 56 (.bin .add oa (.k (.int .i64 1))), .m 57 bB, .m 58 b7, .o 59 (.bT od oe 13), .o 60 (.aE lR 0), .o 61 (.load qa false 1), .m 62 dL, .c 63 jx [nz,oc,sJ,(.k (.bool true)),qb], .m 4 rA] [(0,0),(1,0),(2,0),(3,0),(4,0),(5,0),(6,0),(7,0),(8,0),(9,0),(10,0),(11,0),(12,0),(13,0),(14,0)]
abbrev QMR:AC:= .seq QMK (.seq (.run [.m 34 bm, .o 35 (.bin .leq gW (.k (.int .i64 12)))]) (.cond iM (.seq QMM QMN) .skip))
abbrev QMV:AC:= .seq (.seq (.run [.m 12 b7, .m 13 bB, .o 14 (.len cV), .o 15 (.bin .lss cH cW), .m 16 dq, .g 17 16 true (.mv dL), .g 18 16 true (.len dA), .g 19 16 true (.bin .leq dE (.k (.int .i64 200))), .o 20 (.pick cy ef (.k (.bool false)))]) (.cond eg .skip (.exit 0))) (.seq (.block 1 QMR) (.run [.m 21 b7, .o 22 (.bin .add eh (.k (.int .i64 1))), .m 11 ew]))
abbrev QN1:AC:= .seq (.seq (.run [.o 11 (.mv (.k (.int .i64 0)))]) (.block 0 (.loop QMV))) (.seq (.run [.m 64 dL, .m 10 qc]) .ret)
abbrev QN2:AC:= .seq (.run [.o 10 (.mv (.k (.slice .full 0 [])))]) QN1
abbrev QN7:AC:= .cond bN (.seq (.run [.o 2 (.mv (.k (.slice .full 0 [])))]) .ret) .skip
abbrev QNB:AC:= .seq (.seq (.run [.o 3 (.load bm true 4), .c 4 n9 [c9], .o 5 (.un .not dL)]) QN7) (.seq (.run [.o 6 (.load bm true 4),(.c 7 gI [cv,(.k (.slice .full 0 []))]), .m 2 cf]) .ret)
abbrev QNC:AC:= .seq (.run [.o 1 (.box bB), .o 2 (.mv (.k (.slice .full 0 [])))]) QNB
abbrev QNL:AC:= .cond cV (.seq (.run [.o 2 (.mv (.k (.bool false)))]) .ret) .skip
abbrev QNQ:AC:= .seq (.block 1 (.seq (.run [.o 9 (.bT bN cf 1), .o 10 (.load dv false 1), .m 4 cj]) (.seq (.run [.m 11 dL, .c 12 ko [b7], .o 13 (.un .not cH)]) QNL))) (.run [.o 14 (.bin .add cf (.k (.int .i64 1))), .m 7 cW])
abbrev QNU:AC:= .block 0 (.loop (.seq (.run [.o 8 (.bin .lss cf cv)]) (.seq (.cond cA .skip (.exit 0)) QNQ)))
abbrev QNY:AC:= .seq (.seq (.run [.m 5 bB, .o 6 (.len bN), .o 7 (.mv (.k (.int .i64 0)))]) QNU) (.seq (.run [.o 2 (.mv (.k (.bool true)))]) .ret)
abbrev QNZ:AC:= .seq (.run [.o 2 (.mv (.k (.bool false)))]) QNY
abbrev QO4:AC:= .cond cy (.seq (.run [.o 2 (.mv (.k (.bool false)))]) .ret) .skip
abbrev QO8:AC:= .seq (.seq (.run [.m 3 bB, .o 4 (.nV c9), .o 5 (.bin .lss dL (.k (.int .i64 1))), .m 6 bN, .g 7 6 false (.mv bB), .g 8 6 false (.nV cf), .g 9 6 false (.bin .gtr cA (.k (.int .i64 8))), .o 10 (.pick cv (.k (.bool true)) dv), .m 11 cj, .g 12 11 false (.mv bB), .g 13 11 false (.pN cH (.k (.int .i64 0))), .d 14 11 false nq [cV], .g 15 11 false (.un .not cW), .o 16 (.pick b7 (.k (.bool true)) dq)]) QO4) (.seq (.run [.m 17 bB, .c 18 uv [dA,(.k (.int .i64 0))], .m 19 bB, .o 20 (.nV ef), .o 21 (.bin .eql dE eg), .m 22 eh, .g 23 22 true (.mv bB), .d 24 22 true sI [ep], .g 25 22 true (.un .not fw), .o 26 (.pick ew e9 (.k (.bool false))), .m 2 fQ]) .ret)
abbrev QO9:AC:= .seq (.run [.o 2 (.mv (.k (.bool false)))]) QO8
abbrev QOE:AC:= .cond dq (.seq (.run [.o 6 (.mv (.k (.bool false)))]) .ret) .skip
abbrev QOL:AC:= .par [.m 29 bB, .o 30 (.gu gp), .o 31 (.aE gV 0), .o 32 (.load gq false 1), .o 33 (.bin .gtr gF (.k (.int .i64 200))), .m 34 gQ, .g 35 34 false (.aE cA 0), .g 36 34 false (.load iM false 1), .g 37 34 false (.mv bB), .g 38 34 false (.gu jA), .g 39 34 false (.aE jW 0), .g 40 34 false (.load jX false 1), .g 41 34 false (.bin .neq iN ll), .o 42 (.pick gW (.k (.bool true)) kp), .m 43 ln, .g 44 43 false (.aE cA 2), .g 45 43 false (.load lp false 1), .d 46 43 false jV [mD], .g 47 43 false (.un .not mE), .o 48 (.pick kO (.k (.bool true)) nw), .m 49 ny, .g 50 49 false (.load cA true 13), .d 51 49 false o7 [mF], .g 52 49 false (.un .not lP), .o 53 (.pick lq (.k (.bool true)) lQ)] [(0,0),(1,0),(2,0),(3,0),(4,0),(5,0),(6,0),(7,0),(8,0),(9,0),(10,0),(11,0),(12,0),(13,0),(14,0),(15,0),(16,0),(17,0),(18,0),(19,0),(20,0),(21,0),(22,0),(23,0),(24,0)]
abbrev QOO:AC:= .cond mH (.seq (.run [.o 6 (.mv (.k (.bool false)))]) .ret) .skip
abbrev QOT:AC:= .cond wh (.seq (.run [.o 6 (.mv (.k (.bool false)))]) .ret) .skip
abbrev QOV:AC:= .seq (.seq QOL QOO) (.seq (.run [.m 54 bB, .o 55 (.aE cA 11), .o 56 (.load oa false 1), .m 57 di, .o 58 (.bin .add od (.k (.int .i64 1))), .c 59 gP [nz,oc,oe], .o 60 (.un .not lR), .m 61 qa, .g 62 61 false (.mv bB), .g 63 61 false (.aE cA 12), .g 64 61 false (.load rA false 1), .g 65 61 false (.mv di), .g 66 61 false (.bin .add rB (.k (.int .i64 1))), .d 67 61 false gP [qb,qc,wg], .g 68 61 false (.un .not uy), .o 69 (.pick sJ (.k (.bool true)) uz)]) QOT)
abbrev QOX:AC:= .seq (.run [.o 20 (.bT cy dE 13), .o 21 (.load eg true 13), .o 8 (.alloc [(.int .i64 0),(.int .i64 0),(.slice .full 0 []),(.str []),(.str []),(.int .i64 0),(.int .i64 0),(.str []),(.slice .full 0 []),(.bool false),(.slice .full 0 []),(.slice .full 0 []),(.slice .full 0 [])]), .op none none (.store cA eh 13)]) (.seq (.run [.m 22 bB, .o 23 (.gu ew), .o 24 (.aE ep 0), .o 25 (.load fw false 1), .o 26 (.bin .add e9 (.k (.int .i64 1))), .o 27 (.gu ew), .o 28 (.aE fx 0), .op none none (.store gn fQ 1)]) QOV)
abbrev QP1:AC:= .seq (.cond ef .skip (.exit 0)) (.seq (.block 1 QOX) (.run [.o 70 (.bin .add dE (.k (.int .i64 1))), .m 18 wi]))
abbrev QP5:AC:= .seq (.run [.m 16 bm, .o 17 (.len cy), .o 18 (.mv (.k (.int .i64 0)))]) (.block 0 (.loop (.seq (.run [.o 19 (.bin .lss dE dA)]) QP1)))
abbrev QP8:AC:= .seq QP5 (.seq (.run [.o 6 (.mv (.k (.bool true)))]) .ret)
abbrev QP9:AC:= .seq (.seq (.run [.m 9 di, .o 10 (.bin .gtr dv (.k (.int .i64 12))), .m 11 cj, .g 12 11 true (.mv bm), .g 13 11 true (.len cH), .g 14 11 true (.bin .gtr cV (.k (.int .i64 0))), .o 15 (.pick b7 cW (.k (.bool false)))]) QOE) QP8
abbrev QPA:AC:= .seq (.run [.o 6 (.mv (.k (.bool false)))]) QP9
abbrev QPD:AC:= .seq (.run [.m 3 bB,(.o 4 (.build [(.int .i64 0),(.int .i64 0),(.str []),(.slice .full 0 [])] [(0,(1,(.k (.int .i64 1)))),(1,(1,c9))])), .op none none (.store di dL 4)]) .ret
abbrev QPE:AC:= .seq (.run [.o 2 (.alloc [(.int .i64 0),(.int .i64 0),(.str []),(.slice .full 0 [])])]) QPD
abbrev QPH:AC:= .seq (.run [.m 3 bB,(.o 4 (.build [(.int .i64 0),(.int .i64 0),(.str []),(.slice .full 0 [])] [(0,(1,(.k (.int .i64 2)))),(2,(1,c9))])), .op none none (.store di dL 4)]) .ret
abbrev QPI:AC:= .seq (.run [.o 2 (.alloc [(.int .i64 0),(.int .i64 0),(.str []),(.slice .full 0 [])])]) QPH
abbrev QPM:AC:= .seq (.run [.o 4 (.box bm), .o 5 (.box di), .o 6 (.alloc [(.int .i64 0),(.int .i64 0),(.str []),(.slice .full 0 [])])]) (.seq (.run [.m 7 bB, .o 8 (.load dL true 4), .o 9 (.load bN true 4), .o 10 (.cE [(.int .i64 0),(.int .i64 0),(.str []),(.slice .full 0 [])] 4 2 [(0,cA),(1,dv)]), .o 11 (.build [(.int .i64 0),(.int .i64 0),(.str []),(.slice .full 0 [])] [(0,(1,cf)),(3,(1,cj))]), .op none none (.store cv b7 4)]) .ret)
abbrev QPX:AC:= .seq (.seq (.run [.m 10 bN, .o 11 (.aE di 3), .o 12 (.load b7 false 1), .o 13 (.len cH), .o 14 (.bin .lss cj cV), .m 15 cW, .g 16 15 true (.mv bm), .g 17 15 true (.bin .leq cy (.k (.int .i64 20000))), .o 18 (.pick dq dA (.k (.bool false)))]) (.cond dE .skip (.exit 0))) (.seq (.block 1 (.run [.o 21 (.aE di 3), .o 22 (.load eh false 1), .m 23 bN, .o 24 (.bT ew ep 4), .o 25 (.load fw true 4), .m 26 bm, .c 27 gD [e9,fQ], .m 1 fx])) (.run [.m 19 bN, .o 20 (.bin .add ef (.k (.int .i64 1))), .m 5 eg]))
abbrev QQ3:AC:= .seq (.seq (.run [.o 5 (.mv (.k (.int .i64 0)))]) (.block 0 (.loop QPX))) (.seq (.run [.m 28 bm, .m 4 gn]) .ret)
abbrev QQ5:AC:= .seq (.run [.o 2 (.box bB), .o 4 (.mv (.k (.int .i64 0)))]) (.seq (.run [.o 6 (.aE di 2), .o 7 (.load cv false 1), .m 8 bm, .c 9 eD [cf,cA], .m 1 dv]) QQ3)
abbrev QQ9:AC:= .seq (.run [.o 4 (.mv (.k (.bool false)))]) (.seq (.run [.m 5 bB, .m 6 bm, .c 7 ez [bN,cv], .o 8 (.bin .geq cf (.k (.int .i64 0))), .m 4 cA]) .ret)
abbrev QQD:AC:= .seq (.run [.o 2 (.box bB), .o 3 (.mv (.k (.bool false)))]) (.seq (.run [.o 4 (.aE di 0), .o 5 (.load dL false 1), .o 6 (.load bm false 1), .o 7 (.bin .eql bN cv), .m 3 cf]) .ret)
abbrev QQQ:AC:= .par [.m 37 bB, .m 38 bB, .o 39 (.gu jW), .o 40 (.aE jX 2), .o 41 (.load ll false 1), .o 42 (.load dv true 17), .o 43 (.cE [(.int .i64 0),(.int .i64 0),(.slice .full 0 []),(.str []),(.str []),(.int .i64 0),(.int .i64 0),(.str []),(.slice .full 0 []),(.bool false),(.slice .full 0 []),(.slice .full 0 []),(.slice .full 0 []),(.int .i64 0),(.int .i64 0),(.int .i64 0),(.int .i64 0)] 17 1 [(0,ln)]), .o 44 (.app 17 240 kp kO), .o 45 (.gu jA), .o 46 (.aE mD 2), .op none none (.store mE lp 1)] [(1,0),(2,0),(3,0),(4,0),(5,0),(6,0),(7,0),(0,0),(8,0),(9,0),(10,0)]
abbrev QQR:AC:= .run [.o 47 (.aE bN 13), .o 48 (.load nw false 1), .m 49 cA, .o 50 (.aE dv 15), .o 51 (.load mF false 1), .o 52 (.aE bN 16), .o 53 (.load lQ false 1), .o 54 (.build [(.int .i64 0),(.int .i64 0),(.slice .full 0 []),(.str []),(.str []),(.int .i64 0),(.int .i64 0),(.str []),(.slice .full 0 []),(.bool false),(.slice .full 0 []),(.slice .full 0 []),(.slice .full 0 []),(.int .i64 0),(.int .i64 0),(.int .i64 0),(.int .i64 0)] [(13,(1,ny)),(14,(1,lq)),(15,(1,lP)),(16,(1,mH))]), .o 10 (.alloc [(.int .i64 0),(.int .i64 0),(.slice .full 0 []),(.str []),(.str []),(.int .i64 0),(.int .i64 0),(.str []),(.slice .full 0 []),(.bool false),(.slice .full 0 []),(.slice .full 0 []),(.slice .full 0 []),(.int .i64 0),(.int .i64 0),(.int .i64 0),(.int .i64 0)]), .op none none (.store cj nz 17)]
abbrev QQZ:AC:= .seq (.seq (.run [.o 55 (.aE cf 1), .o 56 (.load oa false 1), .o 57 (.bin .eql oc (.k (.int .i64 6)))]) (.cond od (.run [.m 58 cA, .m 59 cA, .o 60 (.aE cj 15), .op none none (.store qa oe 1), .o 61 (.aE cj 16), .op none none (.store sJ lR 1)]) .skip)) (.seq (.run [.m 62 bB, .o 63 (.aE cf 11), .o 64 (.load rA false 1), .o 65 (.load cj true 17), .c 66 gE [qb,qc,rB]]) (.run [.m 67 bB, .o 68 (.aE cf 12), .o 69 (.load uz false 1), .o 70 (.load cj true 17), .c 71 gE [uy,wh,wi]]))
abbrev QR2:AC:= .seq (.seq (.run [.m 27 cv, .o 28 (.bin .add fx (.k (.int .i64 1))), .m 29 bm, .o 30 (.len gp), .o 31 (.bin .lss gn gV)]) (.cond gq (.run [.m 32 cA, .o 33 (.load cf true 13), .c 34 jy [gQ], .o 35 (.bin .add gF gW), .o 36 (.aE dv 15), .op none none (.store iN iM 1)]) .skip)) (.seq QQQ (.seq QQR QQZ))
abbrev QR6:AC:= .seq (.run [.m 15 cV, .o 16 (.bT b7 cV 13), .o 17 (.load cy true 13), .o 7 (.alloc [(.int .i64 0),(.int .i64 0),(.slice .full 0 []),(.str []),(.str []),(.int .i64 0),(.int .i64 0),(.str []),(.slice .full 0 []),(.bool false),(.slice .full 0 []),(.slice .full 0 []),(.slice .full 0 [])]), .m 6 dq, .op none none (.store cf dA 13)]) (.seq (.run [.m 18 bB, .o 19 (.gu dE), .o 20 (.aE ef 2), .o 21 (.load eg false 1), .o 22 (.len eh), .o 23 (.bin .add ew (.k (.int .i64 1))), .m 8 ep]) (.seq (.run [.o 24 (.load bN true 17), .o 9 (.alloc [(.int .i64 0),(.int .i64 0),(.slice .full 0 []),(.str []),(.str []),(.int .i64 0),(.int .i64 0),(.str []),(.slice .full 0 []),(.bool false),(.slice .full 0 []),(.slice .full 0 []),(.slice .full 0 []),(.int .i64 0),(.int .i64 0),(.int .i64 0),(.int .i64 0)]), .op none none (.store dv fw 17)]) (.seq (.run [.o 25 (.load cf true 13), .o 26 (.aE dv 0), .op none none (.store fQ e9 13)]) QR2)))
abbrev QRA:AC:= .seq (.cond cW .skip (.exit 0)) (.seq (.block 1 QR6) (.run [.o 72 (.bin .add cV (.k (.int .i64 1))), .m 13 x9]))
abbrev QRE:AC:= .seq (.run [.m 11 bm, .o 12 (.len b7), .o 13 (.mv (.k (.int .i64 0)))]) (.block 0 (.loop (.seq (.run [.o 14 (.bin .lss cV cH)]) QRA)))
abbrev QRF:AC:= .seq (.run [.o 5 (.box di)]) QRE
end Go.Abs

/-! Have1 -/

namespace Go.Abs
open Go.Proofs
theorem z1:Has Tryz.prog oB 40 [(4,none)] Zw:=⟨Tryz.f42,by kernel_rfl,by kernel_rfl⟩
theorem vn:Has Tryz.prog jk 26 [(4,none)] Zy:=⟨Tryz.f44,by kernel_rfl,by kernel_rfl⟩
theorem tA:Has Tryz.prog jM 12 [(4,none)] Zz:=⟨Tryz.f45,by kernel_rfl,by kernel_rfl⟩
theorem yd:Has Tryz.prog nj 45 [(2,none)] ZF:=⟨Tryz.f46,by kernel_rfl,by kernel_rfl⟩
theorem o9:Has Tryz.prog bZ 9 [(4,none)] ZG:=⟨Tryz.f47,by kernel_rfl,by kernel_rfl⟩
theorem qm:Has Tryz.prog fV 19 [(4,none)] ZL:=⟨Tryz.f51,by kernel_rfl,by kernel_rfl⟩
theorem xd:Has Tryz.prog kE 18 [(2,none)] ZR:=⟨Tryz.f52,by kernel_rfl,by kernel_rfl⟩
theorem z6:Has Tryz.prog rn 23 [(2,none)] ZV:=⟨Tryz.f53,by kernel_rfl,by kernel_rfl⟩
theorem nA:Has Tryz.prog eo 9 [(4,none)] ZW:=⟨Tryz.f54,by kernel_rfl,by kernel_rfl⟩
theorem vo:Has Tryz.prog kY 8 [(3,none)] ZX:=⟨Tryz.f55,by kernel_rfl,by kernel_rfl⟩
theorem xe:Has Tryz.prog mj 38 [(8,none)] Z3:=⟨Tryz.f56,by kernel_rfl,by kernel_rfl⟩
theorem xf:Has Tryz.prog ml 47 [(2,(some (true,2)))] Z9:=⟨Tryz.f57,by kernel_rfl,by kernel_rfl⟩
theorem tg:Has Tryz.prog jx 65 [(10,none)] QN2:=⟨Tryz.f58,by kernel_rfl,by kernel_rfl⟩
theorem rY:Has Tryz.prog nk 8 [(2,none)] QNC:=⟨Tryz.f59,by kernel_rfl,by kernel_rfl⟩
theorem ye:Has Tryz.prog jV 15 [(2,none)] QNZ:=⟨Tryz.f65,by kernel_rfl,by kernel_rfl⟩
theorem jY:Has Tryz.prog ko 27 [(2,none)] QO9:=⟨Tryz.f66,by kernel_rfl,by kernel_rfl⟩
theorem nB:Has Tryz.prog gP 71 [(6,none)] QPA:=⟨Tryz.f67,by kernel_rfl,by kernel_rfl⟩
theorem BF:Has Tryz.prog nn 5 [(2,(some (true,4)))] QPE:=⟨Tryz.f72,by kernel_rfl,by kernel_rfl⟩
theorem z7:Has Tryz.prog ix 5 [(2,(some (true,4)))] QPI:=⟨Tryz.f73,by kernel_rfl,by kernel_rfl⟩
theorem BG:Has Tryz.prog pF 12 [(6,(some (true,4)))] QPM:=⟨Tryz.f74,by kernel_rfl,by kernel_rfl⟩
theorem uB:Has Tryz.prog gD 29 [(4,none)] QQ5:=⟨Tryz.f75,by kernel_rfl,by kernel_rfl⟩
theorem mI:Has Tryz.prog e7 9 [(4,none)] QQ9:=⟨Tryz.f76,by kernel_rfl,by kernel_rfl⟩
theorem vq:Has Tryz.prog kZ 8 [(3,none)] QQD:=⟨Tryz.f77,by kernel_rfl,by kernel_rfl⟩
theorem uC:Has Tryz.prog gE 73 [] QRF:=⟨Tryz.f78,by kernel_rfl,by kernel_rfl⟩
end Go.Abs

/-! Codes2 -/

namespace Go.Abs
abbrev QRR:AC:= .block 1 (.seq (.run [.m 10 cA, .m 5 cj]) (.seq (.run [.m 11 bm, .m 12 bB, .m 13 bN, .o 14 (.bT cH cV 5), .o 15 (.load cW true 5),(.fW (some 16) none 11 [dq])]) (.cond cy (.seq (.run [.m 17 bN, .m 4 dA]) .ret) .skip)))
abbrev QRU:AC:= .seq (.cond dv .skip (.exit 0)) (.seq QRR (.run [.o 18 (.bin .add cA (.k (.int .i64 1))), .m 8 dE]))
abbrev QRY:AC:= .seq (.run [.m 6 bB, .o 7 (.len cv), .o 8 (.mv (.k (.int .i64 0)))]) (.block 0 (.loop (.seq (.run [.o 9 (.bin .lss cA cf)]) QRU)))
abbrev QS0:AC:= .seq (.run [(.o 4 (.mv (.k (.int .i64 (-1)))))]) .ret
abbrev QS2:AC:= .seq (.run [.o 4 (.mv (.k (.int .i64 0)))]) (.seq QRY QS0)
abbrev QS6:AC:= .seq (.run [.o 2 (.box bB), .o 3 (.mv (.k (.bool false)))]) (.seq (.run [.o 4 (.aE di 0), .o 5 (.load dL false 1), .o 6 (.load bm false 1), .o 7 (.bin .eql bN cv), .m 3 cf]) .ret)
abbrev QSB:AC:= .cond bN (.seq (.run [.o 2 (.mv (.k (.slice .full 0 [])))]) .ret) .skip
abbrev QSF:AC:= .seq (.seq (.run [.o 3 (.load bm true 4), .c 4 lC [c9], .o 5 (.un .not dL)]) QSB) (.seq (.run [.o 6 (.load bm true 4),(.c 7 fK [cv,(.k (.slice .full 0 []))]), .m 2 cf]) .ret)
abbrev QSG:AC:= .seq (.run [.o 1 (.box bB), .o 2 (.mv (.k (.slice .full 0 [])))]) QSF
abbrev QSS:AC:= .block 1 (.seq (.run [.m 10 cA, .m 5 cj]) (.seq (.run [.m 11 bm, .m 12 bB, .m 13 bN, .o 14 (.bT cH cV 1), .o 15 (.load cW false 1),(.fW (some 16) none 11 [dq])]) (.cond cy (.seq (.run [.m 17 bN, .m 4 dA]) .ret) .skip)))
abbrev QSV:AC:= .seq (.cond dv .skip (.exit 0)) (.seq QSS (.run [.o 18 (.bin .add cA (.k (.int .i64 1))), .m 8 dE]))
abbrev QSZ:AC:= .seq (.run [.m 6 bB, .o 7 (.len cv), .o 8 (.mv (.k (.int .i64 0)))]) (.block 0 (.loop (.seq (.run [.o 9 (.bin .lss cA cf)]) QSV)))
abbrev QT1:AC:= .seq (.run [(.o 4 (.mv (.k (.int .i64 (-1)))))]) .ret
abbrev QT3:AC:= .seq (.run [.o 4 (.mv (.k (.int .i64 0)))]) (.seq QSZ QT1)
abbrev QTC:AC:= .cond ep (.seq (.run [.o 6 (.mv (.k (.int .i64 3)))]) .ret) .skip
abbrev QTH:AC:= .cond fx (.seq (.run [.o 6 (.mv (.k (.int .i64 2)))]) .ret) .skip
abbrev QTJ:AC:= .seq (.seq (.run [.o 16 (.aE cA 0), .o 17 (.load cy false 1), .m 18 di, .o 19 (.bin .eql dA dE), .m 20 ef, .g 21 20 true (.aE cA 1), .g 22 20 true (.load eh false 1), .o 23 (.pick eg ew (.k (.bool false)))]) QTC) (.seq (.run [.o 24 (.aE cA 0), .o 25 (.load fw false 1), .m 26 di, .o 27 (.bin .eql e9 fQ)]) QTH)
abbrev QTN:AC:= .seq (.block 1 (.seq (.run [.o 14 (.bT cj cH 2), .o 15 (.load cW true 2), .o 8 (.alloc [(.str []),(.bool false)]), .op none none (.store cA dq 2)]) QTJ)) (.run [.o 28 (.bin .add cH (.k (.int .i64 1))), .m 12 gn])
abbrev QTR:AC:= .block 0 (.loop (.seq (.run [.o 13 (.bin .lss cH b7)]) (.seq (.cond cV .skip (.exit 0)) QTN)))
abbrev QTW:AC:= .cond gF (.seq (.run [.o 6 (.mv (.k (.int .i64 4)))]) .ret) .skip
abbrev QU1:AC:= .cond iN (.seq (.run [.o 6 (.mv (.k (.int .i64 1)))]) .ret) .skip
abbrev QU5:AC:= .seq (.seq (.run [.o 33 (.aE c9 0), .o 34 (.load gQ false 1), .m 35 di, .c 36 bZ [gW,iM]]) QU1) (.seq (.run [.o 6 (.mv (.k (.int .i64 0)))]) .ret)
abbrev QU7:AC:= .seq (.seq (.run [.o 9 (.aE dL 1), .o 10 (.load dv false 1), .o 11 (.len cj), .o 12 (.mv (.k (.int .i64 0)))]) QTR) (.seq (.seq (.run [.o 29 (.aE dL 2), .o 30 (.load gp false 1), .m 31 di, .c 32 bZ [gV,gq]]) QTW) QU5)
abbrev QU8:AC:= .seq (.run [.o 3 (.box bB), .o 4 (.box bm), .o 6 (.mv (.k (.int .i64 0)))]) QU7
abbrev QUD:AC:= .cond dL (.seq (.run [.o 2 (.mv (.k (.slice .full 0 [])))]) .ret) .skip
abbrev QUI:AC:= .seq (.run [.o 2 (.mv (.k (.slice .full 0 [])))]) (.seq (.seq (.run [.m 3 bB, .nil (some 4) none false c9]) QUD) (.seq (.run [.o 5 (.cE [(.str [])] 1 0 []), .m 6 bB, .o 7 (.app 1 16 bN cv), .m 2 cf]) .ret))
abbrev QUN:AC:= .cond dL (.seq (.run [.o 2 (.mv (.k (.slice .full 0 [])))]) .ret) .skip
abbrev QUS:AC:= .seq (.run [.o 2 (.mv (.k (.slice .full 0 [])))]) (.seq (.seq (.run [.m 3 bB, .nil (some 4) none false c9]) QUN) (.seq (.run [.o 5 (.cE [(.str []),(.bool false)] 2 0 []), .m 6 bB, .o 7 (.app 2 24 bN cv), .m 2 cf]) .ret))
abbrev QV5:AC:= .par [.o 26 (.aE cj 2), .o 27 (.load fQ false 1), .c 28 fb [fx], .o 29 (.aE cj 5), .o 30 (.load gp true 4), .c 31 jz [gV], .o 32 (.aE b7 2), .op none none (.store gF gn 1), .o 33 (.aE b7 5), .op none none (.store gQ gq 4), .o 34 (.aE b7 10), .op none none (.store gW (.k (.slice .full 0 [])) 1)] [(0,0),(1,0),(2,0),(3,0),(4,1),(5,0),(6,0),(7,0),(8,0),(9,0),(10,0),(11,0)]
abbrev QVE:AC:= .block 3 (.seq (.run [.o 40 (.bT iN jW 6), .o 41 (.load ll true 6), .o 13 (.alloc [(.bool false),(.str []),(.int .i64 0),(.int .i64 0),(.str []),(.slice .full 0 [])]), .op none none (.store cV kp 6)]) (.seq (.run [.o 42 (.aE cV 2), .o 43 (.load ln true 4), .c 44 jz [kO], .o 45 (.aE cV 2), .op none none (.store mD lp 4)]) (.run [.o 46 (.aE b7 10), .o 47 (.load mE false 1), .o 48 (.load cV true 6), .o 49 (.cE [(.bool false),(.str []),(.int .i64 0),(.int .i64 0),(.str []),(.slice .full 0 [])] 6 1 [(0,ny)]), .o 50 (.app 6 80 nw lq), .o 51 (.aE b7 10), .op none none (.store lP mF 1)])))
abbrev QVH:AC:= .seq (.cond jX .skip (.exit 2)) (.seq QVE (.run [.o 52 (.bin .add jW (.k (.int .i64 1))), .m 38 lQ]))
abbrev QVL:AC:= .seq (.run [.o 35 (.aE cj 10), .o 36 (.load iM false 1), .o 37 (.len iN), .o 38 (.mv (.k (.int .i64 0)))]) (.block 2 (.loop (.seq (.run [.o 39 (.bin .lss jW jA)]) QVH)))
abbrev QVR:AC:= .seq QVL (.seq (.run [.o 54 (.aE cj 11), .o 55 (.load nz false 1), .m 56 bm, .m 57 di, .c 58 gU [oa,oc,od], .m 53 oe, .o 59 (.ext mH 0), .o 60 (.ext mH 1), .o 61 (.aE b7 11), .op none none (.store sJ lR 1), .m 1 qa]) (.seq (.run [.o 63 (.aE cj 12), .o 64 (.load rA false 1), .m 65 bm, .m 66 di, .c 67 gU [qc,rB,wg], .m 62 uy, .o 68 (.ext qb 0), .o 69 (.ext qb 1), .o 70 (.aE b7 12), .op none none (.store wi uz 1), .m 1 wh]) (.run [.m 71 cA, .o 72 (.load b7 true 13), .o 73 (.cE [(.int .i64 0),(.int .i64 0),(.slice .full 0 []),(.str []),(.str []),(.int .i64 0),(.int .i64 0),(.str []),(.slice .full 0 []),(.bool false),(.slice .full 0 []),(.slice .full 0 []),(.slice .full 0 [])] 13 1 [(0,x9)]), .o 74 (.app 13 208 Bx By), .m 8 Bz])))
abbrev QVU:AC:= .seq (.run [.o 22 (.load cj true 13), .o 11 (.alloc [(.int .i64 0),(.int .i64 0),(.slice .full 0 []),(.str []),(.str []),(.int .i64 0),(.int .i64 0),(.str []),(.slice .full 0 []),(.bool false),(.slice .full 0 []),(.slice .full 0 []),(.slice .full 0 [])]), .op none none (.store b7 ew 13)]) (.seq (.seq (.run [.m 23 di]) (.cond ep (.run [.m 24 bm, .o 25 (.aE b7 0), .op none none (.store e9 fw 1)]) .skip)) (.seq QV5 QVR))
abbrev QVW:AC:= .seq (.run [.o 18 (.bT cW cy 13), .o 19 (.load dE true 13), .o 10 (.alloc [(.int .i64 0),(.int .i64 0),(.slice .full 0 []),(.str []),(.str []),(.int .i64 0),(.int .i64 0),(.str []),(.slice .full 0 []),(.bool false),(.slice .full 0 []),(.slice .full 0 []),(.slice .full 0 [])]), .op none none (.store cj ef 13)]) (.seq (.run [.m 20 bm, .o 21 (.bin .add eg (.k (.int .i64 1))), .m 1 eh]) QVU)
abbrev QW0:AC:= .seq (.cond dA .skip (.exit 0)) (.seq (.block 1 QVW) (.run [.o 75 (.bin .add cy (.k (.int .i64 1))), .m 16 BA]))
abbrev QW4:AC:= .seq (.run [.m 14 bB, .o 15 (.len cW), .o 16 (.mv (.k (.int .i64 0)))]) (.block 0 (.loop (.seq (.run [.o 17 (.bin .lss cy dq)]) QW0)))
abbrev QW9:AC:= .seq (.run [.o 6 (.mv (.k (.slice .full 0 []))), .o 7 (.mv (.k (.int .i64 0)))]) (.seq (.run [.o 8 (.mv (.k (.slice .full 0 [])))]) (.seq QW4 (.seq (.run [.m 76 cA, .m 77 bm, .m 6 ya, .m 7 BB]) .ret)))
abbrev QWD:AC:= .seq (.run [.o 1 (.box bB), .o 2 (.mv (.k (.bool false)))]) (.seq (.run [.o 3 (.load bm true 4), .c 4 l5 [c9,(.k (.int .i64 20))], .o 5 (.bin .leq dL (.k (.int .i64 20))), .m 6 bN, .g 7 6 true (.load bm true 4), .d 8 6 true l6 [cf], .o 9 (.pick cv cA (.k (.bool false))), .m 2 dv]) .ret)
abbrev QWS:AC:= .seq (.cond dA .skip (.exit 0)) (.seq (.block 1 (.seq (.run [.m 18 cy, .m 5 dE]) (.run [.o 19 (.aE di 3), .o 20 (.load ef false 1), .m 21 bN, .o 22 (.bT eg eh 4), .o 23 (.load ew true 4), .m 24 bm, .c 25 gI [ep,fw], .m 1 e9]))) (.run [.o 26 (.bin .add cy (.k (.int .i64 1))), .m 16 fQ]))
abbrev QWW:AC:= .seq (.run [.o 13 (.aE di 3), .o 14 (.load cV false 1), .o 15 (.len cW), .o 16 (.mv (.k (.int .i64 0)))]) (.block 0 (.loop (.seq (.run [.o 17 (.bin .lss cy dq)]) QWS)))
abbrev QX0:AC:= .seq (.seq (.run [.o 6 (.aE di 0), .o 7 (.load cv false 1), .o 8 (.bin .eql cf (.k (.int .i64 2)))]) (.cond cA (.run [.m 9 bm, .o 10 (.aE di 2), .o 11 (.load cj false 1), .c 12 kF [dv,b7], .m 1 cH]) .skip)) (.seq QWW (.seq (.run [.m 27 bm, .m 4 fx]) .ret))
abbrev QX1:AC:= .seq (.run [.o 2 (.box bB), .o 4 (.mv (.k (.slice .full 0 [])))]) QX0
abbrev QX5:AC:= .seq (.run [.o 2 (.mv (.k (.bool false)))]) (.seq (.run [.m 3 bB, .o 4 (.bin .geq c9 (.k (.int .u8 97))), .m 5 dL, .g 6 5 true (.mv bB), .g 7 5 true (.bin .leq cv (.k (.int .u8 122))), .o 8 (.pick bN cf (.k (.bool false))), .m 2 cA]) .ret)
abbrev QXC:AC:= .seq (.seq (.run [.m 5 bm, .m 6 bB, .o 7 (.nV cv), .o 8 (.bin .lss bN cf), .m 9 cA, .g 10 9 true (.mv bB), .g 11 9 true (.mv bm), .g 12 9 true (.pN cj b7), .d 13 9 true nq [cH], .g 14 9 true (.mv cV), .g 15 14 false (.mv bB), .g 16 14 false (.mv bm), .g 17 14 false (.pN dq cy), .d 18 14 false rq [dA], .g 19 9 true (.pick cW (.k (.bool true)) dE), .o 20 (.pick dv ef (.k (.bool false)))]) (.cond eg .skip (.exit 0))) (.block 1 (.run [.m 21 bm, .o 22 (.bin .add eh (.k (.int .i64 1))), .m 1 ew]))
abbrev QXI:AC:= .seq (.run [.o 4 (.mv (.k (.int .i64 0)))]) (.seq (.block 0 (.loop QXC)) (.seq (.run [.m 23 bm, .m 4 ep]) .ret))
abbrev QXZ:AC:= .seq (.run [.o 16 (.bin .eql c9 (.k (.str [114,101,97,100]))), .m 4 cy]) (.cond dL .skip (.run [.o 17 (.bin .eql c9 (.k (.str [112,114,105,110,116]))), .m 4 dA]))
abbrev QY2:AC:= .cond dL .skip (.seq (.run [.o 15 (.bin .eql c9 (.k (.str [103,111,116,111]))), .m 4 dq]) (.cond dL .skip QXZ))
abbrev QY4:AC:= .cond dL .skip (.seq (.run [.o 14 (.bin .eql c9 (.k (.str [114,101,116,117,114,110]))), .m 4 cW]) QY2)
abbrev QY6:AC:= .cond dL .skip (.seq (.run [.o 13 (.bin .eql c9 (.k (.str [99,111,110,116,105,110,117,101]))), .m 4 cV]) QY4)
abbrev QY8:AC:= .cond dL .skip (.seq (.run [.o 12 (.bin .eql c9 (.k (.str [98,114,101,97,107]))), .m 4 cH]) QY6)
abbrev QYA:AC:= .cond dL .skip (.seq (.run [.o 11 (.bin .eql c9 (.k (.str [119,104,105,108,101]))), .m 4 b7]) QY8)
abbrev QYC:AC:= .cond dL .skip (.seq (.run [.o 10 (.bin .eql c9 (.k (.str [101,108,115,101]))), .m 4 cj]) QYA)
abbrev QYE:AC:= .cond dL .skip (.seq (.run [.o 9 (.bin .eql c9 (.k (.str [105,102]))), .m 4 dv]) QYC)
abbrev QYG:AC:= .cond dL .skip (.seq (.run [.o 8 (.bin .eql c9 (.k (.str [114,101,102]))), .m 4 cA]) QYE)
abbrev QYI:AC:= .cond dL .skip (.seq (.run [.o 7 (.bin .eql c9 (.k (.str [118,97,114]))), .m 4 cf]) QYG)
abbrev QYK:AC:= .cond dL .skip (.seq (.run [.o 6 (.bin .eql c9 (.k (.str [112,114,111,99]))), .m 4 cv]) QYI)
abbrev QYO:AC:= .cond dL (.seq (.run [.o 2 (.mv (.k (.bool true)))]) .ret) .skip
abbrev QYP:AC:= .seq (.seq (.run [.o 5 (.bin .eql c9 (.k (.str [103,108,111,98,97,108]))), .m 4 bN]) QYK) QYO
abbrev QYU:AC:= .seq (.seq (.run [.m 3 bB]) (.block 0 QYP)) (.seq (.run [.o 2 (.mv (.k (.bool false)))]) .ret)
abbrev QYV:AC:= .seq (.run [.o 2 (.mv (.k (.bool false)))]) QYU
abbrev QYX:AC:= .par [.o 10 (.aE bm 9), .o 11 (.load cj false 1), .o 3 (.mv (.k (.bool false))), .o 4 (.mv (.k (.bool false))), .o 5 (.mv (.k (.bool false))), .m 6 b7, .o 7 (.mv (.k (.bool false))), .o 8 (.mv (.k (.bool false)))] [(0,0),(1,0),(2,0),(3,0),(4,0),(5,0),(6,0),(7,0)]
abbrev QZ5:AC:= .seq (.run [.o 20 (.bin .eql cy (.k (.int .i64 2))), .m 19 eg]) (.cond ef .skip (.run [.o 21 (.bin .eql cy (.k (.int .i64 10))), .m 19 eh]))
abbrev QZK:AC:= .seq (.run [.o 38 (.bin .eql cy (.k (.int .i64 7))), .m 37 jW]) (.cond jA .skip (.run [.o 39 (.bin .eql cy (.k (.int .i64 8))), .m 37 jX]))
abbrev QZN:AC:= .cond jA .skip (.seq (.run [.o 2 (.mv (.k (.bool false)))]) .ret)
abbrev QZQ:AC:= .seq (.run [.o 34 (.bin .eql cy (.k (.int .i64 9))), .m 33 gW]) (.cond gQ (.run [.o 35 (.aE bm 9), .o 36 (.load iM false 1), .m 5 iN, .o 6 (.mv (.k (.bool false)))]) (.seq QZK QZN))
abbrev QZS:AC:= .seq (.run [.o 32 (.bin .eql cy (.k (.int .i64 6))), .m 31 gF]) (.cond gq (.run [.o 5 (.mv (.k (.bool true))), .o 7 (.mv (.k (.bool true)))]) QZQ)
abbrev QZU:AC:= .seq (.run [.o 30 (.bin .eql cy (.k (.int .i64 5))), .m 29 gV]) (.cond gp (.run [.o 5 (.mv (.k (.bool true))), .o 7 (.mv (.k (.bool true))), .o 8 (.mv (.k (.bool true)))]) QZS)
abbrev QZW:AC:= .seq (.run [.o 25 (.bin .eql cy (.k (.int .i64 4))), .m 24 e9]) (.cond fw (.run [.o 26 (.aE bm 3), .o 27 (.load fQ false 1), .o 28 (.bin .neq fx (.k (.str []))), .m 3 gn, .o 4 (.mv (.k (.bool true)))]) QZU)
abbrev QZY:AC:= .seq (.run [.o 23 (.bin .eql cy (.k (.int .i64 3))), .m 22 ep]) (.cond ew (.run [.o 5 (.mv (.k (.bool true)))]) QZW)
abbrev Uq:AC:= .seq QZ5 (.cond ef (.run [.o 3 (.mv (.k (.bool true)))]) QZY)
abbrev Ur:AC:= .seq (.run [.o 18 (.bin .eql cy (.k (.int .i64 1))), .m 17 dE]) (.cond dA (.run [.o 3 (.mv (.k (.bool true))), .o 5 (.mv (.k (.bool true)))]) Uq)
abbrev Us:AC:= .run [.m 40 cv, .m 41 ll, .g 42 41 false (.mv cf), .g 43 41 false (.un .not ln), .g 44 41 false (.mv kO), .g 45 44 true (.aE bm 11), .g 46 44 true (.load mD false 1), .g 47 44 true (.len mE), .g 48 44 true (.bin .gtr nw (.k (.int .i64 0))), .g 49 41 false (.pick lp ny (.k (.bool false))), .o 50 (.pick kp (.k (.bool true)) lq), .m 51 mF, .g 52 51 false (.mv cA), .g 53 51 false (.un .not lQ), .g 54 51 false (.mv mH), .g 55 54 true (.aE bm 12), .g 56 54 true (.load oa false 1), .g 57 54 true (.len oc), .g 58 54 true (.bin .gtr od (.k (.int .i64 0))), .g 59 51 false (.pick nz oe (.k (.bool false))), .o 60 (.pick lP (.k (.bool true)) lR), .m 61 qa, .g 62 61 false (.mv dv), .g 63 61 false (.un .not qb), .g 64 61 false (.mv rA), .g 65 64 true (.aE bm 10), .g 66 64 true (.load rB false 1), .g 67 64 true (.len wg), .g 68 64 true (.bin .gtr uy (.k (.int .i64 0))), .g 69 61 false (.pick qc uz (.k (.bool false))), .o 70 (.pick sJ (.k (.bool true)) wh)]
abbrev Ut:AC:= .cond wi (.seq (.run [.o 2 (.mv (.k (.bool false)))]) .ret) .skip
abbrev Uu:AC:= .cond PK (.seq (.run [.o 2 (.mv (.k (.bool false)))]) .ret) .skip
abbrev PR:AC:= .seq (.seq (.run [.o 71 (.aE bm 3), .o 72 (.load Bx false 1), .m 73 c9, .c 74 lk [x9,By], .o 75 (.un .not Bz), .m 76 BA, .g 77 76 false (.aE bm 4), .g 78 76 false (.load BB false 1), .g 79 76 false (.mv dL), .d 80 76 false lk [yc,JY], .g 81 76 false (.un .not JZ), .o 82 (.pick ya (.k (.bool true)) J0), .m 83 J1, .g 84 83 false (.aE bm 5), .g 85 83 false (.load PF true 4), .g 86 83 false (.mv bN), .d 87 83 false nr [PG,PH], .g 88 83 false (.un .not PI), .o 89 (.pick J2 (.k (.bool true)) PJ)]) Uu) (.seq (.run [.o 90 (.aE bm 10), .o 91 (.load PN false 1), .c 92 o8 [PO], .m 2 PQ]) .ret)
abbrev PS:AC:= .seq (.seq Us Ut) PR
abbrev J3:AC:= .seq (.seq (.run [.o 15 (.aE bm 1), .o 16 (.load dq false 1)]) (.block 0 Ur)) PS
abbrev PT:AC:= .seq (.run [.o 12 (.aE bm 1), .o 13 (.load cH false 1), .o 14 (.bin .eql cV (.k (.int .i64 4))), .m 9 cW]) J3
abbrev PU:AC:= .seq QYX PT
abbrev Uv:AC:= .seq (.run [.o 1 (.box bB), .o 2 (.mv (.k (.bool false)))]) PU
abbrev Uw:AC:= .seq (.block 1 (.seq (.run [.o 13 (.bT dv b7 13), .o 14 (.load cV true 13), .o 5 (.alloc [(.int .i64 0),(.int .i64 0),(.slice .full 0 []),(.str []),(.str []),(.int .i64 0),(.int .i64 0),(.str []),(.slice .full 0 []),(.bool false),(.slice .full 0 []),(.slice .full 0 []),(.slice .full 0 [])]), .op none none (.store bN cW 13)]) (.run [.m 15 c9, .o 16 (.load bN true 13), .c 17 jy [cy], .o 18 (.bin .add dq dA), .m 3 dE]))) (.run [.o 19 (.bin .add b7 (.k (.int .i64 1))), .m 11 ef])
abbrev Ux:AC:= .block 0 (.loop (.seq (.run [.o 12 (.bin .lss b7 cj)]) (.seq (.cond cH .skip (.exit 0)) Uw)))
abbrev Uy:AC:= .seq (.block 3 (.seq (.run [.o 25 (.bT eh ep 13), .o 26 (.load e9 true 13), .o 7 (.alloc [(.int .i64 0),(.int .i64 0),(.slice .full 0 []),(.str []),(.str []),(.int .i64 0),(.int .i64 0),(.str []),(.slice .full 0 []),(.bool false),(.slice .full 0 []),(.slice .full 0 []),(.slice .full 0 [])]), .op none none (.store cf fQ 13)]) (.run [.m 27 c9, .o 28 (.load cf true 13), .c 29 jy [gn], .o 30 (.bin .add fx gp), .m 3 gV]))) (.run [.o 31 (.bin .add ep (.k (.int .i64 1))), .m 23 gq])
abbrev Uz:AC:= .block 2 (.loop (.seq (.run [.o 24 (.bin .lss ep ew)]) (.seq (.cond fw .skip (.exit 2)) Uy)))
abbrev UA:AC:= .seq (.seq (.run [.o 20 (.aE bm 12), .o 21 (.load eg false 1), .o 22 (.len eh), .o 23 (.mv (.k (.int .i64 0)))]) Uz) (.seq (.run [.m 32 c9, .m 2 gF]) .ret)
abbrev UB:AC:= .seq (.seq (.run [.o 8 (.aE bm 11), .o 9 (.load cA false 1), .o 10 (.len dv), .o 11 (.mv (.k (.int .i64 0)))]) Ux) UA
abbrev UC:AC:= .seq (.run [.o 1 (.box bB), .o 2 (.mv (.k (.int .i64 0)))]) (.seq (.run [.o 3 (.mv (.k (.int .i64 1)))]) UB)
abbrev UD:AC:= .cond cy (.seq (.run [.o 2 (.mv (.k (.bool false)))]) .ret) .skip
abbrev UE:AC:= .cond gW (.seq (.run [.o 2 (.mv (.k (.bool false)))]) .ret) .skip
abbrev UF:AC:= .block 1 (.seq (.run [.m 23 bB, .m 24 c9, .o 25 (.pN ep fw), .c 26 nu [e9], .o 27 (.un .not fQ), .m 28 fx, .g 29 28 true (.mv bB), .g 30 28 true (.mv c9), .g 31 28 true (.pN gp gV), .d 32 28 true p7 [gq], .g 33 28 true (.un .not gF), .o 34 (.pick gn gQ (.k (.bool false)))]) UE)
abbrev UG:AC:= .seq (.seq (.run [.m 17 c9, .m 18 bB, .o 19 (.nV dE), .o 20 (.bin .lss dA ef)]) (.cond eg .skip (.exit 0))) (.seq UF (.run [.m 21 c9, .o 22 (.bin .add eh (.k (.int .i64 1))), .m 3 ew]))
abbrev UH:AC:= .seq (.seq (.run [.o 3 (.mv (.k (.int .i64 1)))]) (.block 0 (.loop UG))) (.seq (.run [.m 35 bB, .c 36 rr [iM], .o 37 (.un .not iN), .m 2 jA]) .ret)
abbrev UI:AC:= .seq (.seq (.run [.m 4 bB, .o 5 (.bin .eql dL (.k (.str []))), .m 6 bN, .g 7 6 false (.mv bB), .g 8 6 false (.nV cf), .g 9 6 false (.bin .gtr cA (.k (.int .i64 8))), .o 10 (.pick cv (.k (.bool true)) dv), .m 11 cj, .g 12 11 false (.mv bB), .g 13 11 false (.pN cH (.k (.int .i64 0))), .d 14 11 false nu [cV], .g 15 11 false (.un .not cW), .o 16 (.pick b7 (.k (.bool true)) dq)]) UD) UH
abbrev UJ:AC:= .seq (.run [.o 2 (.mv (.k (.bool false)))]) UI
abbrev UK:AC:= .seq (.run [.o 1 (.box bB), .o 2 (.mv (.k (.bool false)))]) (.seq (.run [.o 3 (.load bm true 4), .c 4 l7 [c9,(.k (.int .i64 20))], .m 2 dL]) .ret)
abbrev UL:AC:= .seq (.block 1 (.seq (.run [.o 27 (.bT ep e9 4), .o 28 (.load fx true 4), .o 6 (.alloc [(.int .i64 0),(.int .i64 0),(.str []),(.slice .full 0 [])]), .op none none (.store cv gn 4)]) (.run [.o 29 (.load cv true 4), .m 30 bm, .c 31 fK [gp,gV], .m 1 gq]))) (.run [.o 32 (.bin .add e9 (.k (.int .i64 1))), .m 25 gF])
abbrev UM:AC:= .block 0 (.loop (.seq (.run [.o 26 (.bin .lss e9 fw)]) (.seq (.cond fQ .skip (.exit 0)) UL)))
abbrev UN:AC:= .seq (.seq (.run [.o 22 (.aE di 3), .o 23 (.load ew false 1), .o 24 (.len ep), .o 25 (.mv (.k (.int .i64 0)))]) UM) (.seq (.run [.m 33 bm, .m 4 gQ]) .ret)
abbrev UO:AC:= .seq (.seq (.run [.o 7 (.aE di 0), .o 8 (.load cf false 1), .o 9 (.bin .eql cA (.k (.int .i64 2))), .m 10 dv, .g 11 10 true (.mv bm), .g 12 10 true (.aE di 2), .g 13 10 true (.load cH false 1), .d 14 10 true bZ [b7,cV], .g 15 10 true (.un .not cW), .o 16 (.pick cj dq (.k (.bool false)))]) (.cond cy (.run [.m 17 bm, .o 18 (.aE di 2), .o 19 (.load dE false 1), .o 20 (.cE [(.str [])] 1 1 [(0,ef)]), .o 21 (.app 1 16 dA eg), .m 1 eh]) .skip)) UN
abbrev UP:AC:= .seq (.run [.o 2 (.box bB), .o 4 (.mv (.k (.slice .full 0 [])))]) UO
end Go.Abs

/-! Have2 -/

namespace Go.Abs
open Go.Proofs
theorem nR:Has Tryz.prog ez 19 [(4,none)] QS2:=⟨Tryz.f85,by kernel_rfl,by kernel_rfl⟩
theorem rZ:Has Tryz.prog iR 8 [(3,none)] QS6:=⟨Tryz.f86,by kernel_rfl,by kernel_rfl⟩
theorem sa:Has Tryz.prog np 8 [(2,none)] QSG:=⟨Tryz.f87,by kernel_rfl,by kernel_rfl⟩
theorem oO:Has Tryz.prog ij 19 [(4,none)] QT3:=⟨Tryz.f90,by kernel_rfl,by kernel_rfl⟩
theorem yf:Has Tryz.prog p6 37 [(6,none)] QU8:=⟨Tryz.f91,by kernel_rfl,by kernel_rfl⟩
theorem qn:Has Tryz.prog fb 8 [(2,none)] QUI:=⟨Tryz.f92,by kernel_rfl,by kernel_rfl⟩
theorem pb:Has Tryz.prog iL 8 [(2,none)] QUS:=⟨Tryz.f93,by kernel_rfl,by kernel_rfl⟩
theorem xg:Has Tryz.prog gU 78 [(6,none),(7,none)] QW9:=⟨Tryz.f94,by kernel_rfl,by kernel_rfl⟩
theorem wj:Has Tryz.prog n9 10 [(2,none)] QWD:=⟨Tryz.f95,by kernel_rfl,by kernel_rfl⟩
theorem pd:Has Tryz.prog gI 28 [(4,none)] QX1:=⟨Tryz.f96,by kernel_rfl,by kernel_rfl⟩
theorem yg:Has Tryz.prog nq 9 [(2,none)] QX5:=⟨Tryz.f99,by kernel_rfl,by kernel_rfl⟩
theorem CG:Has Tryz.prog uv 24 [(4,none)] QXI:=⟨Tryz.f100,by kernel_rfl,by kernel_rfl⟩
theorem BH:Has Tryz.prog sI 18 [(2,none)] QYV:=⟨Tryz.f101,by kernel_rfl,by kernel_rfl⟩
theorem xh:Has Tryz.prog o7 93 [(2,none)] Uv:=⟨Tryz.f102,by kernel_rfl,by kernel_rfl⟩
theorem z8:Has Tryz.prog jy 33 [(2,none)] UC:=⟨Tryz.f104,by kernel_rfl,by kernel_rfl⟩
theorem ti:Has Tryz.prog rp 38 [(2,none)] UJ:=⟨Tryz.f106,by kernel_rfl,by kernel_rfl⟩
theorem wk:Has Tryz.prog lC 5 [(2,none)] UK:=⟨Tryz.f108,by kernel_rfl,by kernel_rfl⟩
theorem nC:Has Tryz.prog fK 34 [(4,none)] UP:=⟨Tryz.f109,by kernel_rfl,by kernel_rfl⟩
end Go.Abs

/-! Codes3 -/

namespace Go.Abs
abbrev UQ:AC:= .par [.o 15 (.aE bm 3), .o 16 (.load dq false 1), .o 17 (.load bN true 4), .c 18 jz [dA], .o 19 (.cE [(.int .i64 0),(.int .i64 0),(.str []),(.slice .full 0 [])] 4 1 [(0,dE)]), .o 20 (.app 4 56 cy ef), .o 21 (.aE bm 3), .op none none (.store eh eg 1)] [(2,0),(3,0),(0,0),(1,1),(4,0),(5,0),(6,0),(7,0)]
abbrev UR:AC:= .seq (.block 1 (.seq (.run [.o 13 (.bT dv b7 4), .o 14 (.load cV true 4), .o 5 (.alloc [(.int .i64 0),(.int .i64 0),(.str []),(.slice .full 0 [])]), .op none none (.store bN cW 4)]) UQ)) (.run [.o 22 (.bin .add b7 (.k (.int .i64 1))), .m 11 ew])
abbrev US:AC:= .block 0 (.loop (.seq (.run [.o 12 (.bin .lss b7 cj)]) (.seq (.cond cH .skip (.exit 0)) UR)))
abbrev UT:AC:= .seq (.seq (.run [.m 9 c9, .o 10 (.len dv), .o 11 (.mv (.k (.int .i64 0)))]) US) (.seq (.run [.o 23 (.load bm true 4), .op none none (.store di ep 4)]) .ret)
abbrev UU:AC:= .seq (.run [.o 6 (.aE bm 3), .o 7 (.load cv false 1), .m 3 cf]) (.seq (.run [.o 8 (.aE bm 3), .op none none (.store cA (.k (.slice .full 0 [])) 1)]) UT)
abbrev UW:AC:= .seq (.run [.o 1 (.box bB), .o 2 (.alloc [(.int .i64 0),(.int .i64 0),(.str []),(.slice .full 0 [])])]) UU
abbrev UX:AC:= .cond dv (.seq (.run [.o 4 (.mv (.k (.int .i64 1)))]) .ret) .skip
abbrev UY:AC:= .block 1 (.seq (.run [.o 22 (.aE di 3), .o 23 (.load ew false 1), .m 24 cv, .o 25 (.bT ep fw 4), .o 26 (.load e9 true 4), .m 27 bm, .o 28 (.bin .sub fx (.k (.int .i64 1))), .c 29 l5 [fQ,gn], .m 7 gp]) (.seq (.run [.m 30 cf, .m 31 bN, .o 32 (.bin .gtr gV gq)]) (.cond gF (.run [.m 33 cf, .m 5 gQ]) .skip)))
abbrev UZ:AC:= .seq (.seq (.run [.m 10 cv, .o 11 (.aE di 3), .o 12 (.load b7 false 1), .o 13 (.len cH), .o 14 (.bin .lss cj cV), .m 15 cW, .g 16 15 true (.mv bN), .g 17 15 true (.mv bm), .g 18 15 true (.bin .lss cy dA), .o 19 (.pick dq dE (.k (.bool false)))]) (.cond ef .skip (.exit 0))) (.seq UY (.run [.m 20 cv, .o 21 (.bin .add eg (.k (.int .i64 1))), .m 6 eh]))
abbrev U0:AC:= .seq (.seq (.run [.o 6 (.mv (.k (.int .i64 0)))]) (.block 0 (.loop UZ))) (.seq (.run [.m 34 bN, .o 35 (.bin .add gW (.k (.int .i64 1))), .m 4 iM]) .ret)
abbrev U1:AC:= .seq (.seq (.run [.m 8 bm, .o 9 (.bin .eql cA (.k (.int .i64 0)))]) UX) (.seq (.run [.o 5 (.mv (.k (.int .i64 0)))]) U0)
abbrev U2:AC:= .seq (.run [.o 2 (.box bB), .o 4 (.mv (.k (.int .i64 0)))]) U1
abbrev U3:AC:= .par [.o 4 (.aE bm 0), .o 5 (.load dL false 1), .c 6 p8 [bN], .o 7 (.aE bm 3), .o 8 (.load cf false 1), .o 9 (.len cA), .o 10 (.bin .neq cv dv), .m 11 cj, .g 12 11 false (.aE bm 0), .g 13 11 false (.load cH false 1), .g 14 11 false (.bin .neq cV (.k (.int .i64 1))), .g 15 11 false (.mv cW), .g 16 15 true (.aE bm 1), .g 17 15 true (.load cy false 1), .g 18 15 true (.bin .neq dA (.k (.int .i64 0))), .g 19 11 false (.pick dq dE (.k (.bool false))), .o 20 (.pick b7 (.k (.bool true)) ef), .m 21 eg, .g 22 21 false (.aE bm 1), .g 23 21 false (.load ew false 1), .g 24 21 false (.bin .lss ep (.k (.int .i64 0))), .o 25 (.pick eh (.k (.bool true)) fw), .m 26 e9, .g 27 26 false (.aE bm 0), .g 28 26 false (.load fx false 1), .g 29 26 false (.bin .eql gn (.k (.int .i64 2))), .g 30 26 false (.aE bm 2), .g 31 26 false (.load gV false 1), .g 32 26 false (.bin .neq gq (.k (.str []))), .g 33 26 false (.yH true gp gF), .o 34 (.pick fQ (.k (.bool true)) gQ), .m 35 gW, .g 36 35 false (.aE bm 2), .g 37 35 false (.load iN false 1), .g 38 35 false (.bin .neq jA (.k (.str []))), .g 39 35 false (.mv jW), .g 40 39 true (.aE bm 2), .g 41 39 true (.load ll false 1), .d 42 39 true rp [kp], .g 43 39 true (.un .not ln), .g 44 35 false (.pick jX kO (.k (.bool false))), .o 45 (.pick iM (.k (.bool true)) lp)] [(0,0),(1,0),(2,0),(3,0),(4,1),(5,0),(6,0),(7,0),(8,0),(9,0),(10,0),(11,0),(12,0),(13,0),(14,0),(15,0),(16,0),(17,0),(18,0),(19,0),(20,0),(21,0),(22,0),(23,0),(24,0),(25,0),(26,0),(27,0),(28,0),(29,0),(30,0),(31,0),(32,0),(33,0),(34,0),(35,0),(36,0),(37,0),(38,0),(39,0),(40,0),(41,0)]
abbrev U4:AC:= .cond mD (.seq (.run [.o 2 (.mv (.k (.bool false)))]) .ret) .skip
abbrev U5:AC:= .cond oe (.seq (.run [.o 2 (.mv (.k (.bool false)))]) .ret) .skip
abbrev U6:AC:= .seq (.block 1 (.seq (.run [.m 51 lq, .m 3 lP]) (.seq (.run [.o 52 (.aE bm 3), .o 53 (.load lQ false 1), .m 54 c9, .o 55 (.bT mH nz 4), .o 56 (.load oa true 4), .c 57 l6 [oc], .o 58 (.un .not od)]) U5))) (.run [.o 59 (.bin .add lq (.k (.int .i64 1))), .m 49 lR])
abbrev U7:AC:= .block 0 (.loop (.seq (.run [.o 50 (.bin .lss lq ny)]) (.seq (.cond mF .skip (.exit 0)) U6)))
abbrev U8:AC:= .seq (.seq (.run [.o 46 (.aE bm 3), .o 47 (.load mE false 1), .o 48 (.len nw), .o 49 (.mv (.k (.int .i64 0)))]) U7) (.seq (.run [.o 2 (.mv (.k (.bool true)))]) .ret)
abbrev U9:AC:= .seq (.run [.o 1 (.box bB), .o 2 (.mv (.k (.bool false)))]) (.seq (.seq U3 U4) U8)
abbrev Va:AC:= .block 1 (.seq (.run [.o 11 (.bT cf dv 1), .o 12 (.load b7 false 1), .m 6 cH]) (.seq (.run [.m 13 cv, .m 14 bm, .o 15 (.bin .eql cV cW)]) (.cond dq (.seq (.run [.m 16 bB, .m 4 cy]) .ret) .skip)))
abbrev Vb:AC:= .seq (.cond cj .skip (.exit 0)) (.seq Va (.run [.o 17 (.bin .add dv (.k (.int .i64 1))), .m 9 dA]))
abbrev Vc:AC:= .seq (.run [.m 7 bB, .o 8 (.len cf), .o 9 (.mv (.k (.int .i64 0)))]) (.block 0 (.loop (.seq (.run [.o 10 (.bin .lss dv cA)]) Vb)))
abbrev Vd:AC:= .seq (.run [.o 4 (.mv (.k (.slice .full 0 [])))]) (.seq Vc (.seq (.run [.m 18 bB, .m 19 bm, .o 20 (.cE [(.str [])] 1 1 [(0,ef)]), .o 21 (.app 1 16 dE eg), .m 4 eh]) .ret))
abbrev Ve:AC:= .seq (.run [.o 2 (.mv (.k (.bool false)))]) (.seq (.run [.m 3 bB, .o 4 (.bin .geq c9 (.k (.int .u8 48))), .m 5 dL, .g 6 5 true (.mv bB), .g 7 5 true (.bin .leq cv (.k (.int .u8 57))), .o 8 (.pick bN cf (.k (.bool false))), .m 2 cA]) .ret)
abbrev Vf:AC:= .seq (.run [.o 4 (.mv (.k (.bool false)))]) (.seq (.run [.m 5 bm, .m 6 bN, .g 7 6 true (.mv bB), .d 8 6 true ko [cf], .o 9 (.pick cv cA (.k (.bool false))), .m 10 dv, .g 11 10 false (.mv bm), .g 12 10 false (.un .not b7), .g 13 10 false (.mv cH), .g 14 13 true (.mv bB), .g 15 13 true (.bin .eql cW (.k (.str []))), .g 16 10 false (.pick cV dq (.k (.bool false))), .o 17 (.pick cj (.k (.bool true)) cy), .m 4 dA]) .ret)
abbrev Vg:AC:= .seq (.run [.o 2 (.box bB), .o 4 (.mv (.k (.bool false)))]) (.seq (.run [.m 5 bm, .m 6 bN, .g 7 6 true (.load di true 4), .d 8 6 true lC [cf], .o 9 (.pick cv cA (.k (.bool false))), .m 10 dv, .g 11 10 false (.mv bm), .g 12 10 false (.un .not b7), .g 13 10 false (.mv cH), .g 14 13 true (.load di true 4), .d 15 13 true ry [cW], .g 16 10 false (.pick cV dq (.k (.bool false))), .o 17 (.pick cj (.k (.bool true)) cy), .m 4 dA]) .ret)
abbrev Vh:AC:= .cond e9 (.seq (.run [.o 2 (.mv (.k (.bool false)))]) .ret) .skip
abbrev Vi:AC:= .seq (.run [.o 9 (.bT bN cf 6), .o 10 (.load dv true 6), .o 4 (.alloc [(.bool false),(.str []),(.int .i64 0),(.int .i64 0),(.str []),(.slice .full 0 [])]), .op none none (.store dL cj 6)]) (.seq (.run [.o 11 (.aE dL 1), .o 12 (.load b7 false 1), .o 13 (.aE dL 0), .o 14 (.load cV false 1), .c 15 lk [cH,cW], .o 16 (.un .not dq), .m 17 cy, .g 18 17 false (.aE dL 2), .g 19 17 false (.load dE true 4), .g 20 17 false (.aE dL 0), .g 21 17 false (.load eg false 1), .g 22 17 false (.un .not eh), .d 23 17 false nr [ef,ew], .g 24 17 false (.un .not ep), .o 25 (.pick dA (.k (.bool true)) fw)]) Vh)
abbrev Vj:AC:= .seq (.cond cA .skip (.exit 0)) (.seq (.block 1 Vi) (.run [.o 26 (.bin .add cf (.k (.int .i64 1))), .m 7 fQ]))
abbrev Vk:AC:= .seq (.run [.m 5 bB, .o 6 (.len bN), .o 7 (.mv (.k (.int .i64 0)))]) (.block 0 (.loop (.seq (.run [.o 8 (.bin .lss cf cv)]) Vj)))
abbrev Vl:AC:= .seq Vk (.seq (.run [.o 2 (.mv (.k (.bool true)))]) .ret)
abbrev Vm:AC:= .seq (.run [.o 2 (.mv (.k (.bool false)))]) Vl
abbrev Vn:AC:= .seq (.run [.o 2 (.mv (.k (.bool false)))]) (.seq (.run [.m 3 bB, .o 4 (.bin .geq c9 (.k (.int .u8 97))), .m 5 dL, .g 6 5 true (.mv bB), .g 7 5 true (.bin .leq cv (.k (.int .u8 122))), .o 8 (.pick bN cf (.k (.bool false))), .m 2 cA]) .ret)
abbrev Vo:AC:= .seq (.run [.o 2 (.mv (.k (.bool false)))]) (.seq (.run [.m 3 bB, .o 4 (.bin .geq c9 (.k (.int .u8 48))), .m 5 dL, .g 6 5 true (.mv bB), .g 7 5 true (.bin .leq cv (.k (.int .u8 57))), .o 8 (.pick bN cf (.k (.bool false))), .m 2 cA]) .ret)
abbrev Vp:AC:= .cond cV (.seq (.run [.o 2 (.mv (.k (.bool true)))]) .ret) .skip
abbrev Vq:AC:= .seq (.block 1 (.seq (.run [.o 9 (.bT bN cf 1), .o 10 (.load dv false 1), .m 4 cj]) (.seq (.run [.m 11 dL, .m 12 bB, .o 13 (.bin .eql b7 cH)]) Vp))) (.run [.o 14 (.bin .add cf (.k (.int .i64 1))), .m 7 cW])
abbrev Vr:AC:= .block 0 (.loop (.seq (.run [.o 8 (.bin .lss cf cv)]) (.seq (.cond cA .skip (.exit 0)) Vq)))
abbrev Vs:AC:= .seq (.seq (.run [.c 5 p9 [], .o 6 (.len bN), .o 7 (.mv (.k (.int .i64 0)))]) Vr) (.seq (.run [.o 2 (.mv (.k (.bool false)))]) .ret)
abbrev Vt:AC:= .seq (.run [.o 2 (.mv (.k (.bool false)))]) Vs
abbrev Vu:AC:= .par [.m 7 bm, .o 8 (.bin .lss cf (.k (.int .i64 1))), .m 9 cA, .g 10 9 false (.aE di 3), .g 11 9 false (.load cj false 1), .g 12 9 false (.len b7), .g 13 9 false (.aE di 0), .g 14 9 false (.load cV false 1), .d 15 9 false rz [cW], .g 16 9 false (.bin .neq cH dq), .o 17 (.pick dv (.k (.bool true)) cy)] [(0,0),(1,0),(2,0),(6,0),(7,0),(8,0),(3,0),(4,1),(5,0),(9,0),(10,0)]
abbrev Vv:AC:= .cond dA (.seq (.run [.o 4 (.mv (.k (.bool false)))]) .ret) .skip
abbrev Vw:AC:= .cond gV (.seq (.run [.o 32 (.aE di 1), .o 33 (.load gF false 1), .o 34 (.bin .eql gQ (.k (.int .i64 0))), .m 35 gW, .g 36 35 true (.aE di 2), .g 37 35 true (.load iN false 1), .d 38 35 true ko [jA], .o 39 (.pick iM jW (.k (.bool false))), .m 4 jX]) .ret) .skip
abbrev Vx:AC:= .cond eg (.seq (.run [.o 22 (.aE di 1), .o 23 (.load ew false 1), .o 24 (.bin .geq ep (.k (.int .i64 0))), .m 25 fw, .g 26 25 true (.aE di 2), .g 27 25 true (.load fQ false 1), .g 28 25 true (.bin .eql fx (.k (.str []))), .o 29 (.pick e9 gn (.k (.bool false))), .m 4 gp]) .ret) (.seq (.run [.o 31 (.bin .eql ef (.k (.int .i64 2))), .m 30 gq]) Vw)
abbrev Vy:AC:= .block 0 (.seq (.run [.o 21 (.bin .eql ef (.k (.int .i64 1))), .m 20 eh]) Vx)
abbrev Vz:AC:= .cond nw (.seq (.run [.o 4 (.mv (.k (.bool false)))]) .ret) .skip
abbrev VA:AC:= .cond lR (.seq (.run [.o 4 (.mv (.k (.bool false)))]) .ret) .skip
abbrev VB:AC:= .seq (.run [.o 53 (.bT lq lP 4), .o 54 (.load mH true 4), .o 6 (.alloc [(.int .i64 0),(.int .i64 0),(.str []),(.slice .full 0 [])]), .op none none (.store cv nz 4)]) (.seq (.run [.o 55 (.load cv true 4), .m 56 bm, .o 57 (.bin .sub oc (.k (.int .i64 1))), .c 58 l7 [oa,od], .o 59 (.un .not oe)]) VA)
abbrev VC:AC:= .seq (.cond lQ .skip (.exit 1)) (.seq (.block 2 VB) (.run [.o 60 (.bin .add lP (.k (.int .i64 1))), .m 51 qa]))
abbrev VD:AC:= .seq (.run [.o 48 (.aE di 3), .o 49 (.load ny false 1), .o 50 (.len lq), .o 51 (.mv (.k (.int .i64 0)))]) (.block 1 (.loop (.seq (.run [.o 52 (.bin .lss lP mF)]) VC)))
abbrev VE:AC:= .seq VD (.seq (.run [.o 4 (.mv (.k (.bool true)))]) .ret)
abbrev VF:AC:= .seq (.seq (.run [.o 40 (.aE di 1), .o 41 (.load ll false 1), .o 42 (.bin .neq kp (.k (.int .i64 0))), .m 43 ln, .g 44 43 false (.aE di 2), .g 45 43 false (.load lp false 1), .g 46 43 false (.bin .neq mD (.k (.str []))), .o 47 (.pick kO (.k (.bool true)) mE)]) Vz) VE
abbrev VG:AC:= .seq (.run [.o 2 (.box bB), .o 4 (.mv (.k (.bool false)))]) (.seq (.seq Vu Vv) (.seq (.seq (.run [.o 18 (.aE di 0), .o 19 (.load dE false 1)]) Vy) VF))
abbrev VH:AC:= .cond dA (.seq (.run [.o 2 (.mv (.k (.int .i64 2)))]) .ret) .skip
abbrev VI:AC:= .cond cj (.seq (.run [.o 2 (.mv (.k (.int .i64 1)))]) .ret) (.seq (.run [.m 18 bB, .o 19 (.bin .geq dE (.k (.int .i64 5))), .m 20 ef, .g 21 20 true (.mv bB), .g 22 20 true (.bin .leq eh (.k (.int .i64 17))), .o 23 (.pick eg ew (.k (.bool false))), .m 17 ep]) VH)
abbrev VJ:AC:= .cond c9 (.seq (.run [.o 2 (.mv (.k (.int .i64 0)))]) .ret) (.seq (.run [.m 11 bB, .o 12 (.bin .eql b7 (.k (.int .i64 3))), .m 13 cH, .g 14 13 false (.mv bB), .g 15 13 false (.bin .eql cW (.k (.int .i64 4))), .o 16 (.pick cV (.k (.bool true)) dq), .m 10 cy]) VI)
abbrev VK:AC:= .block 0 (.seq (.run [.m 4 bB, .o 5 (.bin .eql dL (.k (.int .i64 1))), .m 6 bN, .g 7 6 false (.mv bB), .g 8 6 false (.bin .eql cf (.k (.int .i64 2))), .o 9 (.pick cv (.k (.bool true)) cA), .m 3 dv]) VJ)
abbrev VL:AC:= .seq (.run [(.o 2 (.mv (.k (.int .i64 (-1)))))]) .ret
abbrev VM:AC:= .seq (.run [.o 2 (.mv (.k (.int .i64 0)))]) (.seq VK VL)
abbrev VN:AC:= .seq (.run [.o 1 (.box bB), .o 2 (.mv (.k (.bool false)))]) (.seq (.run [.o 3 (.aE bm 0), .o 4 (.load c9 false 1), .o 5 (.bin .eql dL (.k (.int .i64 0))), .m 6 bN, .g 7 6 true (.aE bm 1), .g 8 6 true (.load cf false 1), .g 9 6 true (.bin .eql cA (.k (.int .i64 0))), .o 10 (.pick cv dv (.k (.bool false))), .m 11 cj, .g 12 11 true (.aE bm 2), .g 13 11 true (.load cH false 1), .g 14 11 true (.bin .eql cV (.k (.str []))), .o 15 (.pick b7 cW (.k (.bool false))), .m 16 dq, .g 17 16 true (.aE bm 3), .g 18 16 true (.load dA false 1), .g 19 16 true (.len dE), .g 20 16 true (.bin .eql ef (.k (.int .i64 0))), .o 21 (.pick cy eg (.k (.bool false))), .m 2 eh]) .ret)
abbrev VO:AC:= .seq (.run [(.o 1 (.cE [(.str [])] 1 13 [(0,(.k (.str [103,108,111,98,97,108]))),(1,(.k (.str [112,114,111,99]))),(2,(.k (.str [118,97,114]))),(3,(.k (.str [114,101,102]))),(4,(.k (.str [105,102]))),(5,(.k (.str [101,108,115,101]))),(6,(.k (.str [119,104,105,108,101]))),(7,(.k (.str [98,114,101,97,107]))),(8,(.k (.str [99,111,110,116,105,110,117,101]))),(9,(.k (.str [114,101,116,117,114,110]))),(10,(.k (.str [103,111,116,111]))),(11,(.k (.str [114,101,97,100]))),(12,(.k (.str [112,114,105,110,116])))])), .m 0 bm]) .ret
abbrev VP:AC:= .seq (.run [.o 0 (.mv (.k (.slice .full 0 [])))]) VO
abbrev VQ:AC:= .cond dA (.seq (.run [.o 2 (.mv (.k (.int .i64 2)))]) .ret) .skip
abbrev VR:AC:= .cond cj (.seq (.run [.o 2 (.mv (.k (.int .i64 1)))]) .ret) (.seq (.run [.m 18 bB, .o 19 (.bin .geq dE (.k (.int .i64 5))), .m 20 ef, .g 21 20 true (.mv bB), .g 22 20 true (.bin .leq eh (.k (.int .i64 17))), .o 23 (.pick eg ew (.k (.bool false))), .m 17 ep]) VQ)
abbrev VS:AC:= .cond c9 (.seq (.run [.o 2 (.mv (.k (.int .i64 0)))]) .ret) (.seq (.run [.m 11 bB, .o 12 (.bin .eql b7 (.k (.int .i64 3))), .m 13 cH, .g 14 13 false (.mv bB), .g 15 13 false (.bin .eql cW (.k (.int .i64 4))), .o 16 (.pick cV (.k (.bool true)) dq), .m 10 cy]) VR)
abbrev VT:AC:= .block 0 (.seq (.run [.m 4 bB, .o 5 (.bin .eql dL (.k (.int .i64 1))), .m 6 bN, .g 7 6 false (.mv bB), .g 8 6 false (.bin .eql cf (.k (.int .i64 2))), .o 9 (.pick cv (.k (.bool true)) cA), .m 3 dv]) VS)
abbrev VU:AC:= .seq (.run [(.o 2 (.mv (.k (.int .i64 (-1)))))]) .ret
abbrev VV:AC:= .seq (.run [.o 2 (.mv (.k (.int .i64 0)))]) (.seq VT VU)
end Go.Abs

/-! Have3 -/

namespace Go.Abs
open Go.Proofs
theorem Aa:Has Tryz.prog jz 24 [(2,(some (true,4)))] UW:=⟨Tryz.f121,by kernel_rfl,by kernel_rfl⟩
theorem tj:Has Tryz.prog l5 36 [(4,none)] U2:=⟨Tryz.f122,by kernel_rfl,by kernel_rfl⟩
theorem Ab:Has Tryz.prog l6 60 [(2,none)] U9:=⟨Tryz.f123,by kernel_rfl,by kernel_rfl⟩
theorem qK:Has Tryz.prog kF 22 [(4,none)] Vd:=⟨Tryz.f124,by kernel_rfl,by kernel_rfl⟩
theorem Ac:Has Tryz.prog rq 9 [(2,none)] Ve:=⟨Tryz.f126,by kernel_rfl,by kernel_rfl⟩
theorem yh:Has Tryz.prog lk 18 [(4,none)] Vf:=⟨Tryz.f127,by kernel_rfl,by kernel_rfl⟩
theorem yi:Has Tryz.prog nr 18 [(4,none)] Vg:=⟨Tryz.f128,by kernel_rfl,by kernel_rfl⟩
theorem xi:Has Tryz.prog o8 27 [(2,none)] Vm:=⟨Tryz.f129,by kernel_rfl,by kernel_rfl⟩
theorem yj:Has Tryz.prog nu 9 [(2,none)] Vn:=⟨Tryz.f130,by kernel_rfl,by kernel_rfl⟩
theorem yk:Has Tryz.prog p7 9 [(2,none)] Vo:=⟨Tryz.f131,by kernel_rfl,by kernel_rfl⟩
theorem Ad:Has Tryz.prog rr 15 [(2,none)] Vt:=⟨Tryz.f132,by kernel_rfl,by kernel_rfl⟩
theorem tn:Has Tryz.prog l7 61 [(4,none)] VG:=⟨Tryz.f135,by kernel_rfl,by kernel_rfl⟩
theorem yl:Has Tryz.prog p8 24 [(2,none)] VM:=⟨Tryz.f142,by kernel_rfl,by kernel_rfl⟩
theorem Ae:Has Tryz.prog ry 22 [(2,none)] VN:=⟨Tryz.f143,by kernel_rfl,by kernel_rfl⟩
theorem ym:Has Tryz.prog p9 2 [(0,none)] VP:=⟨Tryz.f144,by kernel_rfl,by kernel_rfl⟩
theorem Af:Has Tryz.prog rz 24 [(2,none)] VV:=⟨Tryz.f145,by kernel_rfl,by kernel_rfl⟩
end Go.Abs

/-! Frz -/

namespace Go.Abs
theorem aG.tG {P:Program} {f:Nat} {args:List D} {s0 s:St} {o off n m:Nat} {row:List D} (h:aG P f args s0 (.ptr o off) s) (ho:s.au[o]? = some row) (hn:s0.au.length≤n) (hno:n≤o) (hm:s0.av.length≤m) :
 aG P f args s0 (.dd (D.fD n m row) off) (s.cut n m):=by
 intro M0 w0 eQ r0 iQ VW ha
 refine(h M0 w0 eQ r0 iQ VW ha).mono ?_
 rintro en w ⟨M,d,v0,s',rfl,⟨rfl,rfl⟩,e,r,hv⟩
 have rM:=hv.tT
 have n6:v0 = .pointer (some ⟨M.mu o,off,none⟩):=hv.nZ.1
 have Fo:o<s'.au.length:=(List.getElem?_eq_some_iff.1 ho).1
 obtain⟨vs,T,hh,dI,⟨kj,_⟩,lX⟩:=r.obj o row ho
 replace hh:=hh.cells rM
 let M':Map:= {M with G:=fun b q=>if b=M.mu o then vs[q]? else M.G b q}
 have hGo : ∀ q,M.G (M.mu o) q=none:=r.iG o Fo
 have le:Le M s' M' s':=⟨fun b q v hq=>by
  show(if b=M.mu o then vs[q]? else M.G b q)=some v
  by_cases hb:b=M.mu o
  ·subst hb;rw [hGo]at hq;cases hq
  ·rw [if_neg hb];exact hq,Nat.le_refl _,fun _ _=>rfl,Nat.le_refl _,fun t n' _ e=>⟨n',e,Nat.le_refl _,fun _=>rfl⟩⟩
 have hD : ∀ q,q<(s'.cut n m).au.length→q<s'.au.length∧q≠o:=fun q h=>by rw [mA]at h;omega
 have qL:w0.heap.size≤M.mu o:=e.mS o (by omega) Fo
 have ec:=e.cut hn hm
 have PV:Le M (s'.cut n m) M' (s'.cut n m):=⟨le.G,Nat.le_refl _,fun _ _=>rfl,Nat.le_refl _,fun t n' _ e=>⟨n',e,Nat.le_refl _,fun _=>rfl⟩⟩
 have rc:=r.cut n m
 have oE : ∀ b,b≠M.mu o→∀ q,M'.G b q=M.G b q:=fun b hb q=>if_neg hb
 refine⟨M',_,v0,_,rfl,⟨rfl,rfl⟩,⟨ec.le.trans PV,ec.kept,ec.mS,ec.mT,fun b q dX=> ?_,ec.size,ec.os,ec.tape,ec.output⟩,⟨fun b q v hq=> ?_,fun q ds hq=> ?_,fun q hq q6=> ?_,rc.inj,fun t n' Gk=> ?_,rc.dT,rc.eK⟩, ?_⟩
 ·by_cases hb:b=M.mu o
  ·subst hb;exact .inl qL
  ·rw [oE b hb]at dX;exact ec.oV b q dX
 ·have nS:(if b=M.mu o then vs[q]? else M.G b q)=some v:=hq
  by_cases hb:b=M.mu o
  ·rw [if_pos hb]at nS
   rw [hb,iw hh]
   exact⟨nS,kj v (Array.mem_of_getElem? nS)⟩
  ·rw [if_neg hb]at nS
   exact r.comm b q v nS
 ·obtain⟨ei,T',h3,h4,h5,h6⟩:=rc.obj q ds hq
  exact⟨ei,T',h3,h4,h5,fun i d v e1 e2=>(h6 i d v e1 e2).mono PV⟩
 ·obtain⟨h3,h4⟩:=hD q hq
  show M'.G (M.mu q) q6=none
  rw [oE _ (fun e=>h4 (r.inj q o h3 Fo e))]
  exact r.iG q h3 q6
 ·rcases rc.tok t n' Gk with h3 | ⟨b,cap,z,ei,T',h3,h4,h5,h6,h7⟩
  ·exact .inl h3
  ·refine .inr ⟨b,cap,z,ei,T',h3,h4,h5,h6,fun q6 v7=> ?_,h7.2⟩
   rw [oE _ (fun e=>r.dT t b cap z o (pT ⟨n',Gk⟩) h3 Fo e.symm)]
   exact h7.1 q6 v7
 ·rw [n6]
  have:=RD.dd (M:=M') (s:=s'.cut n m) (D.fD n m row) off (M.mu o) 0 (fun i d e1=> ?_) (fun i d u e1 eu=> ?_)
  ·simpa using this
  ·rw [kA,List.getElem?_map,Option.map_eq_some_iff]at e1
   obtain⟨d0,e1,rfl⟩:=e1
   have hi:=(List.getElem?_eq_some_iff.1 e1).1
   refine⟨vs[i]'(by omega), ?_⟩
   show(if M.mu o=M.mu o then vs[0+i]? else _)=_
   rw [if_pos rfl,Nat.zero_add]
   exact Array.getElem?_eq_getElem _
  ·rw [kA,List.getElem?_map,Option.map_eq_some_iff]at e1
   obtain⟨d0,e1,rfl⟩:=e1
   have Da:(if M.mu o=M.mu o then vs[0+i]? else M.G (M.mu o) (0+i))=some u:=eu
   rw [if_pos rfl,Nat.zero_add]at Da
   exact((lX i d0 u e1 Da).fg n m).mono PV
theorem aG.goK {P:Program} {f:FuncId} {res:List (Nat×Option (Bool×Nat))} {body:AC} {args:List D} {s:St} {d:D} {s':St} {nt:Nat} (n m:Nat) (hn:s.au.length≤n) (hm:s.av.length≤m) (h0:Has P f nt res body) (hl:Nat.ble args.length nt=true)
 (h : ∀ (B:fp) (Q:Exit→Tm→St→Prop),B.s=s→n7 n m res d s'=Q→iK P B nt body Q (kU 0 args) s):aG P f args s d s':=by
 obtain⟨fn,hf,hc⟩:=h0
 refine dh.Lv (dh.intro (Q:=fun d1 s1=>Wk d1 d∧fT s1.au s'.au∧s1.av=s'.av) hf hc (Nat.le_of_ble_eq_true hl) fun B hB=>(gO (h B _ hB rfl)).mono fun e tm s1 hr=> ?_) fun d1 s1 ⟨h1,h2,h3⟩=>⟨d,s',h1,h2,h3,rfl,rfl⟩
 subst hB
 cases e with
 | normal=>obtain⟨l,h1,h2,h3,h4⟩:=hr;exact⟨l,h1,_,_,hn,hm,h2,h3,h4⟩
 | ret=>obtain⟨l,h1,h2,h3,h4⟩:=hr;exact⟨l,h1,_,_,hn,hm,h2,h3,h4⟩
 | exit id=>exact hr.elim
 | goto l=>exact hr.elim
 | panic ch=>exact hr.elim
 | outgrown=>exact hr.elim
end Go.Abs

/-! MirLex -/

namespace Go.Abs
def qM (c:UInt8):Bool:=decide ((c.toNat:Int)≥97) && decide ((c.toNat:Int)≤122)
def tp (c:UInt8):Bool:=decide ((c.toNat:Int)≥48) && decide ((c.toNat:Int)≤57)
def isB (c:UInt8):Bool:=(c.toNat:Int)==32 || (c.toNat:Int)==9 || (c.toNat:Int)==10 || (c.toNat:Int)==13
def lu:aA→Nat
 | []=>0
 | c::r=>if qM c || tp c then lu r+1 else 0
def PW:aA→Nat
 | []=>0
 | c::r=>if tp c then PW r+1 else 0
def Fq:aA→Nat
 | []=>0
 | c::r=>if(c.toNat:Int) != 10 then Fq r+1 else 0
def isWord (s:aA):Bool:=
 s == [103,108,111,98,97,108] || s == [112,114,111,99] || s == [118,97,114] || s == [114,101,102] || s == [105,102] || s == [101,108,115,101] || s == [119,104,105,108,101] || s == [98,114,101,97,107] || s == [99,111,110,116,105,110,117,101] || s == [114,101,116,117,114,110] || s == [103,111,116,111] || s == [114,101,97,100] || s == [112,114,105,110,116]
def R6 (s:aA):Bool:=s == [61,61] || s == [33,61] || s == [60,61] || s == [62,61] || s == [38,38] || s == [124,124]
def L3 (c:UInt8):Bool:=
 (c.toNat:Int)==40 || (c.toNat:Int)==41 || (c.toNat:Int)==123 || (c.toNat:Int)==125 || (c.toNat:Int)==44 || (c.toNat:Int)==59 || (c.toNat:Int)==58 || (c.toNat:Int)==61 ||
 (c.toNat:Int)==33 || (c.toNat:Int)==60 || (c.toNat:Int)==62 || (c.toNat:Int)==43 || (c.toNat:Int)==45 || (c.toNat:Int)==42 || (c.toNat:Int)==47 || (c.toNat:Int)==37
def L4:aA→Nat
 | []=>0
 | [c]=>if L3 c then 1 else 0
 | c::d::_=>if R6 [c,d]then 2 else if L3 c then 1 else 0
def Fs:Int→aA→Option Int
 | n,[]=>some n
 | n,c::r=>if n > (9223372036854775807 - ((c.toNat:Int) - 48)) / 10 then none else Fs (n*10+((c.toNat:Int) - 48)) r
def VX (pos:Nat):aA→lZ ⊕ Int
 | []=> .inr 2
 | c::r=>
  if qM c then
   let s:=(c::r).take (lu (c::r))
   if s.length > 8 then .inr 4 else .inl ⟨if isWord s then 3 else 1,s,0,pos⟩
  else if tp c then
   let s:=(c::r).take (PW (c::r))
   if s.length > 1∧(c.toNat:Int)=48 then .inr 2 else
   match Fs 0 s with
   | some n=> .inl ⟨2,s,n,pos⟩
   | none=> .inr 4
  else
   if L4 (c::r)=0 then .inr 2 else .inl ⟨4,(c::r).take (L4 (c::r)),0,pos⟩
def Ft:Nat→Nat→aA→List lZ→List lZ×Int×Int
 | 0,_,_,_=>([],0,0)
 | _+1,pos,[],out=>(out++ [⟨0,[],0,pos⟩],0,0)
 | n+1,pos,c::r,out=>
  if isB c then Ft n (pos+1) r out
  else if(c.toNat:Int)==35 then Ft n (pos+Fq (c::r)) ((c::r).drop (Fq (c::r))) out
  else match VX pos (c::r)with
   | .inr e=>([],e,pos)
   | .inl t=>if out.length=2000 then([],4,pos)else Ft n (pos+t.text.length) ((c::r).drop t.text.length) (out++ [t])
def sb (text:aA):List lZ×Int×Int:=if text.length > 100000 then([],4,0)else Ft (text.length+1) 0 text []
end Go.Abs

/-! MirMay -/

namespace Go.Abs
def pG:aA→Bool
 | []=>true
 | c::r=>if !(qM c) && !(tp c)then false else pG r
def isName:aA→Bool
 | []=>false
 | c::r=>if decide (((r.length+1:Nat):Int) > 8) || !(qM c)then false else if pG r then !(isWord (c::r))else false
def jZ (op:Int):Int:=if op==1 || op==2 then 0 else if op==3 || op==4 then 1 else if decide (op≥5) && decide (op≤17)then 2 else -1
mutual
def Ex.form:Ex→Bool
 | ⟨op,n,name,kids⟩=>
  if jZ op != (kids.length:Int) || (op != 1 && n != 0) || decide (n<0) || !((op==2) == !(name == [])) || (!(name == []) && !(isName name))then false else Ex.lD kids
def Ex.lD:List Ex→Bool
 | []=>true
 | x::l=>if !(Ex.form x)then false else Ex.lD l
end
mutual
def Ex.texts:Ex→Prop
 | ⟨_,_,name,kids⟩=>name.length<4611686018427387904∧Ex.qd kids
def Ex.qd:List Ex→Prop
 | []=>True
 | x::l=>x.texts∧Ex.qd l
end
theorem Ex.xj {x:Ex} : ∀ {l:List Ex},Ex.qd l→x∈l→x.texts
 | y::l,h,m=>by
  rcases List.mem_cons.1 m with rfl | m
  ·exact h.1
  ·exact Ex.xj h.2 m
theorem Ex.zc {op n:Int} {name:aA} {kids:List Ex} (h:Ex.texts ⟨op,n,name,kids⟩) {y:Ex} (m:y∈kids):y.texts:=Ex.xj h.2 m
def Ex.may (x:Ex):Bool:=decide (((min x.depth 21:Nat):Int)≤20) && x.form
def Ex.none (x:Ex):Bool:=x.op==0 && x.n==0 && x.name == [] && (x.kids.length:Int)==0
def dr:List aA→Bool
 | []=>true
 | s::l=>if !(isName s)then false else dr l
def Ar.may (a:Ar):Bool:=if a.ref then isName a.name && a.x.none else a.name == [] && a.x.may
def Ar.er:List Ar→Bool
 | []=>true
 | a::l=>if !(a.may)then false else Ar.er l
def Sm.Fu (s:Sm):Bool:=s.kind==1 || s.kind==3 || s.kind==5 || s.kind==6 || (s.kind==9 && s.has)
def Sm.hasName (s:Sm):Bool:=s.kind==1 || s.kind==2 || s.kind==10
def Sm.sc (s:Sm):Bool:=s.kind==4
def Sm.one (s:Sm):Bool:=
 if decide (s.kind<1) || decide (s.kind > 10) || !(dr s.labels) || (s.Fu && !(s.x.may)) || (!(s.Fu) && !(s.x.none)) || (s.has && s.kind != 9)then false
 else if(s.hasName && !(isName s.name)) || (!(s.hasName) && !(s.name == []) && !(s.sc && isName s.name))then false
 else if !(s.sc == !(s.proc == [])) || (s.sc && !(isName s.proc)) || (!(s.sc) && decide ((s.args.length:Int) > 0))then false
 else if !(Ar.er s.args)then false
 else((s.a7.length:Int)==0 || s.kind==5 || s.kind==6) && ((s.aU.length:Int)==0 || s.kind==5)
structure It where
 s:Sm
 deep:Int
 bJ:Int
 aU:Bool
mutual
def fL (deep bJ:Int) (aU:Bool) (out:List It):Sm→List It
 | ⟨id,kind,labels,name,proc,x,has,args,a7,e⟩=>
  if decide (deep≤12)then cL (deep+1) id true (cL (deep+1) id false (out++ [⟨⟨id,kind,labels,name,proc,x,has,args,a7,e⟩,deep,bJ,aU⟩]) a7) e
  else out++ [⟨⟨id,kind,labels,name,proc,x,has,args,a7,e⟩,deep,bJ,aU⟩]
def cL (deep bJ:Int) (aU:Bool) (out:List It):List Sm→List It
 | []=>out
 | s::l=>if decide ((out.length:Int)≤200)then cL deep bJ aU (fL deep bJ aU out s) l else out
end
def Pc.flat (f:Pc):List It:=cL 1 0 false [] f.body
def allM (out:List It):List Pc→List It
 | []=>out
 | f::l=>if decide (((out++f.flat).length:Int) > 200)then out++f.flat else allM (out++f.flat) l
def Pg.all (p:Pg):List It:=allM [] p.procs
def Pm.er:List Pm→Bool
 | []=>true
 | a::l=>if !(isName a.name)then false else Pm.er l
def Pc.mn:List Pc→Bool
 | []=>true
 | f::l=>
  if !(isName f.name) || decide ((f.params.length:Int) > 8) || decide ((f.vars.length:Int) > 16) || !(dr f.vars) || !(dr f.fin)then false
  else if !(Pm.er f.params)then false else Pc.mn l
def It.er (n:Nat):List It→Bool
 | []=>true
 | i::l=>if i.s.id != ((n+1:Nat):Int) || decide (i.deep > 12) || !(i.s.one)then false else It.er (n+1) l
def Pg.may (p:Pg):Bool:=
 if decide ((p.globals.length:Int) > 16) || decide ((p.procs.length:Int) > 16) || !(dr p.globals)then false
 else if !(Pc.mn p.procs)then false
 else if decide ((p.all.length:Int) > 200)then false else It.er 0 p.all
end Go.Abs

/-! Prs -/

namespace Go.Abs
open Go.Proofs
@[go_sem] def adt (r:Rd):List D:= [.slice .shared 4 (r.l.map gy), .int .i64 r.i, .int .i64 r.code, .int .i64 r.Bw, .int .i64 r.n]
end Go.Abs

/-! Lex1 -/

namespace Go.Abs
set_option maxRecDepth 8000
open Go.Proofs
theorem og (c:UInt8) (s:St):aG Tryz.prog nq [.int .u8 (c.toNat:Int)] s (.bool (qM c)) s:=by
 refine aG.pure ?_ rfl rfl s
 generalize h:qM c=b
 unfold qM at h
 unfold S0
 refine aG.go yg rfl fun B Q hB hQ=> ?_
 have⟨hD,hF,hJ,hP⟩:=bP
 repeat' (first
 | simp only [go_sem,hD,hF,hJ,hP]
 | (with_reducible first | refine cR fun hc=> ?_ | refine cT fun hc=> ?_ | refine cU (fun hc=> ?_) fun hc=> ?_) <;> (try simp only [hc,bs, ↓reduceIte]at h) <;> try simp only [hc]
 | (with_reducible refine aJ hQ ?_;(try cases h);simp only [aw,ay,cm,cq,go_sem,hD,hF,hJ,hP];repeat' (first | exact Ok.out | with_reducible refine aI ?_ ?_ | (simp;done))))
theorem yn (c:UInt8) (s:St):aG Tryz.prog rq [.int .u8 (c.toNat:Int)] s (.bool (tp c)) s:=by
 refine aG.pure ?_ rfl rfl s
 generalize h:tp c=b
 unfold tp at h
 unfold S0
 refine aG.go Ac rfl fun B Q hB hQ=> ?_
 have⟨hD,hF,hJ,hP⟩:=bP
 repeat' (first
 | simp only [go_sem,hD,hF,hJ,hP]
 | (with_reducible first | refine cR fun hc=> ?_ | refine cT fun hc=> ?_ | refine cU (fun hc=> ?_) fun hc=> ?_) <;> (try simp only [hc,bs, ↓reduceIte]at h) <;> try simp only [hc]
 | (with_reducible refine aJ hQ ?_;(try cases h);simp only [aw,ay,cm,cq,go_sem,hD,hF,hJ,hP];repeat' (first | exact Ok.out | with_reducible refine aI ?_ ?_ | (simp;done))))
theorem PX (t:aA) (s:St):aG Tryz.prog sI [.str t] s (.bool (isWord t)) s:=by
 refine aG.pure ?_ rfl rfl s
 generalize h:isWord t=b
 unfold isWord at h
 unfold S0
 refine aG.go BH rfl fun B Q hB hQ=> ?_
 have⟨hD,hF,hJ,hP⟩:=bP
 repeat' (first
 | simp only [go_sem,hD,hF,hJ,hP]
 | (with_reducible first | refine cR fun hc=> ?_ | refine cT fun hc=> ?_ | refine cU (fun hc=> ?_) fun hc=> ?_) <;> (try simp only [hc,bs, ↓reduceIte]at h) <;> try simp only [hc]
 | (with_reducible refine aJ hQ ?_;(try cases h);simp only [aw,ay,cm,cq,go_sem,hD,hF,hJ,hP];repeat' (first | exact Ok.out | with_reducible refine aI ?_ ?_ | (simp;done))))
theorem R7 {text:aA} {pos:Nat} (hl:text.length<4611686018427387904) (s:St):aG Tryz.prog uv [.str text, .int .i64 (pos:Int)] s (.int .i64 ((pos+lu (text.drop pos):Nat):Int)) s:=by
 refine aG.pure ?_ rfl rfl s
 unfold S0
 refine aG.go CG rfl fun B Q hB hQ=> ?_
 have⟨hD,hF,hJ,hP⟩:=bP
 repeat' (first
 | simp only [go_sem,hD,hF,hJ,hP]
 | (with_reducible refine aJ hQ ?_;simp only [aw,ay,Option.some.injEq,exists_eq_left',go_sem,hD,hF,hJ,hP];repeat' (first | exact Ok.out | with_reducible refine aI ?_ ?_ | (simp;done))))
 refine dc 0 0 (bk.ind (ι:=aA×Nat) (fun i=>text.drop i.2=i.1∧i.2+lu i.1=pos+lu (text.drop pos)) (fun i=>i.1.length)
  (fun i=> [(0, .str text),(1, .int .i64 (i.2:Int))]) (fun i=>⟨[],[]⟩) ?_ (text.drop pos,pos) ⟨rfl,rfl⟩)
 rintro⟨rest,k⟩ ⟨h1,h2⟩ IH
 dsimp only at h1 h2
 cases rest with
 | nil=>
  have hD:=drop_nil h1
  simp only [lu,Nat.add_zero]at h2
  rw [← h2]at hQ
  repeat' (first
 | simp only [go_sem,hD,hF,hJ,hP]
 | (with_reducible refine aJ hQ ?_;simp only [aw,ay,Option.some.injEq,exists_eq_left',go_sem,hD,hF,hJ,hP];repeat' (first | exact Ok.out | with_reducible refine aI ?_ ?_ | (simp;done))))
 | cons c rest=>
  obtain⟨hF,g2,hD,g4⟩:=drop_cons h1
  have hJ:k<4611686018427387904:=by omega
  cases hb:(qM c || tp c)
  ·simp only [lu,hb,Bool.false_eq_true, ↓reduceIte,Nat.add_zero]at h2
   rw [← h2]at hQ
   simp only [Bool.or_eq_false_iff]at hb
   repeat' (first
 | simp only [go_sem,hD,hF,hJ,hP,hb.1,hb.2]
 | (with_reducible refine CU (og _ _) ?_)
 | (with_reducible refine CU (yn _ _) ?_)
 | (with_reducible refine aJ hQ ?_;simp only [aw,ay,Option.some.injEq,exists_eq_left',go_sem,hD,hF,hJ,hP];repeat' (first | exact Ok.out | with_reducible refine aI ?_ ?_ | (simp;done))))
  ·simp only [lu,hb, ↓reduceIte]at h2
   cases A0:qM c
   ·rw [A0,Bool.false_or]at hb
    repeat' (first
 | simp only [go_sem,hD,hF,hJ,hP,hb,A0]
 | (with_reducible refine CU (og _ _) ?_)
 | (with_reducible refine CU (yn _ _) ?_)
 | (with_reducible refine aJ hQ ?_;simp only [aw,ay,Option.some.injEq,exists_eq_left',go_sem,hD,hF,hJ,hP];repeat' (first | exact Ok.out | with_reducible refine aI ?_ ?_ | (simp;done))))
    refine dc 0 0 (IH (rest,k+1) ⟨g2,by dsimp only;omega⟩ (Nat.lt_succ_self _))
   ·repeat' (first
 | simp only [go_sem,hD,hF,hJ,hP,A0]
 | (with_reducible refine CU (og _ _) ?_)
 | (with_reducible refine CU (yn _ _) ?_)
 | (with_reducible refine aJ hQ ?_;simp only [aw,ay,Option.some.injEq,exists_eq_left',go_sem,hD,hF,hJ,hP];repeat' (first | exact Ok.out | with_reducible refine aI ?_ ?_ | (simp;done))))
    refine dc 0 0 (IH (rest,k+1) ⟨g2,by dsimp only;omega⟩ (Nat.lt_succ_self _))
def acb (s:aA):Int×Bool:=match Fs 0 s with | some n=>(n,true) | none=>(0,false)
end Go.Abs

/-! Lex2 -/

namespace Go.Abs
open Go.Proofs
def VY (f:Int×Int):List D:= [.int .i64 f.1, .int .i64 f.2]
def R8 (text:aA) (out:List lZ) (pos:Nat):Tm:= [(0, .str text),(3, .ptr 0 0),(4, .slice (.tok 0) 4 (out.map gy)),(5, .ptr 1 0),(6, .int .i64 (pos:Int))]
def R9 (out:List lZ):St:=⟨[[.int .i64 0, .int .i64 0],[.junk, .junk, .junk, .junk]],[some out.length]⟩
attribute [go_sem] R8 R9 VY
end Go.Abs

/-! RefLex1 -/

namespace Go.Abs
set_option maxRecDepth 8000
open Go.Proofs
theorem BI (c:UInt8) (s:St):aG Tryz.prog nu [.int .u8 (c.toNat:Int)] s (.bool (qM c)) s:=by
 refine aG.pure ?_ rfl rfl s
 generalize h:qM c=b
 unfold qM at h
 unfold S0
 refine aG.go yj rfl fun B Q hB hQ=> ?_
 have⟨hD,hF,hJ,hP⟩:=bP
 repeat' (first
 | simp only [go_sem,hD,hF,hJ,hP]
 | (with_reducible first | refine cR fun hc=> ?_ | refine cT fun hc=> ?_ | refine cU (fun hc=> ?_) fun hc=> ?_) <;> (try simp only [hc,bs, ↓reduceIte]at h) <;> try simp only [hc]
 | (with_reducible refine aJ hQ ?_;(try cases h);simp only [aw,ay,cm,cq,go_sem,hD,hF,hJ,hP];repeat' (first | exact Ok.out | with_reducible refine aI ?_ ?_ | (simp;done))))
theorem J4 (c:UInt8) (s:St):aG Tryz.prog p7 [.int .u8 (c.toNat:Int)] s (.bool (tp c)) s:=by
 refine aG.pure ?_ rfl rfl s
 generalize h:tp c=b
 unfold tp at h
 unfold S0
 refine aG.go yk rfl fun B Q hB hQ=> ?_
 have⟨hD,hF,hJ,hP⟩:=bP
 repeat' (first
 | simp only [go_sem,hD,hF,hJ,hP]
 | (with_reducible first | refine cR fun hc=> ?_ | refine cT fun hc=> ?_ | refine cU (fun hc=> ?_) fun hc=> ?_) <;> (try simp only [hc,bs, ↓reduceIte]at h) <;> try simp only [hc]
 | (with_reducible refine aJ hQ ?_;(try cases h);simp only [aw,ay,cm,cq,go_sem,hD,hF,hJ,hP];repeat' (first | exact Ok.out | with_reducible refine aI ?_ ?_ | (simp;done))))
theorem Nd (s:St):aG Tryz.prog p9 [] s (.slice .shared 1 [[.str [103,108,111,98,97,108]],[.str [112,114,111,99]],[.str [118,97,114]],[.str [114,101,102]],[.str [105,102]],[.str [101,108,115,101]],[.str [119,104,105,108,101]],[.str [98,114,101,97,107]],[.str [99,111,110,116,105,110,117,101]],[.str [114,101,116,117,114,110]],[.str [103,111,116,111]],[.str [114,101,97,100]],[.str [112,114,105,110,116]]]) s:=by
 refine aG.pure ?_ rfl rfl s
 unfold S0
 refine aG.go ym rfl fun B Q hB hQ=> ?_
 have⟨hD,hF,hJ,hP⟩:=bP
 repeat' (first
 | simp only [go_sem,hD,hF,hJ,hP]
 | (with_reducible refine aJ hQ ?_;simp only [aw,ay,Option.some.injEq,exists_eq_left',go_sem,hD,hF,hJ,hP];repeat' (first | exact Ok.out | with_reducible refine aI ?_ ?_ | (simp;done))))
def vd (s:aA):Bool:=
 [103,108,111,98,97,108] == s || [112,114,111,99] == s || [118,97,114] == s || [114,101,102] == s || [105,102] == s || [101,108,115,101] == s || [119,104,105,108,101] == s || [98,114,101,97,107] == s || [99,111,110,116,105,110,117,101] == s || [114,101,116,117,114,110] == s || [103,111,116,111] == s || [114,101,97,100] == s || [112,114,105,110,116] == s
theorem Fv (s:aA):vd s=isWord s:=by
 have e : ∀ a:aA,(a==s)=(s==a):=fun a=>BEq.comm
 simp only [vd,isWord,e]
theorem Nf (text:aA) (s:St):aG Tryz.prog rr [.str text] s (.bool (isWord text)) s:=by
 refine aG.pure ?_ rfl rfl s
 rw [← Fv]
 generalize h:vd text=p
 unfold vd at h
 unfold S0
 refine aG.go Ad rfl fun B Q hB hQ=> ?_
 have⟨hD,hF,hJ,hP⟩:=bP
 repeat' (first
 | simp only [go_sem,hD,hF,hJ,hP,Int.cast_ofNat_Int,c7,Int.reduceAdd,Int.reduceLT,Int.reduceNeg,decide_true,decide_false,Int.reduceToNat]
 | (with_reducible refine CU (Nd _) ?_)
 | (with_reducible refine bk.sF ?_)
 | (with_reducible first | refine cR fun hc=> ?_ | refine cT fun hc=> ?_ | refine cU (fun hc=> ?_) fun hc=> ?_) <;> (try simp only [hc,bs, ↓reduceIte]at h) <;> try simp only [hc]
 | (with_reducible refine aJ hQ ?_;(try cases h);simp only [aw,ay,cm,cq,go_sem,hD,hF,hJ,hP,Int.cast_ofNat_Int,c7,Int.reduceAdd,Int.reduceLT,Int.reduceNeg,decide_true,decide_false,Int.reduceToNat];repeat' (first | exact Ok.out | with_reducible refine aI ?_ ?_ | (simp;done))))
end Go.Abs

/-! Prs2 -/

namespace Go.Abs
open Go.Proofs
def OpR (p:Int×Int):Prop:=0≤p.2∧p.2≤6
end Go.Abs

/-! Ref1 -/

namespace Go.Abs
open Go.Proofs
@[go_sem] def adu (z:D) (r:Rd):List D:= [.slice .shared 4 (r.l.map gy), .int .i64 r.i, .int .i64 r.code, .int .i64 r.Bw,z]
class Cell (z:D):Prop where
 ok:D.ok 0 0 z=true
 fg : ∀ n m,D.fg n m z=z
instance (n:Int):Cell (.int .i64 n):=⟨rfl,fun _ _=>rfl⟩
instance:Cell .junk:=⟨rfl,fun _ _=>rfl⟩
theorem Ng (z:D) [h:Cell z] (n m:Nat):D.fg n m z=z:=h.fg n m
attribute [go_sem] Ng
def Rd.isO (text:aA) (r:Rd):Option Bool:=if r.good then r.is text else some false
end Go.Abs

/-! Ref2 -/

namespace Go.Abs
open Go.Proofs
def PY (s:aA):Int×Int:=
 if [42] == s then(6,5)else if [47] == s then(6,6)else if [37] == s then(6,7)else if [43] == s then(5,8)else if [45] == s then(5,9)
 else if [60] == s then(4,10)else if [60,61] == s then(4,11)else if [62] == s then(4,12)else if [62,61] == s then(4,13)
 else if [61,61] == s then(3,14)else if [33,61] == s then(3,15)else if [38,38] == s then(2,16)else if [124,124] == s then(1,17)else(0,0)
def BZ (p:Int×Int):Prop:=(p.2==0)=(p.1==0)
end Go.Abs

/-! Ref3 -/

namespace Go.Abs
set_option maxRecDepth 8000
open Go.Proofs
theorem PZ : ∀ (ga:Nat),ga<1000000→∀ x:Ex,x.size<4611686018427387904→∀ s:St,aG Tryz.prog l5 [.agg (bj x), .int .i64 (ga:Int)] s (.int .i64 ((min x.depth (ga+1):Nat):Int)) s:=by
 intro ga
 induction ga with
 | zero=>
  rintro _ ⟨op,m,name,kids⟩ hx s
  refine aG.pure ?_ (by simp [D.bG,D.ok,fZ]) rfl s
  have hz:((0:Int)==0)=true:=rfl
  have e:min (Ex.depth ⟨op,m,name,kids⟩) (0+1)=1:=by simp only [Ex.depth];omega
  rw [e]
  unfold S0
  refine aG.go tj rfl fun B Q hB hQ=> ?_
  have⟨hD,hF,hJ,hP⟩:=bP
  repeat' (first
 | simp only [go_sem,hD,hF,hJ,hP,hz]
 | (with_reducible refine aJ hQ ?_;simp only [aw,ay,Option.some.injEq,exists_eq_left',go_sem,hD,hF,hJ,hP];repeat' (first | exact Ok.out | with_reducible refine aI ?_ ?_ | (simp;done))))
 | succ ga ih=>
  rintro adv ⟨op,m,name,kids⟩ hx s
  refine aG.pure ?_ (by simp [D.bG,D.ok,fZ]) rfl s
  have hlen:kids.length<4611686018427387904:=by simp only [Ex.size]at hx;have:=Ex.cu kids;omega
  have hk : ∀ y∈kids,∀ s,aG Tryz.prog l5 [.agg (bj y), .int .i64 (ga:Int)] s (.int .i64 ((min y.depth (ga+1):Nat):Int)) s:=fun y hy s=>
   ih (by omega) y (by simp only [Ex.size]at hx;have:=Ex.bA hy;omega) s
  have hz:(((ga+1:Nat):Int)==0)=false:=by simp;omega
  have w1:IntKind.wrap .i64 (((ga+1:Nat):Int) - 1)=(ga:Int):=by rw [c7] <;> omega
  unfold S0
  refine aG.go tj rfl fun B Q hB hQ=> ?_
  have⟨hD,hF,hJ,hP⟩:=bP
  repeat' (first
 | simp only [go_sem,hD,hF,hJ,hP,hz]
 | (with_reducible refine aJ hQ ?_;simp only [aw,ay,Option.some.injEq,exists_eq_left',go_sem,hD,hF,hJ,hP];repeat' (first | exact Ok.out | with_reducible refine aI ?_ ?_ | (simp;done))))
  refine dc 1 0 (bk.ind (ι:=List Ex×Nat×Nat) (fun i=>kids.drop i.2.1=i.1∧i.2.2≤ga+1∧min (max i.2.2 (Ex.hZ i.1)) (ga+1)=min (Ex.hZ kids) (ga+1)) (fun i=>i.1.length)
   (fun i=> [(1, .int .i64 ((ga+1:Nat):Int)),(2, .ptr 0 0),(5, .int .i64 (i.2.2:Int)),(6, .int .i64 (i.2.1:Int))]) (fun i=>⟨[bj ⟨op,m,name,kids⟩],[]⟩) ?_ (kids,0,0) ⟨rfl,Nat.zero_le _,by simp⟩)
  rintro⟨rest,k,d⟩ ⟨h1,h2,h3⟩ IH
  dsimp only at h1 h2 h3
  have hd:min (Ex.depth ⟨op,m,name,kids⟩) (ga+1+1)=min (Ex.hZ kids) (ga+1)+1:=by simp only [Ex.depth];omega
  rw [hd, ← h3]at hQ
  have w2:IntKind.wrap .i64 ((d:Int)+1)=((d+1:Nat):Int):=by rw [c7] <;> omega
  by_cases adL:d<ga+1
  ·have c2:decide ((d:Int)<((ga+1:Nat):Int))=true:=by simp;omega
   cases rest with
   | nil=>
    have hD:=drop_nil h1
    simp only [Ex.hZ,Nat.max_zero]at hQ
    have e:min d (ga+1)=d:=by omega
    rw [e]at hQ
    repeat' (first
 | simp only [go_sem,hD,hF,hJ,hP,c2,w2]
 | (with_reducible refine aJ hQ ?_;simp only [aw,ay,Option.some.injEq,exists_eq_left',go_sem,hD,hF,hJ,hP];repeat' (first | exact Ok.out | with_reducible refine aI ?_ ?_ | (simp;done))))
   | cons y rest=>
    obtain⟨hF,g2,hD,g4⟩:=drop_cons h1
    have hy:=hk y (List.mem_of_getElem? hF)
    simp only [Ex.hZ]at h3
    have bq:k<4611686018427387904:=by omega
    by_cases hgt:min y.depth (ga+1) > d
    ·have c3:decide (((min y.depth (ga+1):Nat):Int) > (d:Int))=true:=by simp only [decide_eq_true_eq];omega
     repeat' (first
 | simp only [go_sem,hD,hF,hJ,hP,c2,w1,c3]
 | (with_reducible refine CU (hy _) ?_)
 | (with_reducible refine aJ hQ ?_;simp only [aw,ay,Option.some.injEq,exists_eq_left',go_sem,hD,hF,hJ,hP];repeat' (first | exact Ok.out | with_reducible refine aI ?_ ?_ | (simp;done))))
     refine da 1 0 ?_ ?_ (IH (rest,k+1,min y.depth (ga+1)) ⟨g2,by dsimp only;omega,by dsimp only;omega⟩ (Nat.lt_succ_self _))
     ·(simp only [go_sem,hD,hF,hJ,hP,aD bq];try exact bo)
     ·(simp only [go_sem,hD,hF,hJ,hP,aD bq];try exact bo)
    ·have c3:decide (((min y.depth (ga+1):Nat):Int) > (d:Int))=false:=by simp only [decide_eq_false_iff_not];omega
     repeat' (first
 | simp only [go_sem,hD,hF,hJ,hP,c2,w1,c3]
 | (with_reducible refine CU (hy _) ?_)
 | (with_reducible refine aJ hQ ?_;simp only [aw,ay,Option.some.injEq,exists_eq_left',go_sem,hD,hF,hJ,hP];repeat' (first | exact Ok.out | with_reducible refine aI ?_ ?_ | (simp;done))))
     refine da 1 0 ?_ ?_ (IH (rest,k+1,d) ⟨g2,h2,by dsimp only;omega⟩ (Nat.lt_succ_self _))
     ·(simp only [go_sem,hD,hF,hJ,hP,aD bq];try exact bo)
     ·(simp only [go_sem,hD,hF,hJ,hP,aD bq];try exact bo)
  ·have c2:decide ((d:Int)<((ga+1:Nat):Int))=false:=by simp;omega
   have e:min (max d (Ex.hZ rest)) (ga+1)=d:=by omega
   rw [e]at hQ
   cases rest with
   | nil=>
    have hD:=drop_nil h1
    repeat' (first
 | simp only [go_sem,hD,hF,hJ,hP,c2,w2]
 | (with_reducible refine aJ hQ ?_;simp only [aw,ay,Option.some.injEq,exists_eq_left',go_sem,hD,hF,hJ,hP];repeat' (first | exact Ok.out | with_reducible refine aI ?_ ?_ | (simp;done))))
   | cons y rest=>
    obtain⟨hF,g2,hD,g4⟩:=drop_cons h1
    repeat' (first
 | simp only [go_sem,hD,hF,hJ,hP,c2,w2]
 | (with_reducible refine aJ hQ ?_;simp only [aw,ay,Option.some.injEq,exists_eq_left',go_sem,hD,hF,hJ,hP];repeat' (first | exact Ok.out | with_reducible refine aI ?_ ?_ | (simp;done))))
end Go.Abs
