/-
  What is proved here: part 1 of the road to the claim (Par, Par1, Par2, Par3, Step, Wp, Types, Mir, MirTree, MirFlat, Nums, Codes0, Have0, Codes1, Have1, Codes2, Have2, Have3, Frz, MirLex, MirMay, Prs, Lex1, Lex2, RefLex1, Prs2, Ref1, Ref2, Ref3, RefMay1, RefMay2, Flat1).
  No conditions.
-/
import Derived.Test.YthecipohmaannaaAtA0
import Derived.Attr
import Derived.Test.YthecipohmaannaaProg
import Derived.KernelRfl

set_option linter.unusedSimpArgs false
set_option linter.unusedVariables false

/-! Par -/

namespace Go.Abs
theorem X.bu {x:X} {tm bm:Tm} (h : ∀ t∈x.reads,tm.get t=bm.get t):x.ev tm=x.ev bm:=by
 cases x with
 | s t=>exact h t (by simp [X.reads])
 | k d=>rfl
theorem nf {t:Nat} {x:X} : ∀ {l:List X},x∈l→t∈x.reads→t∈kC l
 | [],h,_=>by cases h
 | y::r,h,ht=>by
  simp only [kC,List.mem_append]
  rcases List.mem_cons.1 h with rfl | h
  ·exact .inl ht
  ·exact .inr (nf h ht)
theorem qK {x:Option X} {tm bm:Tm} (h : ∀ t∈tX x,tm.get t=bm.get t):x.map (·.ev tm)=x.map (·.ev bm):=by
 cases x with
 | none=>rfl
 | some y=>simp only [Option.map_some];rw [X.bu h]
theorem vS {o:AO} {tm bm:Tm} {s:St} (h : ∀ t∈o.reads,tm.get t=bm.get t):aK o tm s=aK o bm s:=by
 cases o with
 | mv x=>
  have hx:x.ev tm=x.ev bm:=X.bu fun t ht=>h t (by simp [AO.reads,ht])
  simp only [aK,hx]
 | pick c a b=>
  have hc:c.ev tm=c.ev bm:=X.bu fun t ht=>h t (by simp [AO.reads,ht])
  have ha:a.ev tm=a.ev bm:=X.bu fun t ht=>h t (by simp [AO.reads,ht])
  have hb:b.ev tm=b.ev bm:=X.bu fun t ht=>h t (by simp [AO.reads,ht])
  simp only [aK,hc,ha,hb]
 | alloc z=>
  rfl
 | oC z T=>rfl
 | tV x T=>
  have hx:x.ev tm=x.ev bm:=X.bu fun t ht=>h t (by simp [AO.reads,ht])
  simp only [aK,hx]
 | tW x y=>
  have hx:x.ev tm=x.ev bm:=X.bu fun t ht=>h t (by simp [AO.reads,ht])
  have hy:y.ev tm=y.ev bm:=X.bu fun t ht=>h t (by simp [AO.reads,ht])
  simp only [aK,hx,hy]
 | apps x y=>
  have hx:x.ev tm=x.ev bm:=X.bu fun t ht=>h t (by simp [AO.reads,ht])
  have hy:y.ev tm=y.ev bm:=X.bu fun t ht=>h t (by simp [AO.reads,ht])
  simp only [aK,hx,hy]
 | box x=>
  have hx:x.ev tm=x.ev bm:=X.bu fun t ht=>h t (by simp [AO.reads,ht])
  simp only [aK,hx]
 | tT x=>
  have hx:x.ev tm=x.ev bm:=X.bu fun t ht=>h t (by simp [AO.reads,ht])
  simp only [aK,hx]
 | load x g n=>
  have hx:x.ev tm=x.ev bm:=X.bu fun t ht=>h t (by simp [AO.reads,ht])
  simp only [aK,hx]
 | store p x n=>
  have hp:p.ev tm=p.ev bm:=X.bu fun t ht=>h t (by simp [AO.reads,ht])
  have hx:x.ev tm=x.ev bm:=X.bu fun t ht=>h t (by simp [AO.reads,ht])
  simp only [aK,hp,hx]
 | fU x=>
  have hx:x.ev tm=x.ev bm:=X.bu fun t ht=>h t (by simp [AO.reads,ht])
  simp only [aK,hx]
 | bin op x y=>
  have hx:x.ev tm=x.ev bm:=X.bu fun t ht=>h t (by simp [AO.reads,ht])
  have hy:y.ev tm=y.ev bm:=X.bu fun t ht=>h t (by simp [AO.reads,ht])
  simp only [aK,hx,hy]
 | zh n x y=>
  have hx:x.ev tm=x.ev bm:=X.bu fun t ht=>h t (by simp [AO.reads,ht])
  have hy:y.ev tm=y.ev bm:=X.bu fun t ht=>h t (by simp [AO.reads,ht])
  simp only [aK,hx,hy]
 | eqs n ks x y=>
  have hx:x.ev tm=x.ev bm:=X.bu fun t ht=>h t (by simp [AO.reads,ht])
  have hy:y.ev tm=y.ev bm:=X.bu fun t ht=>h t (by simp [AO.reads,ht])
  simp only [aK,hx,hy]
 | A7 n x y=>
  have hx:x.ev tm=x.ev bm:=X.bu fun t ht=>h t (by simp [AO.reads,ht])
  have hy:y.ev tm=y.ev bm:=X.bu fun t ht=>h t (by simp [AO.reads,ht])
  simp only [aK,hx,hy]
 | un op x=>
  have hx:x.ev tm=x.ev bm:=X.bu fun t ht=>h t (by simp [AO.reads,ht])
  simp only [aK,hx]
 | conv k x=>
  have hx:x.ev tm=x.ev bm:=X.bu fun t ht=>h t (by simp [AO.reads,ht])
  simp only [aK,hx]
 | wY x=>
  have hx:x.ev tm=x.ev bm:=X.bu fun t ht=>h t (by simp [AO.reads,ht])
  simp only [aK,hx]
 | rS x=>
  have hx:x.ev tm=x.ev bm:=X.bu fun t ht=>h t (by simp [AO.reads,ht])
  simp only [aK,hx]
 | ay x n=>
  have hx:x.ev tm=x.ev bm:=X.bu fun t ht=>h t (by simp [AO.reads,ht])
  simp only [aK,hx]
 | rT x n g m=>
  have hx:x.ev tm=x.ev bm:=X.bu fun t ht=>h t (by simp [AO.reads,ht])
  simp only [aK,hx]
 | bX x i n=>
  have hx:x.ev tm=x.ev bm:=X.bu fun t ht=>h t (by simp [AO.reads,ht])
  have hi:i.ev tm=i.ev bm:=X.bu fun t ht=>h t (by simp [AO.reads,ht])
  simp only [aK,hx,hi]
 | tU x i=>
  have hx:x.ev tm=x.ev bm:=X.bu fun t ht=>h t (by simp [AO.reads,ht])
  have hi:i.ev tm=i.ev bm:=X.bu fun t ht=>h t (by simp [AO.reads,ht])
  simp only [aK,hx,hi]
 | ext x i=>
  have hx:x.ev tm=x.ev bm:=X.bu fun t ht=>h t (by simp [AO.reads,ht])
  simp only [aK,hx]
 | len x=>
  have hx:x.ev tm=x.ev bm:=X.bu fun t ht=>h t (by simp [AO.reads,ht])
  simp only [aK,hx]
 | p7 x=>
  have hx:x.ev tm=x.ev bm:=X.bu fun t ht=>h t (by simp [AO.reads,ht])
  simp only [aK,hx]
 | app a b x y=>
  have hx:x.ev tm=x.ev bm:=X.bu fun t ht=>h t (by simp [AO.reads,ht])
  have hy:y.ev tm=y.ev bm:=X.bu fun t ht=>h t (by simp [AO.reads,ht])
  simp only [aK,hx,hy]
 | mm b x y=>
  have hx:x.ev tm=x.ev bm:=X.bu fun t ht=>h t (by simp [AO.reads,ht])
  have hy:y.ev tm=y.ev bm:=X.bu fun t ht=>h t (by simp [AO.reads,ht])
  simp only [aK,hx,hy]
 | build z ps=>
  have hp:(ps.map fun p=>(p.1,p.2.1,p.2.2.ev tm))=ps.map fun p=>(p.1,p.2.1,p.2.2.ev bm):=List.map_congr_left fun p hp=>by
   have:p.2.2.ev tm=p.2.2.ev bm:=X.bu fun t ht=>h t (by simp only [AO.reads];exact nf (List.mem_map_of_mem hp) ht)
   rw [this]
  simp only [aK,hp]
 | c7 z m n ps=>
  have hp:(ps.map fun p=>(p.1,p.2.ev tm))=ps.map fun p=>(p.1,p.2.ev bm):=List.map_congr_left fun p hp=>by
   have:p.2.ev tm=p.2.ev bm:=X.bu fun t ht=>h t (by simp only [AO.reads];exact nf (List.mem_map_of_mem hp) ht)
   rw [this]
  simp only [aK,hp]
 | p6 z m n ps=>
  have hp:(ps.map fun p=>(p.1,p.2.ev tm))=ps.map fun p=>(p.1,p.2.ev bm):=List.map_congr_left fun p hp=>by
   have:p.2.ev tm=p.2.ev bm:=X.bu fun t ht=>h t (by simp only [AO.reads];exact nf (List.mem_map_of_mem hp) ht)
   rw [this]
  simp only [aK,hp]
 | A8 n x lo hi=>
  have hx:x.ev tm=x.ev bm:=X.bu fun t ht=>h t (by simp [AO.reads,ht])
  have hl:lo.map (·.ev tm)=lo.map (·.ev bm):=qK fun t ht=>h t (by simp [AO.reads,ht])
  have hh:hi.map (·.ev tm)=hi.map (·.ev bm):=qK fun t ht=>h t (by simp [AO.reads,ht])
  simp only [aK,hx,hl,hh]
 | A9 x lo hi=>
  have hx:x.ev tm=x.ev bm:=X.bu fun t ht=>h t (by simp [AO.reads,ht])
  have hl:lo.map (·.ev tm)=lo.map (·.ev bm):=qK fun t ht=>h t (by simp [AO.reads,ht])
  have hh:hi.map (·.ev tm)=hi.map (·.ev bm):=qK fun t ht=>h t (by simp [AO.reads,ht])
  simp only [aK,hx,hl,hh]
 | pH f xs=>
  have hp:(xs.map fun x=>x.ev tm)=xs.map fun x=>x.ev bm:=List.map_congr_left fun x hx=>X.bu fun t ht=>h t (by simp only [AO.reads];exact nf hx ht)
  simp only [aK,hp]
 | pI=>rfl
 | sB m k v=>
  have hm:m.ev tm=m.ev bm:=X.bu fun t ht=>h t (by simp [AO.reads,ht])
  have hk:k.ev tm=k.ev bm:=X.bu fun t ht=>h t (by simp [AO.reads,ht])
  have hv:v.ev tm=v.ev bm:=X.bu fun t ht=>h t (by simp [AO.reads,ht])
  simp only [aK,hm,hk,hv]
 | qy m k z=>
  have hm:m.ev tm=m.ev bm:=X.bu fun t ht=>h t (by simp [AO.reads,ht])
  have hk:k.ev tm=k.ev bm:=X.bu fun t ht=>h t (by simp [AO.reads,ht])
  simp only [aK,hm,hk]
theorem C2 {o:AO} (ho:fa o.kind=false) {tm:Tm} {s s':St} {d:D} (h:aK o tm s=some (d,s')):s'=s:=by
 cases o <;> simp only [AO.kind,fa]at ho <;> first | cases ho | skip
 all_goals
  simp only [aK]at h
  first
   | (cases h;rfl)
   | (repeat' (split at h)) <;> first | (cases h;rfl) | cases h
theorem EI {o:AO} (ho:o.kind = .pure) {tm:Tm} {s s':St} : (aK o tm s).map (·.1)=(aK o tm s').map (·.1):=by
 cases o <;> simp only [AO.kind]at ho <;> first | cases ho | skip
 all_goals
  simp only [aK]
  first
   | rfl
   | (repeat' split) <;> rfl
def gx (ai:AI) (tm:Tm) (s:St):Option D:=
 match ai with
 | .op _ none o=>(aK o tm s).map (·.1)
 | .op _ (some (t,want)) o=>
  match tm.get t with
  | .bool b=>if b=want then(aK o tm s).map (·.1)else some (.tuple [])
  | .tuple _=>some (.tuple [])
  | _=>none
 | _=>none
def ou (P:Program) (ai:AI) (tm:Tm) (s:St) (d:D) (s':St):Prop:=
 match ai with
 | .op _ g o=>guarded g tm (aK o tm s=some (d,s')) (d = .tuple []∧s'=s)
 | .call _ g f xs=>guarded g tm (dJ P f (xs.map (·.ev tm)) s fun x y=>x=d∧y=s') (d = .tuple []∧s'=s)
 | .nil .. =>False
 | .fX .. =>False
def iw (P:Program) (is:List AI) (K:Tm→St→Prop):List (Nat×Nat)→List St→Tm→St→Prop
 | [],_,tm,s=>K tm s
 | (q,b)::r,bf,tm,s=>
  match is[q]? with
  | none=>False
  | some ai=>
   match fa ai.kind with
   | true=>∃ d s',ou P ai tm s d s'∧iw P is K r (s::bf) (tm.put ai.dst d) s'
   | false=>∃ d,gx ai tm s=some d∧(ai.kind = .load→∀ s'∈bf.take b,gx ai tm s'=some d)∧iw P is K r bf (tm.put ai.dst d) s
def Tm.eqv (a b:Tm):Prop:=∀ t,a.get t=b.get t
theorem Tm.iN (tm:Tm) (dst:Option Nat) (d:D) (t:Nat):(tm.put dst d).get t=if dst=some t then d else tm.get t:=by
 cases dst with
 | none=>simp [Tm.put]
 | some u=>
  simp only [Tm.put,Tm.yu,Option.some.injEq]
  by_cases h:t=u
  ·subst h;simp
  ·rw [if_neg h,if_neg (fun e=>h e.symm)]
theorem Tm.eqv.put {a b:Tm} (h:a.eqv b) (dst:Option Nat) (d:D):(a.put dst d).eqv (b.put dst d):=fun t=>by
 rw [Tm.iN,Tm.iN,h t]
theorem Tm.BD (tm:Tm) {x y:Option Nat} (h : ∀ t,x=some t→y≠some t) (d e:D):((tm.put x d).put y e).eqv ((tm.put y e).put x d):=fun t=>by
 simp only [Tm.iN]
 by_cases h1:x=some t
 ·simp only [h1,h t h1,if_true,if_false]
 ·simp only [h1,if_false]
theorem tr {g:Option (Nat×Bool)} {tm bm:Tm} {A A' C:Prop} (h : ∀ t∈p8 g,tm.get t=bm.get t) (ha:A→A') (hh:guarded g tm A C):guarded g bm A' C:=by
 cases g with
 | none=>exact ha hh
 | some p=>
  obtain⟨t,want⟩:=p
  unfold guarded at *
  simp only at *
  rw [← h t (by simp [p8])]
  split
  ·rename_i b hb
   rw [hb]at hh
   exact⟨fun e=>ha (hh.1 e),hh.2⟩
  ·rename_i hb
   rw [hb]at hh
   exact hh
  ·rename_i x h1 h2
   split at hh
   ·exact h1 _ ‹_›
   ·exact h2 _ ‹_›
   ·exact hh
theorem zz {tm bm:Tm} : ∀ {l:List X},(∀ t∈kC l,tm.get t=bm.get t)→l.map (·.ev tm)=l.map (·.ev bm)
 | [],_=>rfl
 | x::r,h=>by
  simp only [List.map_cons]
  rw [X.bu fun t ht=>h t (by simp [kC,ht]),zz (l:=r) fun t ht=>h t (by simp [kC,ht])]
theorem rm {P:Program} {ai:AI} {tm bm:Tm} {s s':St} {d:D} (h : ∀ t∈ai.reads,tm.get t=bm.get t) (hh:ou P ai tm s d s'):ou P ai bm s d s':=by
 cases ai with
 | op dst g o=>
  simp only [AI.reads,List.mem_append]at h
  exact tr (fun t ht=>h t (.inl ht)) (fun e=>by rw [← vS fun t ht=>h t (.inr ht)];exact e) hh
 | call dst g f xs=>
  simp only [AI.reads,List.mem_append]at h
  exact tr (fun t ht=>h t (.inl ht)) (fun e=>by rw [← zz fun t ht=>h t (.inr ht)];exact e) hh
 | nil dst g n x=>exact hh
 | fX dst g t xs=>exact hh
theorem mL {ai:AI} {tm bm:Tm} {s:St} (h : ∀ t∈ai.reads,tm.get t=bm.get t):gx ai tm s=gx ai bm s:=by
 cases ai with
 | op dst g o=>
  simp only [AI.reads,List.mem_append]at h
  have he:=vS (s:=s) fun t ht=>h t (.inr ht)
  cases g with
  | none=>simp only [gx,he]
  | some p=>
   obtain⟨t,want⟩:=p
   simp only [gx,he,h t (.inl (by simp [p8]))]
 | call dst g f xs=>rfl
 | nil dst g n x=>rfl
 | fX dst g t xs=>rfl
theorem DL {dst:Option Nat} {g:Option (Nat×Bool)} {o:AO} (h:fa (AI.op dst g o).kind=false):(AI.op dst g o).kind=o.kind:=by
 unfold AI.kind at *
 split at h
 ·cases h
 ·rename_i heq;cases heq;rfl
 ·cases h
theorem JO {ai:AI} (hk:ai.kind = .pure) {tm:Tm} {s s':St} : gx ai tm s=gx ai tm s':=by
 cases ai with
 | op dst g o=>
  have ho:o.kind = .pure:=by rw [← hk];exact(DL (by rw [hk];rfl)).symm
  have he:=EI ho (tm:=tm) (s:=s) (s':=s')
  cases g with
  | none=>simp only [gx,he]
  | some p=>simp only [gx,he]
 | call dst g f xs=>rfl
 | nil dst g n x=>rfl
 | fX dst g t xs=>rfl
theorem apart_spec {a q:AI} (h:a.apart q=true):(∀ t,a.dst=some t→t∉q.reads)∧(∀ t,q.dst=some t→t∉a.reads)∧(∀ t,a.dst=some t→q.dst≠some t):=by
 unfold AI.apart at h
 simp only [Bool.and_eq_true]at h
 obtain⟨⟨h1,h2⟩,h3⟩:=h
 refine⟨fun t e=> ?_,fun t e=> ?_,fun t e e'=> ?_⟩
 ·rw [e]at h1;simpa [w5]using h1
 ·rw [e]at h2;simpa [w5]using h2
 ·rw [e,e']at h3;simp at h3
theorem ov {tm:Tm} {dst:Option Nat} {d:D} {l:List Nat} (h : ∀ t,dst=some t→t∉l) : ∀ t∈l,tm.get t=(tm.put dst d).get t:=fun t ht=>by
 rw [Tm.iN,if_neg fun e=>h t e ht]
section
variable {P:Program} {is:List AI} {K:Tm→St→Prop}
theorem ow (hK : ∀ tm bm s,Tm.eqv tm bm→K tm s→K bm s) : ∀ (R:List (Nat×Nat)) (bf:List St) (tm bm:Tm) (s:St),tm.eqv bm→iw P is K R bf tm s→iw P is K R bf bm s
 | [],_,tm,bm,s,e,h=>hK tm bm s e h
 | (q,b)::R,bf,tm,bm,s,e,h=>by
  unfold iw at *
  split at h
  ·exact h.elim
  ·rename_i ai qH
   split at h
   ·rename_i hc
    obtain⟨d,s',h1,h2⟩:=h
    exact⟨d,s',rm (fun t _=>e t) h1,ow hK R _ _ _ _ (e.put _ d) h2⟩
   ·rename_i hc
    obtain⟨d,h1,h2,h3⟩:=h
    refine⟨d, ?_,fun hl s' lp=> ?_,ow hK R _ _ _ _ (e.put _ d) h3⟩
    ·rw [← mL fun t _=>e t];exact h1
    ·rw [← mL fun t _=>e t];exact h2 hl s' lp
theorem BE (i:Nat) (l:List Nat):gd is (i::l)=(if fa (fY is i)then 1 else 0)+gd is l:=by
 unfold gd
 rw [List.filter_cons]
 split <;> simp <;> omega
theorem rn (hK : ∀ tm bm s,Tm.eqv tm bm→K tm s→K bm s) {q b:Nat} {ai:AI} (hq:is[q]? = some ai) (hm:fa ai.kind=false) (Y:List (Nat×Nat)) :
 ∀ (X:List (Nat×Nat)) (bf:List St) (tm:Tm) (s:St),(∀ a∈X,iI is a.1 q=true)→(ai.kind = .load→gd is (X.map (·.1))≤b)→
  iw P is K (X++(q,b)::Y) bf tm s→
  ∃ d,gx ai tm s=some d∧(ai.kind = .load→∀ s'∈bf.take (b - gd is (X.map (·.1))),gx ai tm s'=some d)∧iw P is K (X++Y) bf (tm.put ai.dst d) s
 | [],bf,tm,s,_,_,h=>by
  simp only [List.nil_append,iw,hq,hm]at h
  obtain⟨d,h1,h2,h3⟩:=h
  exact⟨d,h1,fun hl s' lp=>h2 hl s' (by simpa [gd]using lp),h3⟩
 | (a,c)::X,bf,tm,s,eU,hb,h=>by
  have EJ:=eU (a,c) (by simp)
  unfold iI at EJ
  split at EJ
  ·rename_i ia iq Ty pD
   rw [hq]at pD
   cases pD
   obtain⟨p1,p2,p3⟩:=apart_spec EJ
   have zq:fY is a=ia.kind:=by simp [fY,Ty]
   have Mi : ∀ x∈X,iI is x.1 q=true:=fun x hx=>eU x (List.mem_cons_of_mem _ hx)
   rw [List.map_cons,BE,zq]at hb ⊢
   simp only [List.cons_append,iw,Ty]at h ⊢
   cases hc:fa ia.kind
   ·simp only [hc,Bool.false_eq_true,if_false,Nat.zero_add]at h hb ⊢
    obtain⟨d,h1,h2,h3⟩:=h
    obtain⟨e,g1,g2,g3⟩:=rn hK hq hm Y X bf _ s Mi hb h3
    have cg : ∀ s,gx ai tm s=gx ai (tm.put ia.dst d) s:=fun s=>mL (ov p1)
    have Tz : ∀ s,gx ia tm s=gx ia (tm.put ai.dst e) s:=fun s=>mL (ov p2)
    refine⟨e,by rw [cg];exact g1,fun hl s' lp=>by rw [cg];exact g2 hl s' lp,d,by rw [← Tz];exact h1,fun hl s' lp=>by rw [← Tz];exact h2 hl s' lp, ?_⟩
    exact ow hK _ _ _ _ _ (Tm.BD tm p3 d e) g3
   ·simp only [hc,if_true]at h hb ⊢
    obtain⟨d,s1,h1,h3⟩:=h
    obtain⟨e,g1,g2,g3⟩:=rn hK hq hm Y X (s::bf) _ s1 Mi (fun hl=>by have:=hb hl;omega) h3
    have cg : ∀ s,gx ai tm s=gx ai (tm.put ia.dst d) s:=fun s=>mL (ov p1)
    have kp:gx ai tm s=some e:=by
     cases hk:ai.kind with
     | pure=>rw [cg,JO hk (s':=s1)];exact g1
     | load=>
      have:=hb hk
      rw [cg]
      refine g2 hk s ?_
      rw [show b - gd is (X.map (·.1))=(b - (1+gd is (X.map (·.1))))+1 by omega,List.take_succ_cons]
      exact List.mem_cons_self
     | alloc=>rw [hk]at hm;cases hm
     | core=>rw [hk]at hm;cases hm
    refine⟨e,kp,fun hl s' lp=> ?_,d,s1,rm (ov p2) h1,ow hK _ _ _ _ _ (Tm.BD tm p3 d e) g3⟩
    have:=hb hl
    rw [cg]
    refine g2 hl s' ?_
    rw [show b - gd is (X.map (·.1))=(b - (1+gd is (X.map (·.1))))+1 by omega,List.take_succ_cons]
    exact List.mem_cons_of_mem _ lp
  ·cases EJ
end
end Go.Abs

/-! Par1 -/

namespace Go.Abs
section
variable {P:Program}
theorem Hm {o:Oper} {z:List D} (h:w6 P o=some (.alloc z)) : ∃ t,o.op = .alloc t∧zeroOf P t=some z:=by
 obtain⟨dst,op,type,pos,after,guard⟩:=o
 unfold w6 at h
 simp only at h
 split at h
 case h_4 t=>
  split at h
  ·obtain⟨z',h1,h2⟩:=map_some h;cases h2
  ·obtain⟨z',h1,h2⟩:=map_some h;cases h2;exact⟨t,rfl,h1⟩
 all_goals
  first
   | (rw [Option.map_eq_some_iff]at h;obtain⟨_,_,h⟩:=h;cases h)
   | skip
 all_goals
  (repeat' (split at h)) <;> first | (cases h;done) | (rw [Option.map_eq_some_iff]at h;obtain⟨_,_,h⟩:=h;cases h)
theorem uz {nt:Nat} {ops:Array Oper} {o:Oper} {ai:AI} (h:cI P nt ops o=some ai) :
 ∃ g,p9 ops o.guard=some g∧(∀ t,o.dst=some t→t<nt)∧om P ops o g=some ai:=by
 have h2:=sb h
 unfold cI at h
 split at h
 ·cases h
 ·rename_i g hg
  split at h
  ·exact⟨g,hg,h2,h⟩
  ·cases h
theorem oL {ops:Array Oper} {o:Oper} {g:Option (Nat×Bool)} {ai:AI} (h:om P ops o g=some ai):ai.dst=o.dst:=by
 unfold om at h
 split at h
 ·split at h
  ·obtain⟨xs,_,rfl⟩:=map_some h;rfl
  ·cases h
 ·obtain⟨xs,_,rfl⟩:=map_some h;rfl
 ·split at h
  ·cases h;rfl
  ·split at h
   ·cases h;rfl
   ·cases h;rfl
   ·cases h
theorem oM {nt:Nat} {ops:Array Oper} {o:Oper} {ai:AI} (h:cI P nt ops o=some ai):ai.dst=o.dst:=by
 obtain⟨g,_,_,h⟩:=uz h
 exact oL h
theorem rp {nt:Nat} {ops:Array Oper} {i:Nat} {o:Oper} {ai:AI} (hi:ops[i]? = some o) (hc:cI P nt ops o=some ai)
 {M:Map} {s:St} {w:World} {tm:Tm} {act:Act} (r:Rel M s w) (iY:Laid M s w) (ht:jo M s tm act.tmps) {K':Tm→St→Prop} (h:fM P [ai] K' tm s)
 {K:Act→World→Prop} {Q:Exit→Act→World→Prop}
 (hK : ∀ d v s1 w1 M1,K' (tm.put ai.dst d) s1→Ext M s w M1 s1 w1→Rel M1 s1 w1→RD M1 s1 d v→K (act.put o.dst v) w1):wpOp P ops Q i K act w:=by
 obtain⟨g,hg,_,hb⟩:=uz hc
 rw [oL hb]at hK
 simp only [wpOp,hi]
 have skip:K' (tm.put o.dst (.tuple [])) s→K (act.put o.dst Go.undef) w:=fun hk=>hK _ _ _ _ _ hk (Ext.refl M s w) r .undef
 unfold om at hb
 split at hb
 ·rename_i f args kG jL
  split at hb
  ·rename_i sK
   obtain⟨xs,k8,rfl⟩:=map_some hb
   simp only [fM]at h
   rcases gJ hg ht h with ⟨hw,hA⟩ | ⟨hw,hB⟩
   ·simp only [hw,if_true]
    left
    have hex:(execOp act.eval o).run P w = .ok (.enter f (args.map act.eval)) w:=by
     obtain⟨dst,op,type,pos,after,guard⟩:=o
     simp only at jL
     subst jL
     exact rj act.eval dst f args kG type pos after guard rfl sK w
    obtain⟨c1,c2⟩:=qG ht k8
    unfold Oper.wp
    rw [hex,Oper.upon_enter]
    refine(hA M w (args.map act.eval) r iY (by simp [c1]) (fun i d v e1 e2=>c2 i d v e1 (by simpa using e2))).mono ?_
    rintro en w' ⟨M',d,v,s',rfl,hk,e',r',hv⟩
    exact hK _ _ _ _ _ hk e' r' hv
   ·simp only [hw]
    exact skip hB
  ·cases hb
 ·rename_i t args kG jL
  obtain⟨xs,k8,rfl⟩:=map_some hb
  simp only [fM]at h
  rcases gJ hg ht h with ⟨hw,hA⟩ | ⟨hw,hB⟩
  ·simp only [hw,if_true]
   left
   split at hA
   ·rename_i f kl Bs
    obtain⟨sK,hA⟩:=hA
    have Hc:=ht t
    rw [Bs]at Hc
    obtain⟨vs,lr,hlen,xn⟩:=Hc.DD
    have hex:(execOp act.eval o).run P w = .ok (.enter f (args.map act.eval++vs)) w:=by
     obtain⟨dst,op,type,pos,after,guard⟩:=o
     simp only at jL
     subst jL
     exact uq act.eval dst (.tmp t) f vs args kG type pos after guard lr sK w
    have cc:=zr k8 ht hlen xn
    unfold Oper.wp
    rw [hex,Oper.upon_enter]
    refine(hA M w (args.map act.eval++vs) r iY cc.1 cc.2).mono ?_
    rintro en w' ⟨M',d,v,s',rfl,hk,e',r',hv⟩
    exact hK _ _ _ _ _ hk e' r' hv
   ·exact hA.elim
  ·simp only [hw]
   exact skip hB
 ·split at hb
  ·rename_i neg x Bt
   cases hb
   simp only [fM]at h
   rcases gJ hg ht h with ⟨hw,hA⟩ | ⟨hw,hB⟩
   ·simp only [hw,if_true]
    left
    split at hA
    ·rename_i g' z rows hx
     obtain⟨b,hb,hex⟩:=tn (w:=w) Bt ht hx
     unfold Oper.wp
     rw [hex,Oper.upon_value]
     exact hK _ _ _ _ _ (hA b hb) (Ext.refl M s w) r (.bool _)
    ·exact hA.elim
   ·simp only [hw]
    exact skip hB
  ·have fin : ∀ ao,ai = .op o.dst g ao→(∀ d s',aK ao tm s=some (d,s')→cw P M s w (execOp act.eval o) d s')→
    (if Region.wanted o (yielded ops act.tmps)=true then o.wp P act w K Q∨(o.asks P act w∧LetsOut Q)else K (act.put o.dst Go.undef) w):=by
    intro ao qH O5
    subst qH
    simp only [fM]at h
    rcases gJ hg ht h with ⟨hw,hA⟩ | ⟨hw,hB⟩
    ·simp only [hw,if_true]
     left
     split at hA
     ·rename_i d s' mK
      obtain⟨v,w',M',dd,r',hv,e'⟩:=O5 d s' mK
      unfold Oper.wp
      rcases dd with dd | ⟨dd,rfl⟩
      ·rw [dd,Oper.upon_value]
       exact hK _ _ _ _ _ hA e' r' hv
      ·rw [dd,Oper.upon_skip]
       exact hK _ _ _ _ _ hA e' r' hv
     ·exact hA.elim
    ·simp only [hw]
     exact skip hB
   split at hb
   ·rename_i z k n ps kH
    cases hb
    refine fin _ rfl (fun d s' mK=> ?_)
    split at mK
    ·exact sJ kH r ht mK
    ·exact oq kH r ht mK
   ·rename_i ao kH
    cases hb
    exact fin _ rfl (fun d s' mK=>oq kH r ht mK)
   ·cases hb
structure DM (M:Map) (s:St) (b:Nat):Prop where
 o : ∀ o,o<s.av.length→M.mu o≠b
 t : ∀ t c z,s.live t→M.be t≠some (b,c,z)
 g : ∀ off,M.G b off=none
theorem DM.mono {M M':Map} {s s':St} {w w':World} {b:Nat} (h:DM M s b) (e:Ext M s w M' s' w') (hb:b<w.heap.size):DM M' s' b:=by
 refine⟨fun o ho=> ?_,fun t c z hl he=> ?_,fun off=> ?_⟩
 ·rcases Nat.lt_or_ge o s.av.length with h1 | h1
  ·rw [e.le.mu o h1];exact h.o o h1
  ·have:=e.mT o h1 ho;omega
 ·rcases e.mU t b c z hl he with ⟨h1,c',z',h2⟩ | h1
  ·exact h.t t c' z' h1 h2
  ·omega
 ·by_cases hg:M'.G b off=M.G b off
  ·rw [hg];exact h.g off
  ·rcases e.o4 b off hg with h1 | ⟨t,c,z,h1,h2⟩
   ·omega
   ·exact(h.t t c z h1 h2).elim
theorem Rel.idle {M:Map} {s:St} {w:World} (r:Rel M s w) (x:Obj):Rel M s (w.alloc x)∧Ext M s w M s (w.alloc x)∧DM M s w.heap.size:=by
 refine⟨⟨fun b o v e=> ?_,fun o ds e=> ?_,r.iO,r.inj,fun t n e=> ?_,r.dW,r.eW⟩, ?_,⟨fun o ho=> ?_,fun t c z hl e=> ?_,fun off=>r.LS (Nat.le_refl _) off⟩⟩
 ·obtain⟨h3,h4⟩:=r.comm b o v e
  refine⟨?_,h4⟩
  rw [World.cell?_alloc_lt]
  ·exact h3
  ·exact r.yp e
 ·obtain⟨vs,T,h3,h4,h5,h6⟩:=r.obj o ds e
  exact⟨vs,T,by rw [heap_alloc_old w _ _ h3.lt];exact h3,h4,h5,h6⟩
 ·rcases r.tok t n e with h3 | ⟨b,cap,size,ew,T',h3,h4,h5⟩
  ·exact .inl h3
  ·exact .inr ⟨b,cap,size,ew,T',h3,by rw [heap_alloc_old w _ _ (jm h4)];exact h4,h5⟩
 ·exact⟨Le.refl M s,fun b hb _ _=>heap_alloc_old w _ b hb,fun o h3 h4=>by omega,fun t b c z h e=> .inl ⟨h,c,z,e⟩,fun _ _ h=>(h rfl).elim,by simp,rfl,rfl,rfl⟩
 ·have:=r.mX ho;omega
 ·have:=r.pJ hl e;omega
theorem Rel.R0 {M:Map} {s:St} {w:World} (r:Rel M s w) {B:fw} (e:Ext B.M B.s B.w M s w) {b:Nat} (u:DM M s b) (hb:B.w.heap.size≤b)
 (ds:List D) (vs:Array Value) (T:TypeId) (hh:w.heap[b]? = some (.cells vs T (0,0))) (hl:vs.size=ds.length) (h1 : ∀ v∈vs,v.oneCell'=true)
 (h2 : ∀ (i:Nat) (d:D) (v:Value),ds[i]? = some d→vs[i]? = some v→RD M s d v) :
 Rel (M.c9 s.av.length b) {s with av:=s.av++ [ds]} w∧Ext B.M B.s B.w (M.c9 s.av.length b) {s with av:=s.av++ [ds]} w∧
 Le M s (M.c9 s.av.length b) {s with av:=s.av++ [ds]}:=by
 have le:=qa (M:=M) s b ds
 have mI : ∀ o,o<s.av.length→(M.c9 s.av.length b).mu o=M.mu o:=le.mu
 have de:(M.c9 s.av.length b).mu s.av.length=b:=by simp [Map.c9,Map.mu]
 refine⟨⟨r.comm,fun o kZ e'=> ?_,fun o ho off=> ?_,fun o o' ho ki e'=> ?_,r.tok,fun t b' c z o hl e' ho=> ?_,r.eW⟩, ?_,le⟩
 ·rcases Nat.lt_or_ge o s.av.length with ho | ho
  ·rw [List.getElem?_append_left ho]at e'
   obtain⟨ew,T',h3,h4,h5,h6⟩:=r.obj o kZ e'
   refine⟨ew,T', ?_,h4,⟨h5.1,by rw [le.ty o ho];exact h5.2⟩,fun i d v e1 e2=>(h6 i d v e1 e2).mono le⟩
   rw [mI o ho,le.ob o ho];exact h3
  ·rw [List.getElem?_append_right ho]at e'
   have:o=s.av.length:=by
    have:=(List.getElem?_eq_some_iff.1 e').1
    simp at this;omega
   subst this
   simp at e';subst e'
   refine⟨vs,T, ?_,hl,⟨h1,fun T' h=>by simp [Map.c9,Map.ty,Ob.ty?]at h⟩,fun i d v e1 e2=>(h2 i d v e1 e2).mono le⟩
   rw [de];exact jO.of hh (by simp [Map.c9,Map.ob])
 ·simp at ho
  rcases Nat.lt_or_ge o s.av.length with h3 | h3
  ·rw [mI o h3];exact r.iO o h3 off
  ·have:o=s.av.length:=by omega
   subst this
   rw [de];exact u.g off
 ·simp at ho ki
  rcases Nat.lt_or_ge o s.av.length with h3 | h3 <;> rcases Nat.lt_or_ge o' s.av.length with h4 | h4
  ·rw [mI o h3,mI o' h4]at e';exact r.inj o o' h3 h4 e'
  ·have:o'=s.av.length:=by omega
   subst this
   rw [mI o h3,de]at e'
   exact(u.o o h3 e').elim
  ·have:o=s.av.length:=by omega
   subst this
   rw [mI o' h4,de]at e'
   exact(u.o o' h4 e'.symm).elim
  ·omega
 ·simp at ho
  rcases Nat.lt_or_ge o s.av.length with h3 | h3
  ·rw [mI o h3];exact r.dW t b' c z o hl e' h3
  ·have:o=s.av.length:=by omega
   subst this
   rw [de]
   intro he
   subst he
   exact u.t t c z hl e'
 ·refine⟨e.le.trans le,e.kept,fun o h3 h4=> ?_,e.mU,e.o4,e.size,e.os,e.tape,e.output⟩
  simp at h4
  rcases Nat.lt_or_ge o s.av.length with h5 | h5
  ·rw [mI o h5];exact e.mT o h3 h5
  ·have:o=s.av.length:=by omega
   subst this
   rw [de];exact hb
theorem C3 {nt:Nat} {ops:Array Oper} {i:Nat} {o:Oper} {t:Nat} {z:List D} (hi:ops[i]? = some o) (hc:cI P nt ops o=some (.op (some t) none (.alloc z)))
 {w:World} {act:Act} {K:Act→World→Prop} {Q:Exit→Act→World→Prop}
 (hK : ∀ vs T,vs.size=z.length→(∀ v∈vs,v.oneCell'=true)→(∀ (M:Map) (s:St) (i:Nat) (d:D) (v:Value),z[i]? = some d→vs[i]? = some v→RD M s d v)→
  K (act.put (some t) (.pointer (some ⟨w.heap.size,0,none⟩))) (w.alloc (.cells vs T))):wpOp P ops Q i K act w:=by
 obtain⟨g,hg,_,hb⟩:=uz hc
 have my:=oL hb
 simp only [AI.dst]at my
 simp only [wpOp,hi]
 have jL:g=none∧w6 P o=some (.alloc z):=by
  unfold om at hb
  split at hb
  ·split at hb
   ·obtain⟨xs,_,h⟩:=map_some hb;cases h
   ·cases hb
  ·obtain⟨xs,_,h⟩:=map_some hb;cases h
  ·split at hb
   ·cases hb
   ·split at hb
    ·rename_i kH
     simp only [Option.some.injEq,AI.op.injEq]at hb
     obtain⟨_,_,h⟩:=hb
     split at h <;> cases h
    ·rename_i ao kH
     simp only [Option.some.injEq,AI.op.injEq]at hb
     obtain⟨_,h1,h2⟩:=hb
     subst h2
     exact⟨h1,kH⟩
    ·cases hb
 obtain⟨rfl,kH⟩:=jL
 obtain⟨T,hT,hz⟩:=Hm kH
 have hw:Region.wanted o (yielded ops act.tmps)=true:=by
  have:o.guard=none:=by
   cases zl:o.guard with
   | none=>rfl
   | some p=>
    obtain⟨j,b⟩:=p
    rw [zl]at hg
    unfold p9 at hg
    simp only at hg
    split at hg <;> cases hg
  simp [Region.wanted,this]
 simp only [hw,if_true]
 left
 unfold zeroOf at hz
 split at hz
 ·rename_i inf JH
  split at hz
  ·rename_i v hv
   split at hz
   ·have dd:(execOp act.eval o).run P w = .ok (.value (.pointer (some ⟨w.heap.size,0,none⟩))) (w.alloc (.cells v.cells T)):=by
     obtain⟨dst,op,type,pos,after,guard⟩:=o
     simp only at hT
     subst hT
     simp [execOp,Instr.alloc,zeroValue,fD P JH,hv,newVar,newRow]
    have h3:=fun M s=>iL (M:=M) (s:=s) hz
    obtain⟨h1,h2,_⟩:=h3 ⟨fun _ _=>none,fun _=>(0, .any),fun _=>none⟩ ⟨[],[]⟩
    unfold Oper.wp
    rw [dd,Oper.upon_value, ← my]
    exact hK _ _ (by rw [h1];simp) (fun u hu=>h2 u (by simpa using hu)) (fun M s i d u e1 e2=>(h3 M s).2.2 i d u e1 (by simpa using e2))
   ·cases hz
  ·cases hz
 ·cases hz
end
end Go.Abs

/-! Par2 -/

namespace Go.Abs
section
variable {is:List AI} {af pt:List (List Nat)}
theorem tt {pq:List Nat} {l l':List Nat} (h:l'.Sublist l) (hb:iB is pq l=true):iB is pq l'=true:=by
 induction h with
 | slnil=>rfl
 | cons a h ih=>
  simp only [iB,Bool.and_eq_true]at hb
  exact ih hb.2
 | cons_cons a h ih=>
  simp only [iB,Bool.and_eq_true,Bool.or_eq_true]at hb ⊢
  refine⟨hb.1.imp id fun h1=> ?_,ih hb.2⟩
  rw [List.all_eq_true]at h1 ⊢
  exact fun x hx=>h1 x (h.subset hx)
theorem vo {f:Nat→Bool} {l l':List Nat} (h:l'.Sublist l) (ha:l.all f=true):l'.all f=true:=by
 rw [List.all_eq_true]at ha ⊢
 exact fun x hx=>ha x (h.subset hx)
theorem C4 {l l':List Nat} (h:l'.Sublist l):gd is l'≤gd is l:=(h.filter _).length_le
theorem EK {pre yA:List Nat} {q b:Nat} (h:yA.Sublist pre) (hs:ll is pt pre q b=true):ll is pt yA q b=true:=by
 unfold ll at *
 split at hs
 ·exact vo h hs
 ·exact vo h hs
 ·simp only [Bool.and_eq_true]at hs ⊢
  exact⟨vo h hs.1,tt h hs.2⟩
 ·simp only [Bool.and_eq_true,decide_eq_true_eq]at hs ⊢
  exact⟨⟨vo h hs.1.1,tt h hs.1.2⟩,Nat.le_trans (C4 (h.filter _)) hs.2⟩
theorem BF : ∀ {R:List (Nat×Nat)} {pre yA:List Nat},yA.Sublist pre→pC is af pt pre R=true→pC is af pt yA R=true
 | [],_,_,_,_=>rfl
 | (q,b)::R,pre,yA,h,ho=>by
  simp only [pC,Bool.and_eq_true,Bool.not_eq_true']at ho ⊢
  obtain⟨⟨⟨h1,h2⟩,h3⟩,h4⟩:=ho
  refine⟨⟨⟨EK h h1, ?_⟩,h3⟩,BF (h.cons_cons q) h4⟩
  rw [← Bool.not_eq_true,List.contains_iff_mem]at h2 ⊢
  exact fun hm=>h2 (h.subset hm)
theorem yB : ∀ {X:List (Nat×Nat)} {e:Nat×Nat} {Y:List (Nat×Nat)} {pre:List Nat},pC is af pt pre (X++e::Y)=true→pC is af pt pre (X++Y)=true
 | [],(q,b),Y,pre,h=>by
  simp only [List.nil_append,pC,Bool.and_eq_true]at h
  exact BF (List.sublist_cons_self q pre) h.2
 | (a,c)::X,e,Y,pre,h=>by
  simp only [List.cons_append,pC,Bool.and_eq_true]at h ⊢
  obtain⟨⟨⟨h1,h2⟩,h3⟩,h4⟩:=h
  refine⟨⟨⟨h1,h2⟩, ?_⟩,yB h4⟩
  rw [List.all_eq_true]at h3 ⊢
  intro j hj
  have:=h3 j hj
  simp only [Bool.and_eq_true,Bool.not_eq_true']at this ⊢
  refine⟨this.1, ?_⟩
  have h5:=this.2
  rw [← Bool.not_eq_true,List.contains_iff_mem]at h5 ⊢
  refine fun hm=>h5 ?_
  simp only [List.map_append,List.map_cons,List.mem_append,List.mem_cons]at hm ⊢
  exact hm.imp id .inr
theorem oN : ∀ {X:List (Nat×Nat)} {q b:Nat} {Y:List (Nat×Nat)} {pre:List Nat},pC is af pt pre (X++(q,b)::Y)=true→
 ll is pt ((X.map (·.1)).reverse++pre) q b=true∧q∉X.map (·.1)∧q∉pre∧(∀ j∈fl af q,j≠q∧j∉Y.map (·.1))∧pC is af pt (q::((X.map (·.1)).reverse++pre)) Y=true
 | [],q,b,Y,pre,h=>by
  simp only [List.nil_append,pC,Bool.and_eq_true,Bool.not_eq_true']at h
  obtain⟨⟨⟨h1,h2⟩,h3⟩,h4⟩:=h
  rw [← Bool.not_eq_true,List.contains_iff_mem]at h2
  refine⟨h1,by simp,h2,fun j hj=> ?_,h4⟩
  rw [List.all_eq_true]at h3
  have:=h3 j hj
  simp only [Bool.and_eq_true,bne_iff_ne,Bool.not_eq_true', ← Bool.not_eq_true,List.contains_iff_mem]at this
  exact this
 | (a,c)::X,q,b,Y,pre,h=>by
  simp only [List.cons_append,pC,Bool.and_eq_true]at h
  obtain⟨_,h4⟩:=h
  obtain⟨g1,g2,g3,g4,g5⟩:=oN h4
  simp only [List.map_cons,List.reverse_cons,List.append_assoc,List.singleton_append]
  refine⟨g1, ?_,fun h=>g3 (List.mem_cons_of_mem _ h),g4,g5⟩
  intro hm
  rcases List.mem_cons.1 hm with rfl | hm
  ·exact g3 (by simp)
  ·exact g2 hm
theorem vq : ∀ {Y:List (Nat×Nat)} {pre:List Nat},pC is af pt pre Y=true→∀ x∈Y,x.1∉pre∧(fY is x.1 = .alloc→∀ a∈pre,iI is a x.1=true)
 | [],_,_,x,hx=>by cases hx
 | (q,b)::Y,pre,h,x,hx=>by
  simp only [pC,Bool.and_eq_true,Bool.not_eq_true']at h
  obtain⟨⟨⟨h1,h2⟩,_⟩,h4⟩:=h
  rw [← Bool.not_eq_true,List.contains_iff_mem]at h2
  rcases List.mem_cons.1 hx with rfl | hx
  ·refine⟨h2,fun hk a ha=> ?_⟩
   unfold ll at h1
   simp only [hk]at h1
   rw [List.all_eq_true]at h1
   exact h1 a ha
  ·obtain⟨g1,g2⟩:=vq h4 x hx
   exact⟨fun h=>g1 (List.mem_cons_of_mem _ h),fun hk a ha=>g2 hk a (List.mem_cons_of_mem _ ha)⟩
theorem vT : ∀ {n:Nat},rU af pt n=true→∀ i,i<n→∀ j∈fl pt i,j∈fl af i∨∃ k∈fl af i,j∈fl pt k
 | 0,_,i,hi=>by omega
 | n+1,h,i,hi=>by
  simp only [rU,Bool.and_eq_true]at h
  rcases Nat.lt_or_ge i n with h1 | h1
  ·exact vT h.2 i h1
  ·have:i=n:=by omega
   subst this
   intro j hj
   have:=h.1
   rw [List.all_eq_true]at this
   have:=this j hj
   simp only [Bool.or_eq_true,List.contains_iff_mem,List.any_eq_true]at this
   exact this
theorem se {pq:List Nat} : ∀ {l:List Nat},iB is pq l=true→∀ (x:Nat) (l1 l2:List Nat),l=l1++x::l2→fY is x = .alloc→x∈pq→∀ y∈l2,y∈pq
 | [],_,x,l1,l2,h=>by simp at h
 | a::l,hb,x,l1,l2,h=>by
  simp only [iB,Bool.and_eq_true,Bool.or_eq_true,Bool.not_eq_true',Bool.and_eq_false_iff]at hb
  intro hk hx y hy
  cases l1 with
  | nil=>
   simp only [List.nil_append,List.cons.injEq]at h
   obtain⟨rfl,rfl⟩:=h
   rcases hb.1 with h1 | h1
   ·rcases h1 with h1 | h1
    ·simp [hk]at h1
    ·rw [← Bool.not_eq_true,List.contains_iff_mem]at h1
     exact(h1 hx).elim
   ·rw [List.all_eq_true]at h1
    have:=h1 y hy
    rwa [List.contains_iff_mem]at this
  | cons b l1=>
   simp only [List.cons_append,List.cons.injEq]at h
   exact se hb.2 x l1 l2 h.2 hk hx y hy
end
structure Pd where
 q:Nat
 t:Nat
 z:List D
 b:Nat
structure Pb (is:List AI) (R:List (Nat×Nat)) (B:fw) (M:Map) (s:St) (act:Act) (w:World) (p:Pd):Prop where
 mem:p.q∈R.map (·.1)
 ai:is[p.q]? = some (.op (some p.t) none (.alloc p.z))
 cells : ∃ (vs:Array Value) (T:TypeId),w.heap[p.b]? = some (.cells vs T (0,0))∧vs.size=p.z.length∧(∀ v∈vs,v.oneCell'=true)∧
  ∀ (M:Map) (s:St) (i:Nat) (d:D) (v:Value),p.z[i]? = some d→vs[i]? = some v→RD M s d v
 unk:DM M s p.b
 base:B.w.heap.size≤p.b
 slot:act.tmps.getD p.t Go.undef = .pointer (some ⟨p.b,0,none⟩)
def sM (P:Program) (is:List AI) (K:Tm→St→Prop) (B:fw) (nt:Nat) (R:List (Nat×Nat)) (cU:List Pd) (act:Act) (w:World):Prop:=
 ∃ (M:Map) (s:St) (tm oO:Tm) (bf:List St),Ext B.M B.s B.w M s w∧Rel M s w∧jo M s oO act.tmps∧(∀ t,(∀ p∈cU,p.t≠t)→oO.get t=tm.get t)∧
  act.tmps.size=nt∧act.defers = []∧iw P is K R bf tm s∧(∀ p∈cU,Pb is R B M s act w p)∧
  (∀ p∈cU,∀ p'∈cU,p.q=p'.q∨p.t=p'.t∨p.b=p'.b→p=p')
structure ng (is:List AI) (af pt:List (List Nat)) (b9:Array Bool) (R:List (Nat×Nat)) (cU:List Pd):Prop where
 ok:pC is af pt [] R=true
 zA : ∀ i,i<is.length→(b9.getD i false=true↔(i∉R.map (·.1)∨∃ p∈cU,p.q=i))
 cl : ∀ i,i<is.length→b9.getD i false=true→∀ j∈fl pt i,b9.getD j false=true
 size:b9.size=is.length
 lt : ∀ x∈R,x.1<is.length
section
variable {P:Program} {is:List AI} {af pt:List (List Nat)} {K:Tm→St→Prop} {B:fw} {nt:Nat}
theorem Pe {b9:Array Bool} {q b:Nat} {R:List (Nat×Nat)} {cU:List Pd} {act:Act} {w:World} (hs:ng is af pt b9 ((q,b)::R) cU) (h:sM P is K B nt ((q,b)::R) cU act w)
 {p:Pd} (hp:p∈cU) (pE:p.q=q) :
 ng is af pt b9 R (cU.filter fun p'=>decide (p'.q≠q))∧sM P is K B nt R (cU.filter fun p'=>decide (p'.q≠q)) act w:=by
 have kW : ∀ p',p'∈(cU.filter fun p'=>decide (p'.q≠q))↔p'∈cU∧p'.q≠q:=fun p'=>by simp
 constructor
 ·have zu:=hs.ok
  have wy:=oN (X:= []) zu
  refine⟨yB (X:= []) zu,fun i hi=> ?_,hs.cl,hs.size,fun x hx=>hs.lt x (List.mem_cons_of_mem _ hx)⟩
  rw [hs.zA i hi]
  simp only [List.map_cons,List.mem_cons,not_or]
  have Pf:q∉R.map (·.1):=fun hm=>by
   obtain⟨x,hx,rfl⟩:=List.mem_map.1 hm
   exact(vq wy.2.2.2.2 x hx).1 (by simp)
  constructor
  ·rintro(⟨h1,h2⟩ | ⟨p',h1,h2⟩)
   ·exact .inl h2
   ·by_cases hq:i=q
    ·subst hq;exact .inl Pf
    ·exact .inr ⟨p',(kW p').2 ⟨h1,by rw [h2];exact hq⟩,h2⟩
  ·rintro(h1 | ⟨p',h1,h2⟩)
   ·by_cases hq:i=q
    ·subst hq;exact .inr ⟨p,hp,pE⟩
    ·exact .inl ⟨hq,h1⟩
   ·exact .inr ⟨p',((kW p').1 h1).1,h2⟩
 ·obtain⟨M,s,tm,oO,bf,e,r,ht,kp,hn,hd,hg,qL,ox⟩:=h
  have hk:=qL p hp
  obtain⟨vs,T,hh,hl,h1,h2⟩:=hk.cells
  have qH:=hk.ai
  rw [pE]at qH
  simp only [iw,qH,AI.kind,fa]at hg
  obtain⟨d,s',vL,hg⟩:=hg
  have mK:aK (.alloc p.z) tm s=some (d,s'):=vL
  simp only [aK,Option.some.injEq,Prod.mk.injEq]at mK
  obtain⟨rfl,rfl⟩:=mK
  obtain⟨r',e',le⟩:=r.R0 e hk.unk hk.base p.z vs T hh hl h1 (h2 M s)
  refine⟨_,_,_,oO.put (some p.t) (.ptr s.av.length 0),_,e',r',fun u=> ?_,fun t Ph=> ?_,hn,hd,hg,fun p' la=> ?_,fun p1 h1 p2 h2=>ox p1 ((kW p1).1 h1).1 p2 ((kW p2).1 h2).1⟩
  ·rw [Tm.iN]
   split
   ·rename_i heq
    cases heq
    rw [hk.slot]
    have:(M.c9 s.av.length p.b).mu s.av.length=p.b:=by simp [Map.c9,Map.mu]
    have h5:=RD.ptr (M:=M.c9 s.av.length p.b) (s:= {s with av:=s.av++ [p.z]}) s.av.length 0 (by simp) (by simp [Map.c9,Map.ob])
    rw [this]at h5
    exact h5
   ·exact(ht u).mono le
  ·simp only [AI.dst]
   rw [Tm.iN,Tm.iN]
   split
   ·rfl
   ·rename_i dP
    refine kp t fun p' la=> ?_
    by_cases hq:p'.q=q
    ·have:=ox p' la p hp (.inl (hq.trans pE.symm))
     subst this
     exact fun h=>dP (by rw [h])
    ·exact Ph p' ((kW p').2 ⟨la,hq⟩)
  ·obtain⟨TA,TB⟩:=(kW p').1 la
   have vU:=qL p' TA
   refine⟨?_,vU.ai,vU.cells,⟨fun o ho=> ?_,vU.unk.t,vU.unk.g⟩,vU.base,vU.slot⟩
   ·have:=vU.mem
    simp only [List.map_cons,List.mem_cons]at this
    exact this.resolve_left TB
   ·simp at ho
    rcases Nat.lt_or_ge o s.av.length with h5 | h5
    ·rw [le.mu o h5];exact vU.unk.o o h5
    ·have:o=s.av.length:=by omega
     subst this
     have:(M.c9 s.av.length p.b).mu s.av.length=p.b:=by simp [Map.c9,Map.mu]
     rw [this]
     intro hb
     have:=ox p hp p' TA (.inr (.inr hb))
     subst this
     exact TB pE
theorem norm {b9:Array Bool} {act:Act} {w:World} : ∀ (R:List (Nat×Nat)) (cU:List Pd),ng is af pt b9 R cU→sM P is K B nt R cU act w→
 ∃ R' qM,ng is af pt b9 R' qM∧sM P is K B nt R' qM act w∧∀ x l,R'=x::l→∀ p∈qM,p.q≠x.1
 | [],cU,hs,h=>⟨[],cU,hs,h,fun _ _ he=>by cases he⟩
 | (q,b)::R,cU,hs,h=>by
  by_cases hp : ∃ p∈cU,p.q=q
  ·obtain⟨p,hp,pE⟩:=hp
   obtain⟨h1,h2⟩:=Pe hs h hp pE
   exact norm R _ h1 h2
  ·refine⟨(q,b)::R,cU,hs,h,fun x l he p Pj pE=>hp ⟨p,Pj, ?_⟩⟩
   cases he
   exact pE
theorem Mj {ops:Array Oper} {q:Nat} {o:Oper} {ai:AI} (hi:ops[q]? = some o) (hc:cI P nt ops o=some ai) {R R':List (Nat×Nat)} {cU:List Pd} {act:Act} {w:World} {M:Map} {s s1:St} {tm oO:Tm} {d:D} {Mk:List St}
 (e:Ext B.M B.s B.w M s w) (r:Rel M s w) (ht:jo M s oO act.tmps) (kp : ∀ t,(∀ p∈cU,p.t≠t)→oO.get t=tm.get t) (hn:act.tmps.size=nt) (hd:act.defers = [])
 (qL : ∀ p∈cU,Pb is R B M s act w p) (ox : ∀ p∈cU,∀ p'∈cU,p.q=p'.q∨p.t=p'.t∨p.b=p'.b→p=p')
 (hv:fM P [ai] (fun a b=>a=oO.put ai.dst d∧b=s1) oO s) (hg:iw P is K R' Mk (tm.put ai.dst d) s1)
 (kW : ∀ p∈cU,p.q∈R'.map (·.1)) (my : ∀ p∈cU,ai.dst≠some p.t) {Q:Exit→Act→World→Prop} :
 wpOp P ops Q q (sM P is K B nt R' cU) act w:=by
 refine rp hi hc r (B.laid.ext e) ht hv fun d' v s2 w1 M1 hk e1 r1 mc=> ?_
 obtain⟨vO,rfl⟩:=hk
 have TC:=oM hc
 have hD : ∀ t,o.dst=some t→t<act.tmps.size:=fun t h=>by rw [hn];exact sb hc t h
 refine⟨M1,s2,tm.put ai.dst d,oO.put ai.dst d,Mk,e.trans e1,r1, ?_,fun t Ph=> ?_, ?_, ?_,hg,fun p hp=> ?_,ox⟩
 ·rw [← vO,TC]
  exact(ht.mono e1.le).put hD mc
 ·rw [Tm.iN,Tm.iN,kp t Ph]
 ·cases ho:o.dst <;> simp [Act.put,hn]
 ·cases ho:o.dst <;> simp [Act.put,hd]
 ·have hk:=qL p hp
  obtain⟨vs,T,hh,hl,h1,h2⟩:=hk.cells
  have hb:=jm hh
  refine⟨kW p hp,hk.ai,⟨vs,T,by rw [e1.kept p.b hb hk.unk.o hk.unk.t];exact hh,hl,h1,h2⟩,hk.unk.mono e1 hb,hk.base, ?_⟩
  rw [← hk.slot]
  have:=my p hp
  rw [TC]at this
  cases ho:o.dst with
  | none=>rfl
  | some t=>
   rw [ho]at this
   have dP:t≠p.t:=fun h=>this (by rw [h])
   simp [Act.put,Array.getElem?_setIfInBounds_ne dP]
theorem EL {ai:AI} (hm:fa ai.kind=false) {tm:Tm} {s:St} {d:D} (h:gx ai tm s=some d):fM P [ai] (fun a b=>a=tm.put ai.dst d∧b=s) tm s:=by
 cases ai with
 | op dst g o=>
  have Xf:=DL hm
  have key : ∀ {d},(aK o tm s).map (·.1)=some d→aK o tm s=some (d,s):=by
   intro d h
   cases he:aK o tm s with
   | none=>rw [he]at h;cases h
   | some p=>
    obtain⟨d',s'⟩:=p
    rw [he]at h
    simp only [Option.map_some,Option.some.injEq]at h
    subst h
    rw [C2 (by rw [← Xf];exact hm) he]
  simp only [fM,AI.dst]
  cases g with
  | none=>
   simp only [gx]at h
   simp only [guarded,key h,and_self]
  | some p=>
   obtain⟨t,want⟩:=p
   simp only [gx]at h
   simp only [guarded]
   split at h
   ·rename_i b hb
    simp only [hb]
    split at h
    ·rename_i heq
     refine⟨fun _=>by simp only [key h,and_self],fun dP=> ?_⟩
     subst heq
     cases b <;> cases dP
    ·rename_i dP
     cases h
     exact⟨fun heq=>(dP heq).elim,fun _=>by simp⟩
   ·rename_i ds hb
    cases h
    simp only [hb,and_self]
   ·cases h
 | call dst g f xs=>cases hm
 | nil dst g n x=>cases hm
 | fX dst g t xs=>cases hm
theorem uA {g:Option (Nat×Bool)} {tm:Tm} {A A' C C':Prop} (ha:A→A') (hc:C→C') (hh:guarded g tm A C):guarded g tm A' C':=by
 cases g with
 | none=>exact ha hh
 | some p=>
  obtain⟨t,want⟩:=p
  unfold guarded at *
  simp only at *
  split
  ·rename_i b hb;rw [hb]at hh;exact⟨fun e=>ha (hh.1 e),fun e=>hc (hh.2 e)⟩
  ·rename_i hb;rw [hb]at hh;exact hc hh
  ·rename_i x h1 h2
   split at hh
   ·exact h1 _ ‹_›
   ·exact h2 _ ‹_›
   ·exact hh
theorem BG {ai:AI} {tm:Tm} {s s1:St} {d:D} (h:ou P ai tm s d s1):fM P [ai] (fun a b=>a=tm.put ai.dst d∧b=s1) tm s:=by
 cases ai with
 | op dst g o=>
  refine uA (fun e=> ?_) (fun e=> ?_) h
  ·rw [e];exact⟨rfl,rfl⟩
  ·obtain⟨rfl,rfl⟩:=e;exact⟨rfl,rfl⟩
 | call dst g f xs=>
  refine uA (fun e=> ?_) (fun e=> ?_) h
  ·exact e.mono fun x y Xg=>by obtain⟨rfl,rfl⟩:=Xg;exact⟨rfl,rfl⟩
  ·obtain⟨rfl,rfl⟩:=e;exact⟨rfl,rfl⟩
 | nil dst g n x=>exact h.elim
 | fX dst g t xs=>exact h.elim
end
end Go.Abs

/-! Par3 -/

namespace Go.Abs
section
variable {P:Program} {is:List AI} {af pt:List (List Nat)} {K:Tm→St→Prop} {B:fw} {nt:Nat}
theorem vr {ops:Array Oper} : ∀ {ol:List Oper} {is:List AI},mW P nt ops ol=some is→is.length=ol.length∧∀ (i:Nat) (o:Oper),ol[i]? = some o→∃ ai,is[i]? = some ai∧cI P nt ops o=some ai
 | [],is,h=>by cases h;exact⟨rfl,by simp⟩
 | o::ol,is,h=>by
  unfold mW at h
  split at h
  ·rename_i ai Hb h1 h2
   cases h
   obtain⟨g1,g2⟩:=vr h2
   refine⟨by simp [g1],fun i o' ho=> ?_⟩
   cases i with
   | zero=>simp at ho;subst ho;exact⟨ai,rfl,h1⟩
   | succ i=>exact g2 i o' (by simpa using ho)
  ·cases h
theorem oy {b9:Array Bool} {i:Nat} (h:i<b9.size):b9.getD i true=b9.getD i false:=by
 simp [h]
theorem ng.done {b9:Array Bool} {X Y:List (Nat×Nat)} {q b:Nat} {cU:List Pd} (hs:ng is af pt b9 (X++(q,b)::Y) cU) (hq:q<is.length)
 (zB : ∀ j∈fl pt q,b9.getD j false=true):ng is af pt (b9.setIfInBounds q true) (X++Y) cU:=by
 obtain⟨g1,g2,g3,g4,g5⟩:=oN hs.ok
 have Xh:q∉Y.map (·.1):=fun hm=>by
  obtain⟨x,hx,rfl⟩:=List.mem_map.1 hm
  exact(vq g5 x hx).1 (by simp)
 refine⟨yB hs.ok,fun i hi=> ?_,fun i hi hl j hj=> ?_,by simp [hs.size],fun x hx=>hs.lt x (by simp at hx ⊢;exact hx.imp id .inr)⟩
 ·by_cases pD:i=q
  ·subst pD
   have:i<b9.size:=by rw [hs.size];exact hq
   simp only [List.map_append,List.mem_append,g2,Xh,or_self,not_false_eq_true,true_or,iff_true]
   simp [this]
  ·rw [getD_set_ne false (Ne.symm pD),hs.zA i hi]
   simp [pD]
 ·by_cases pD:i=q
  ·subst pD;exact getD_set_true (zB j hj)
  ·rw [getD_set_ne false (Ne.symm pD)]at hl
   exact getD_set_true (hs.cl i hi hl j hj)
theorem ng.flag {b9:Array Bool} {R:List (Nat×Nat)} {cU:List Pd} (hs:ng is af pt b9 R cU) {p:Pd} (hq:p.q<is.length)
 (zB : ∀ j∈fl pt p.q,b9.getD j false=true):ng is af pt (b9.setIfInBounds p.q true) R (p::cU):=by
 refine⟨hs.ok,fun i hi=> ?_,fun i hi hl j hj=> ?_,by simp [hs.size],hs.lt⟩
 ·by_cases pD:i=p.q
  ·subst pD
   have:p.q<b9.size:=by rw [hs.size];exact hq
   simp [this]
  ·rw [getD_set_ne false (Ne.symm pD),hs.zA i hi]
   have dP:p.q≠i:=fun h=>pD h.symm
   simp [dP]
 ·by_cases pD:i=p.q
  ·subst pD;exact getD_set_true (zB j hj)
  ·rw [getD_set_ne false (Ne.symm pD)]at hl
   exact getD_set_true (hs.cl i hi hl j hj)
theorem EM {ai:AI} (h:ai.kind = .alloc) : ∃ t z,ai = .op (some t) none (.alloc z):=by
 cases ai with
 | op dst g o=>
  unfold AI.kind at h
  split at h
  ·rename_i heq;cases heq;exact⟨_,_,rfl⟩
  ·rename_i heq
   cases heq
   exfalso
   revert h
   cases o <;> simp [AO.kind]
  ·cases h
 | call dst g f xs=>cases h
 | nil dst g n x=>cases h
 | fX dst g t xs=>cases h
theorem EN {ops:Array Oper} (rq:mW P nt ops ops.toList=some is) (EO:rU af pt is.length=true)
 (hK : ∀ tm bm s,Tm.eqv tm bm→K tm s→K bm s) {b9:Array Bool} {R:List (Nat×Nat)} {cU:List Pd} {act:Act} {w:World} (hs:ng is af pt b9 R cU) (h:sM P is K B nt R cU act w)
 (R3 : ∀ x l,R=x::l→∀ p∈cU,p.q≠x.1) {q:Nat} (hq:q<is.length) (xr:b9.getD q false=false) (mc : ∀ j∈fl af q,j<is.length∧b9.getD j false=true)
 {Q:Exit→Act→World→Prop} {K2:Act→World→Prop} (Pl : ∀ R' qM a' w',ng is af pt (b9.setIfInBounds q true) R' qM→sM P is K B nt R' qM a' w'→K2 a' w'):wpOp P ops Q q K2 act w:=by
 obtain⟨hlen,hJ⟩:=vr rq
 have Ma:q<ops.size:=by rw [hlen]at hq;simpa using hq
 obtain⟨ai,qH,Ho⟩:=hJ q ops[q] (by simp [Ma])
 have hi:ops[q]? = some ops[q]:=by simp [Ma]
 have zB : ∀ j∈fl pt q,b9.getD j false=true:=fun j hj=>by
  rcases vT EO q hq j hj with h1 | ⟨k,h1,h2⟩
  ·exact(mc j h1).2
  ·exact hs.cl k (mc k h1).1 (mc k h1).2 j h2
 have Hp : ∀ p∈cU,p.q≠q:=fun p hp pE=>by
  have:=(hs.zA q hq).2 (.inr ⟨p,hp,pE⟩)
  rw [xr]at this;cases this
 have Pf:q∈R.map (·.1):=by
  by_cases hm:q∈R.map (·.1)
  ·exact hm
  ·have:=(hs.zA q hq).2 (.inl hm)
   rw [xr]at this;cases this
 obtain⟨⟨q',b⟩,hx,TD⟩:=List.mem_map.1 Pf
 simp only at TD
 subst TD
 obtain⟨X,Y,rfl⟩:=List.append_of_mem hx
 obtain⟨g1,g2,g3,g4,g5⟩:=oN hs.ok
 rw [List.append_nil]at g1 g5
 obtain⟨M,s,tm,oO,bf,e,r,ht,kp,hn,hd,hg,qL,ox⟩:=h
 have Hq:fY is q'=ai.kind:=by simp [fY,qH]
 -- what must have come up ahead of it, is not here any more, but for what was allocated early
 have Ml : ∀ a∈X.map (·.1),a∈fl pt q'→∃ p∈cU,p.q=a:=fun a ha eU=>by
  have h1:=zB a eU
  obtain⟨x,TE,rfl⟩:=List.mem_map.1 ha
  rcases(hs.zA x.1 (hs.lt x (by simp [TE]))).1 h1 with h2 | h2
  ·exact(h2 (by simp;exact .inl ⟨x.2,TE⟩)).elim
  ·exact h2
 have Mm : ∀ x l,X=x::l→x.1∉fl pt q':=fun x l hX Xj=>by
  obtain⟨p,hp,pE⟩:=Ml x.1 (by simp [hX]) Xj
  exact R3 x (l++(q',b)::Y) (by simp [hX]) p hp pE
 have TF : ∀ p∈cU,fY is p.q = .alloc:=fun p hp=>by simp [fY,(qL p hp).ai,AI.kind]
 have wy : ∀ p∈cU,(p.q∈X.map (·.1)→iI is p.q q'=true)→(∀ t,ai.dst=some t→t≠p.t)∧p.t∉ai.reads:=fun p hp hX=>by
  have hk:=qL p hp
  have hm:=hk.mem
  simp only [List.map_append,List.map_cons,List.mem_append,List.mem_cons]at hm
  rcases hm with hm | hm | hm
  ·have:=hX hm
   simp only [iI,hk.ai,qH]at this
   obtain⟨p1,p2,p3⟩:=apart_spec this
   exact⟨fun t ht he=>p3 p.t rfl (by rw [ht,he]),p1 p.t rfl⟩
  ·exact(Hp p hp hm).elim
  ·obtain⟨x,Xk,Mn⟩:=List.mem_map.1 hm
   have:=(vq g5 x Xk).2 (by rw [Mn];exact TF p hp) q' (by simp)
   rw [Mn]at this
   simp only [iI,hk.ai,qH]at this
   obtain⟨p1,p2,p3⟩:=apart_spec this
   exact⟨fun t ht he=>p3 t ht (by rw [he];rfl),p2 p.t rfl⟩
 have Hr:(∀ p∈cU,p.t∉ai.reads)→∀ t∈ai.reads,tm.get t=oO.get t:=fun hp t ht=>(kp t fun p Pj he=>hp p Pj (by rw [he];exact ht)).symm
 have Mp : ∀ p∈cU,p.q∈(X++Y).map (·.1):=fun p hp=>by
  have hm:=(qL p hp).mem
  have:=Hp p hp
  simp only [List.map_append,List.map_cons,List.mem_append,List.mem_cons]at hm ⊢
  rcases hm with hm | hm | hm
  ·exact .inl hm
  ·exact(this hm).elim
  ·exact .inr hm
 by_cases tu:ai.kind = .alloc
 ·-- an allocation
  obtain⟨t,z,rfl⟩:=EM tu
  have eU : ∀ a∈X.map (·.1),iI is a q'=true:=fun a ha=>by
   unfold ll at g1
   rw [Hq,tu]at g1
   simp only [List.all_reverse,List.all_eq_true]at g1
   exact g1 a ha
  have zC:=fun p hp=>wy p hp (eU p.q)
  refine C3 hi Ho fun vs T hl h1 h2=> ?_
  obtain⟨r1,e1,u1⟩:=r.idle (.cells vs T)
  have Pn:t<act.tmps.size:=by
   rw [hn]
   exact sb Ho t (by rw [← oM Ho];rfl)
  have:=hs.flag (p:=⟨q',t,z,w.heap.size⟩) hq zB
  refine Pl _ _ _ _ this ⟨M,s,tm,oO.put (some t) .junk,bf,e.trans e1,r1,jo.put ht (dst:=some t) (fun u hu=>by cases hu;exact Pn) (.junk _),fun u hu=> ?_,by simp [Act.put,hn],by simp [Act.put,hd],hg,fun p hp=> ?_,fun p hp p' la he=> ?_⟩
  ·have h3:=hu ⟨q',t,z,w.heap.size⟩ (by simp)
   rw [Tm.iN,if_neg (by simpa using h3)]
   exact kp u fun p hp=>hu p (List.mem_cons_of_mem _ hp)
  ·rcases List.mem_cons.1 hp with rfl | hp
   ·refine⟨by simp,qH,⟨vs,T,heap_alloc_new w _,hl,h1,h2⟩,u1,e.size, ?_⟩
    simp [Act.put,Pn]
   ·have hk:=qL p hp
    obtain⟨ew,T',jt,lU,nT,sd⟩:=hk.cells
    refine⟨hk.mem,hk.ai,⟨ew,T',by rw [heap_alloc_old w _ _ (jm jt)];exact jt,lU,nT,sd⟩,hk.unk,hk.base, ?_⟩
    rw [← hk.slot]
    have dP:t≠p.t:=(zC p hp).1 t rfl
    simp [Act.put,Array.getElem?_setIfInBounds_ne dP]
  ·have de : ∀ p∈cU,¬ (q'=p.q∨t=p.t∨w.heap.size=p.b):=fun p hp h=>by
    rcases h with h | h | h
    ·exact Hp p hp h.symm
    ·exact(zC p hp).1 t rfl h
    ·obtain⟨ew,T',jt,_⟩:=(qL p hp).cells
     have:=jm jt
     omega
   rcases List.mem_cons.1 hp with rfl | hp <;> rcases List.mem_cons.1 la with rfl | la
   ·rfl
   ·exact(de p' la he).elim
   ·exact(de p hp (he.imp Eq.symm (Or.imp Eq.symm Eq.symm))).elim
   ·exact ox p hp p' la he
 ·by_cases kH:fa ai.kind=true
  ·-- a step that changes something: it stands first
   have Xl:ai.kind = .core:=by
    cases hk:ai.kind <;> simp_all [fa]
   have hX:X = []:=by
    cases X with
    | nil=>rfl
    | cons x l=>
     refine(Mm x l rfl ?_).elim
     unfold ll at g1
     rw [Hq,Xl]at g1
     simp only [List.all_reverse,List.all_eq_true]at g1
     have:=g1 x.1 (by simp)
     rwa [List.contains_iff_mem]at this
   subst hX
   have zC:=fun p hp=>wy p hp (fun h=>by simp at h)
   simp only [List.nil_append,iw,qH,kH]at hg
   obtain⟨d,s1,vL,hg⟩:=hg
   have Ut:=rm (Hr fun p hp=>(zC p hp).2) vL
   refine wpOp_mono (fun a' w' hr=>Pl _ _ _ _ (hs.done hq zB) hr) ?_
   exact Mj hi Ho e r ht kp hn hd qL ox (BG Ut) hg Mp (fun p hp he=>(zC p hp).1 _ he rfl)
  ·-- a step that changes nothing
   have hm:fa ai.kind=false:=by simpa using kH
   have lz : ∀ a∈X.map (·.1),a∉fl pt q':=fun a ha eU=>by
    obtain⟨p,hp,pE⟩:=Ml a ha eU
    have zq:fY is a = .alloc:=by rw [← pE];exact TF p hp
    have ic:iB is (fl pt q') (X.map (·.1)).reverse=true:=by
     unfold ll at g1
     rw [Hq]at g1
     cases hk:ai.kind with
     | pure=>simp only [hk,Bool.and_eq_true]at g1;exact g1.2
     | load=>simp only [hk,Bool.and_eq_true]at g1;exact g1.1.2
     | alloc=>exact(tu hk).elim
     | core=>rw [hk]at hm;cases hm
    cases X with
    | nil=>simp at ha
    | cons x l=>
     have Xm:a∈((x::l).map (·.1)).reverse:=List.mem_reverse.2 ha
     obtain⟨l1,l2,vV⟩:=List.append_of_mem Xm
     have wA:=se ic a l1 l2 vV zq eU
     refine Mm x l rfl ?_
     cases k7:l2.reverse with
     | nil=>
      have h3:l2 = []:=by simpa using k7
      subst h3
      have:=congrArg List.reverse vV
      simp at this
      rw [this.1];exact eU
     | cons y l3=>
      have:=congrArg List.reverse vV
      simp only [List.reverse_reverse,List.map_cons,List.reverse_append,List.reverse_cons,List.reverse_nil,List.append_assoc,k7,List.cons_append,List.nil_append,List.cons.injEq]at this
      rw [this.1]
      exact wA y (by rw [← List.mem_reverse,k7];simp)
   have eU : ∀ a∈X,iI is a.1 q'=true:=fun a ha=>by
    have h3 : ∀ x∈(X.map (·.1)).reverse,((fl pt q').contains x || iI is x q')=true:=by
     unfold ll at g1
     rw [Hq]at g1
     cases hk:ai.kind with
     | pure=>simp only [hk,Bool.and_eq_true]at g1;exact List.all_eq_true.1 g1.1
     | load=>simp only [hk,Bool.and_eq_true]at g1;exact List.all_eq_true.1 g1.1.1
     | alloc=>exact(tu hk).elim
     | core=>rw [hk]at hm;cases hm
    have:=h3 a.1 (List.mem_reverse.2 (List.mem_map_of_mem ha))
    simp only [Bool.or_eq_true,List.contains_iff_mem]at this
    exact this.resolve_left (lz a.1 (List.mem_map_of_mem ha))
   have Po:ai.kind = .load→gd is (X.map (·.1))≤b:=fun hk=>by
    unfold ll at g1
    rw [Hq,hk]at g1
    simp only [Bool.and_eq_true,decide_eq_true_eq]at g1
    have h3:=g1.2
    have h4:(X.map (·.1)).reverse.filter (fun a=> !(fl pt q').contains a)=(X.map (·.1)).reverse:=by
     rw [List.filter_eq_self]
     intro a ha
     have:=lz a (List.mem_reverse.1 ha)
     simpa using this
    rw [h4]at h3
    unfold gd at h3 ⊢
    rw [List.filter_reverse,List.length_reverse]at h3
    exact h3
   have zC:=fun p hp=>wy p hp (fun h=>by
    obtain⟨x,hx,Mn⟩:=List.mem_map.1 h
    rw [← Mn];exact eU x hx)
   obtain⟨d,h1,_,Mq⟩:=rn hK qH hm Y X bf tm s eU Po hg
   have nT:gx ai oO s=some d:=by rw [← mL (Hr fun p hp=>(zC p hp).2)];exact h1
   refine wpOp_mono (fun a' w' hr=>Pl _ _ _ _ (hs.done hq zB) hr) ?_
   exact Mj hi Ho e r ht kp hn hd qL ox (EL hm nT) Mq Mp (fun p hp he=>(zC p hp).1 _ he rfl)
theorem vW {o:Oper} {j:Nat} : j∈jS o↔∃ e∈o.after,Region.binds .any e=true∧e.on=j:=by
 simp only [jS,List.mem_map,List.mem_filter,Array.mem_toList_iff]
 constructor
 ·rintro⟨e,⟨h1,h2⟩,h3⟩;exact⟨e,h1,h2,h3⟩
 ·rintro⟨e,h1,h2,h3⟩;exact⟨e,⟨h1,h2⟩,h3⟩
theorem EP {ops:Array Oper} (rq:mW P nt ops ops.toList=some is) (EO:rU (ops.toList.map jS) pt is.length=true)
 (Pp : ∀ i,i<is.length→∀ j∈fl (ops.toList.map jS) i,j<is.length) {Q:Exit→Tm→St→Prop} (hK : ∀ tm bm s,Tm.eqv tm bm→K tm s→K bm s)
 (Xn : ∀ tm s act w,K tm s→Holds B nt tm s act w→lY B nt Q .normal act w) :
 ∀ (fuel:Nat) (b9:Array Bool) (R:List (Nat×Nat)) (cU:List Pd) (act:Act) (w:World) (U:List Nat),U.length≤fuel→(∀ j,j<is.length→b9.getD j false=false→j∈U)→
  ng is (ops.toList.map jS) pt b9 R cU→sM P is K B nt R cU act w→wpAny P .any ops (lY B nt Q) fuel b9 act w:=by
 obtain⟨hlen,_⟩:=vr rq
 have qN:is.length=ops.size:=by rw [hlen];simp
 have Pq : ∀ (j:Nat) (o:Oper),ops[j]? = some o→fl (ops.toList.map jS) j=jS o:=fun j o h=>by
  simp [fl,List.getD,h]
 have fin : ∀ {b9:Array Bool} {cU:List Pd} {act:Act} {w:World},sM P is K B nt [] cU act w→lY B nt Q .normal act w:=by
  intro b9 cU act w h
  obtain⟨M,s,tm,oO,bf,e,r,ht,kp,hn,hd,hg,qL,ox⟩:=h
  have Bt : ∀ p∈cU,False:=fun p hp=>by have:=(qL p hp).mem;simp at this
  exact Xn oO s act w (hK tm oO s (fun t=>(kp t fun p hp=>(Bt p hp).elim).symm) hg) ⟨M,e,r,ht,hn,hd⟩
 have Hs : ∀ {b9:Array Bool} {R:List (Nat×Nat)} {cU:List Pd} {x:Nat×Nat} {l:List (Nat×Nat)},ng is (ops.toList.map jS) pt b9 R cU→R=x::l→(∀ p∈cU,p.q≠x.1)→
  x.1∈Region.ready .any ops b9:=by
  intro b9 R cU x l hs hR Hp
  subst hR
  have hx:=hs.lt x (by simp)
  rw [mem_ready]
  have xr:b9.getD x.1 false=false:=by
   cases hl:b9.getD x.1 false with
   | false=>rfl
   | true=>
    rcases(hs.zA x.1 hx).1 hl with h1 | ⟨p,hp,pE⟩
    ·exact(h1 (by simp)).elim
    ·exact(Hp p hp pE).elim
  have TG:x.1<ops.size:=by rw [← qN];exact hx
  refine⟨by rw [oy (by rw [hs.size];exact hx)];exact xr,ops[x.1],by simp [TG],fun e he hb=> ?_⟩
  have hm:e.on∈fl (ops.toList.map jS) x.1:=by rw [Pq x.1 ops[x.1] (by simp [TG])];exact vW.2 ⟨e,he,hb,rfl⟩
  obtain⟨_,_,_,g4,_⟩:=oN (X:= []) (q:=x.1) (b:=x.2) hs.ok
  obtain⟨h1,h2⟩:=g4 _ hm
  refine(hs.zA e.on (Pp x.1 hx _ hm)).2 (.inl ?_)
  simp only [List.map_cons,List.mem_cons,not_or]
  exact⟨h1,h2⟩
 intro fuel
 induction fuel with
 | zero=>
  intro b9 R cU act w U hU xr hs h
  obtain⟨R',qM,lp,h',hn⟩:=norm R cU hs h
  have Xo:U = []:=List.length_eq_zero_iff.1 (by omega)
  have wA : ∀ j,j<is.length→b9.getD j false=true:=fun j hj=>by
   cases hl:b9.getD j false with
   | true=>rfl
   | false=>have:=xr j hj hl;rw [Xo]at this;cases this
  have hR:R' = []:=by
   cases hR:R' with
   | nil=>rfl
   | cons x l=>
    have hx:=lp.lt x (by simp [hR])
    have:=Hs lp hR (hn x l hR)
    rw [mem_ready,oy (by rw [lp.size];exact hx),wA x.1 hx]at this
    cases this.1
  subst hR
  refine⟨?_,fin (b9:=b9) h'⟩
  cases hr:Region.ready .any ops b9 with
  | nil=>rfl
  | cons j js=>
   have hj:j∈Region.ready .any ops b9:=by rw [hr];simp
   rw [mem_ready]at hj
   obtain⟨h1,o,ho,_⟩:=hj
   have DN:j<is.length:=by rw [qN];exact(Array.getElem?_eq_some_iff.1 ho).1
   rw [oy (by rw [hs.size];exact DN),wA j DN]at h1
   cases h1
 | succ fuel ih=>
  intro b9 R cU act w U hU xr hs h
  obtain⟨R',qM,lp,h',hn⟩:=norm R cU hs h
  refine⟨fun hr=> ?_,fun i hi=> ?_⟩
  ·cases hR:R' with
   | nil=>subst hR;exact fin (b9:=b9) h'
   | cons x l=>
    have:=Hs lp hR (hn x l hR)
    rw [hr]at this
    cases this
  ·rw [mem_ready]at hi
   obtain⟨h1,o,ho,Uv⟩:=hi
   have nc:i<is.length:=by rw [qN];exact(Array.getElem?_eq_some_iff.1 ho).1
   rw [oy (by rw [hs.size];exact nc)]at h1
   refine EN rq EO hK lp h' hn nc h1 (fun j hj=>⟨Pp i nc j hj, ?_⟩) fun R2 R5 a2 w2 DF h2=> ?_
   ·rw [Pq i o ho]at hj
    obtain⟨e,he,hb,rfl⟩:=vW.1 hj
    exact Uv e he hb
   ·refine ih _ R2 R5 a2 w2 (U.erase i) ?_ (fun j hj hl=> ?_) DF h2
    ·have:=List.length_erase_of_mem (xr i nc h1)
     omega
    ·have TH:j≠i:=fun e=>by
      subst e
      have:j<b9.size:=by rw [hs.size];exact nc
      simp [this]at hl
     rw [getD_set_ne false (Ne.symm TH)]at hl
     exact(List.mem_erase_of_ne TH).2 (xr j hj hl)
theorem Sem.par {is:List AI} {jf:List (Nat×Nat)} {Q:Exit→Tm→St→Prop} {tm:Tm} {s:St} (h:iw P is (Q .normal) jf [] tm s):Sem P B nt (.par is jf) Q tm s:=by
 intro c hc act w hh
 obtain⟨id,ops,rfl,hi,hm,pt,hp⟩:=jr hc
 simp only [Ba,Bool.and_eq_true,List.all_eq_true,List.mem_range,List.contains_iff_mem,decide_eq_true_eq]at hp
 obtain⟨⟨⟨⟨h1,h2⟩,h3⟩,h4⟩,h5⟩:=hp
 obtain⟨hlen,_⟩:=vr hi
 have qN:is.length=ops.size:=by rw [hlen];simp
 refine wp_region_any hm ?_
 obtain⟨M,e,r,ht,hn,hd⟩:=hh
 have key : ∀ (R:List (Nat×Nat)) (bf:List St) (tm:Tm) (s:St),iw P is (Q .normal) R bf tm s→iw P is (fun tm s=>∃ bm,tm.eqv bm∧Q .normal bm s) R bf tm s:=by
  intro R
  induction R with
  | nil=>intro bf tm s h;exact⟨tm,fun _=>rfl,h⟩
  | cons x R ih=>
   obtain⟨q,b⟩:=x
   intro bf tm s h
   unfold iw at h ⊢
   split at h
   ·exact h.elim
   ·split at h
    ·obtain⟨d,s',h1,h2⟩:=h;exact⟨d,s',h1,ih _ _ _ h2⟩
    ·obtain⟨d,h1,h2,h3⟩:=h;exact⟨d,h1,h2,ih _ _ _ h3⟩
 have hg:=key _ _ _ _ h
 refine EP (K:=fun tm s=>∃ bm,tm.eqv bm∧Q .normal bm s) hi h1 h5 (fun tm bm s he ⟨t2,h3,h4⟩=>⟨t2,fun t=>(he t).symm.trans (h3 t),h4⟩)
  (fun tm s act w ⟨t2,h3,h4⟩ ⟨M,e,r,ht,hn,hd⟩=>⟨t2,s,h4,M,e,r,fun t=>by rw [← h3 t];exact ht t,hn,hd⟩) ops.size _ jf [] act _ (List.range is.length) (by simp [qN]) (fun j hj _=>by simpa using hj)
  ⟨h2,fun i hi=> ?_,fun i hi hl=> ?_,by simp [qN],h4⟩ ⟨M,s,tm,tm,[],⟨e.le,e.kept,e.mT,e.mU,e.o4,e.size,e.os,e.tape,e.output⟩,r.of_heap rfl,ht,fun _ _=>rfl,hn,hd,hg,by simp,by simp⟩
 ·have:i<ops.size:=by rw [← qN];exact hi
  have h6:=h3 i hi
  simp only [List.not_mem_nil,false_and,exists_false,or_false]
  rw [show(Array.replicate ops.size false).getD i false=false by simp [this]]
  simp [h6]
 ·have:i<ops.size:=by rw [← qN];exact hi
  rw [show(Array.replicate ops.size false).getD i false=false by simp [this]]at hl
  cases hl
end
end Go.Abs

/-! Step -/

namespace Go.Abs
theorem Nk (k:IntKind) (n:Int):D.row (.int k n)=some [.int k n]:=rfl
theorem JP (b:Bool):D.row (.bool b)=some [.bool b]:=rfl
theorem Nl (l:List UInt8):D.row (.str l)=some [.str l]:=rfl
theorem JQ:D.row .ei=some [.ei]:=rfl
theorem Nn (o f:Nat):D.row (.ptr o f)=some [.ptr o f]:=rfl
theorem JR (r:List D) (f:Nat):D.row (.dc r f)=some [.dc r f]:=rfl
theorem Ht (g:Tag) (z:Nat) (r:List (List D)):D.row (.slice g z r)=some [.slice g z r]:=rfl
theorem No (cs:List D):D.row (.agg cs)=some cs:=rfl
theorem Np (v:Value):D.row (.val v)=some [.val v]:=rfl
theorem Hu (T:TypeId) (o:Nat):D.row (.eo T o)=some [.eo T o]:=rfl
theorem Nq (f:Nat) (cs:List D):D.row (.fi f cs)=some [.fi f cs]:=rfl
theorem JS (o:Nat):D.row (.ff o)=some [.ff o]:=rfl
theorem JT (w:Bool):Tag.cut .full w=if w then .full else .shared:=rfl
theorem ER (w:Bool):Tag.cut .shared w = .shared:=rfl
theorem JU (t:Nat) (y:Bool) (w:Bool):Tag.cut (.tok t y) w = .tok t y:=rfl
section
variable {P:Program}
def KC (P:Program) (r:List AI) (K:Tm→St→Prop) (tm:Tm) (dst:Option Nat) (d:D) (s:St):Prop:=fM P r K (tm.put dst d) s
def GI (P:Program) (g:D) (want:Bool) (i:AI) (r:List AI) (K:Tm→St→Prop) (tm:Tm) (s:St):Prop:=
 match g with
 | .bool b=>(b=want→fM P (i::r) K tm s)∧(b=(!want)→fM P r K (tm.put i.dst (.tuple [])) s)
 | .tuple _=>fM P r K (tm.put i.dst (.tuple [])) s
 | _=>False
def NI (P:Program) (dst:Option Nat) (neg:Bool) (x:D) (r:List AI) (K:Tm→St→Prop) (tm:Tm) (s:St):Prop:=
 match x with
 | .slice _ _ rows=>∀ b:Bool,(rows≠ []→b=false)→fM P r K (tm.put dst (.bool (if neg then !b else b))) s
 | _=>False
def pO (d:D) (A C:Prop):Prop:=
 match d with
 | .bool b=>(b=true→A)∧(b=false→C)
 | _=>False
theorem Sem.R6 {B:fw} {nt:Nat} {Q:Exit→Tm→St→Prop} {tm:Tm} {s:St} {x:X} {a b:AC} (h:pO (x.ev tm) (Sem P B nt a Q tm s) (Sem P B nt b Q tm s)):Sem P B nt (.cond x a b) Q tm s:=by
 unfold pO at h
 split at h
 ·rename_i t ht
  exact Sem.cond ht h.1 h.2
 ·exact h.elim
def fb (P:Program) (K:Tm→St→Prop):List (AI×Nat)→List St→Tm→St→Prop
 | [],_,tm,s=>K tm s
 | (ai,b)::r,bf,tm,s=>
  match fa ai.kind with
  | true=>∃ d s',ou P ai tm s d s'∧fb P K r (s::bf) (tm.put ai.dst d) s'
  | false=>∃ d,gx ai tm s=some d∧(ai.kind = .load→∀ s'∈bf.take b,gx ai tm s'=some d)∧fb P K r bf (tm.put ai.dst d) s
def jX (is:List AI):List (Nat×Nat)→Option (List (AI×Nat))
 | []=>some []
 | (q,b)::r=>match is[q]?,jX is r with
  | some ai,some l=>some ((ai,b)::l)
  | _,_=>none
theorem yC {is:List AI} {K:Tm→St→Prop} : ∀ {jf:List (Nat×Nat)} {items:List (AI×Nat)} {bf:List St} {tm:Tm} {s:St},jX is jf=some items→fb P K items bf tm s→iw P is K jf bf tm s
 | [],items,bf,tm,s,h,g=>by cases h;exact g
 | (q,b)::r,items,bf,tm,s,h,g=>by
  simp only [jX]at h
  split at h
  ·rename_i ai l h1 h2
   cases h
   simp only [fb]at g
   simp only [iw,h1]
   split at g
   ·rename_i hk
    obtain⟨d,s',g1,g2⟩:=g
    try simp only [hk]
    exact⟨d,s',g1,yC h2 g2⟩
   ·rename_i hk
    obtain⟨d,g1,g2,g3⟩:=g
    try simp only [hk]
    exact⟨d,g1,g2,yC h2 g3⟩
  ·cases h
theorem Sem.Uw {B:fw} {nt:Nat} {Q:Exit→Tm→St→Prop} {tm:Tm} {s:St} {is:List AI} {jf:List (Nat×Nat)} {items:List (AI×Nat)} (hi:jX is jf=some items) (h:fb P (Q .normal) items [] tm s):Sem P B nt (.par is jf) Q tm s:=
 Sem.par (yC hi h)
def AI.free:AI→AI
 | .op d _ o=> .op d none o
 | .call d _ f xs=> .call d none f xs
 | .nil d _ n x=> .nil d none n x
 | .fX d _ t xs=> .fX d none t xs
def GL (P:Program) (g:D) (want:Bool) (i:AI) (b:Nat) (r:List (AI×Nat)) (K:Tm→St→Prop) (bf:List St) (tm:Tm) (s:St):Prop:=
 match g with
 | .bool v=>(v=want→fb P K ((i,b)::r) bf tm s)∧(v=(!want)→fb P K r (if fa i.kind then s::bf else bf) (tm.put i.dst (.tuple [])) s)
 | .tuple _=>fb P K r (if fa i.kind then s::bf else bf) (tm.put i.dst (.tuple [])) s
 | _=>False
def CL (P:Program) (f:Nat) (args:List D) (s:St) (K:D→St→Prop):Prop:=∃ d s',aI P f args s d s'∧K d s'
def KL (P:Program) (K:Tm→St→Prop) (r:List (AI×Nat)) (bf:List St) (tm:Tm) (dst:Option Nat) (d:D) (s:St):Prop:=fb P K r bf (tm.put dst d) s
def kK (i:AI) (tm:Tm) (d:D):List St→Prop
 | []=>True
 | s::r=>gx i tm s=some d∧kK i tm d r
theorem xu {i:AI} {tm:Tm} {d:D} : ∀ {l:List St},kK i tm d l→∀ s∈l,gx i tm s=some d
 | [],_,s,h=>by cases h
 | a::l,h,s,hs=>by
  rcases List.mem_cons.1 hs with rfl | hs
  ·exact h.1
  ·exact xu h.2 s hs
def PL (P:Program) (o:AO) (dst:Option Nat) (b:Nat) (r:List (AI×Nat)) (K:Tm→St→Prop) (bf:List St) (tm:Tm) (s:St):Prop:=
 match aK o tm s with
 | some (d,_)=>kK (.op dst none o) tm d (bf.take b)∧fb P K r bf (tm.put dst d) s
 | none=>False
def ML (P:Program) (o:AO) (dst:Option Nat) (r:List (AI×Nat)) (K:Tm→St→Prop) (bf:List St) (tm:Tm) (s:St):Prop:=
 match aK o tm s with
 | some (d,s')=>fb P K r (s::bf) (tm.put dst d) s'
 | none=>False
def AO.core:AO→Bool
 | .alloc _=>true
 | .box _=>true
 | .p6 .. =>true
 | .tT _=>true
 | .store .. =>true
 | .app .. =>true
 | .oC .. =>true
 | .tV .. =>true
 | .tW .. =>true
 | .apps .. =>true
 | .pI=>true
 | .sB .. =>true
 | _=>false
theorem oP (dst:Option Nat) (g:Option (Nat×Bool)) (o:AO):fa (AI.op dst g o).kind=o.core:=by
 cases dst <;> cases g <;> cases o <;> rfl
def OL (P:Program) (o:AO) (dst:Option Nat) (b:Nat) (r:List (AI×Nat)) (K:Tm→St→Prop) (bf:List St) (tm:Tm) (s:St):Prop:=
 match o.core with
 | true=>ML P o dst r K bf tm s
 | false=>PL P o dst b r K bf tm s
theorem BH {K:Tm→St→Prop} {dst:Option Nat} {o:AO} {b:Nat} {r:List (AI×Nat)} {bf:List St} {tm:Tm} {s:St} (h:OL P o dst b r K bf tm s) :
 fb P K ((.op dst none o,b)::r) bf tm s:=by
 unfold OL at h
 simp only [fb,oP]
 cases hc:o.core with
 | true=>
  simp only [hc,ML]at h
  simp only []
  split at h
  ·rename_i d s' he
   exact⟨d,s',by simpa [ou,guarded]using he,h⟩
  ·exact h.elim
 | false=>
  simp only [hc,PL]at h
  simp only []
  split at h
  ·rename_i d s' he
   exact⟨d,by simp [gx,he],fun _=>xu h.1,h.2⟩
  ·exact h.elim
theorem ET {K:Tm→St→Prop} {dst:Option Nat} {f:Nat} {xs:List X} {b:Nat} {r:List (AI×Nat)} {bf:List St} {tm:Tm} {s:St} (h:CL P f (xs.map (·.ev tm)) s (KL P K r (s::bf) tm dst)) :
 fb P K ((.call dst none f xs,b)::r) bf tm s:=by
 obtain⟨d,s',h1,h2⟩:=h
 exact⟨d,s',h1,h2⟩
theorem Pr {K:Tm→St→Prop} {i:AI} {t:Nat} {w:Bool} {b:Nat} {r:List (AI×Nat)} {bf:List St} {tm:Tm} {s:St} {j:AI} (hf:(∃ d o,i = .op d none o∧j = .op d (some (t,w)) o)∨(∃ d f xs,i = .call d none f xs∧j = .call d (some (t,w)) f xs))
 (hg:tm.get t = .bool w) (h:fb P K ((i,b)::r) bf tm s):fb P K ((j,b)::r) bf tm s:=by
 rcases hf with ⟨d,o,rfl,rfl⟩ | ⟨d,f,xs,rfl,rfl⟩
 ·simp only [fb,oP]at h ⊢
  cases hc:o.core <;> simp only [hc]at h ⊢
  ·obtain⟨x,h1,h2,h3⟩:=h
   refine⟨x,by simpa [gx,hg]using h1,fun hk s' lp=> ?_,h3⟩
   have vU:(AI.op d none o).kind = .load:=by
    cases d <;> cases o <;> first | exact hk | (cases hc;done) | (cases hk;done)
   simpa [gx,hg]using h2 vU s' lp
  ·obtain⟨x,s',h1,h2⟩:=h
   exact⟨x,s',by simpa [ou,guarded,hg]using h1,h2⟩
 ·obtain⟨x,s',h1,h2⟩:=h
  exact⟨x,s',by simpa [ou,guarded,hg]using h1,h2⟩
theorem Hv {K:Tm→St→Prop} {i:AI} {t:Nat} {w:Bool} {b:Nat} {r:List (AI×Nat)} {bf:List St} {tm:Tm} {s:St} {j:AI} (hf:(∃ d o,i = .op d none o∧j = .op d (some (t,w)) o)∨(∃ d f xs,i = .call d none f xs∧j = .call d (some (t,w)) f xs))
 (hg:tm.get t = .bool (!w)∨∃ l,tm.get t = .tuple l) (h:fb P K r (if fa i.kind then s::bf else bf) (tm.put i.dst (.tuple [])) s):fb P K ((j,b)::r) bf tm s:=by
 rcases hf with ⟨d,o,rfl,rfl⟩ | ⟨d,f,xs,rfl,rfl⟩
 ·simp only [fb,oP]at h ⊢
  cases hc:o.core <;> simp only [hc]at h ⊢
  ·refine⟨.tuple [], ?_,fun hk s' lp=> ?_,h⟩
   ·rcases hg with hg | ⟨l,hg⟩ <;> simp [gx,hg]
   ·rcases hg with hg | ⟨l,hg⟩ <;> simp [gx,hg]
  ·refine⟨.tuple [],s, ?_,h⟩
   rcases hg with hg | ⟨l,hg⟩ <;> simp [ou,guarded,hg]
 ·refine⟨.tuple [],s, ?_,h⟩
  rcases hg with hg | ⟨l,hg⟩ <;> simp [ou,guarded,hg]
theorem DO {K:Tm→St→Prop} {i j:AI} {t:Nat} {w:Bool} {b:Nat} {r:List (AI×Nat)} {bf:List St} {tm:Tm} {s:St} (hf:(∃ d o,i = .op d none o∧j = .op d (some (t,w)) o)∨(∃ d f xs,i = .call d none f xs∧j = .call d (some (t,w)) f xs))
 (h:GL P (tm.get t) w i b r K bf tm s):fb P K ((j,b)::r) bf tm s:=by
 unfold GL at h
 split at h
 ·rename_i v hv
  by_cases e:v=w
  ·exact Pr hf (by rw [hv,e]) (h.1 e)
  ·exact Hv hf (.inl (by rw [hv];cases v <;> cases w <;> simp_all)) (h.2 (by cases v <;> cases w <;> simp_all))
 ·rename_i l hl
  exact Hv hf (.inr ⟨l,hl⟩) h
 ·exact h.elim
theorem zD {K:Tm→St→Prop} {dst:Option Nat} {o:AO} {t:Nat} {w:Bool} {b:Nat} {r:List (AI×Nat)} {bf:List St} {tm:Tm} {s:St} (h:GL P (tm.get t) w (.op dst none o) b r K bf tm s) :
 fb P K ((.op dst (some (t,w)) o,b)::r) bf tm s:=DO (.inl ⟨dst,o,rfl,rfl⟩) h
theorem C5 {K:Tm→St→Prop} {dst:Option Nat} {f:Nat} {xs:List X} {t:Nat} {w:Bool} {b:Nat} {r:List (AI×Nat)} {bf:List St} {tm:Tm} {s:St} (h:GL P (tm.get t) w (.call dst none f xs) b r K bf tm s) :
 fb P K ((.call dst (some (t,w)) f xs,b)::r) bf tm s:=DO (.inr ⟨dst,f,xs,rfl,rfl⟩) h
theorem CU {f:Nat} {args:List D} {s:St} {d:D} {s':St} {K:D→St→Prop} (h:aI P f args s d s') (hk:K d s'):CL P f args s K:=⟨d,s',h,hk⟩
end
end Go.Abs

/-! Wp -/

namespace Go.Abs
theorem nd {α:Type} {a b:α} (h:a=b):a=b:=h
def GJ (g:D) (w:Bool) (A C:Prop):Prop:=
 match g with
 | .bool b=>(b=w→A)∧(b=(!w)→C)
 | .tuple _=>C
 | _=>False
class TI where
 a:Prop
 c:Prop
def CB (d:D) [b:TI] : Prop:=pO d b.a b.c
def GB (d:D) (w:Bool) [b:TI] : Prop:=GJ d w b.a b.c
def jY (g:Option (Nat×Bool)) (tm:Tm) (A C:Prop):Prop:=
 match g with
 | none=>A
 | some (t,w)=>GJ (tm.get t) w A C
def ij (P:Program):List AI→(Tm→St→Prop)→Tm→St→Prop
 | [],K,tm,s=>K tm s
 | .op dst g o::r,K,tm,s=>jY g tm (match aK o tm s with | some (d,s')=>ij P r K (tm.put dst d) s' | none=>False) (ij P r K (tm.put dst (.tuple [])) s)
 | .call dst g f xs::r,K,tm,s=>jY g tm (CL P f (xs.map (·.ev tm)) s fun d s'=>ij P r K (tm.put dst d) s') (ij P r K (tm.put dst (.tuple [])) s)
 | .nil dst g neg x::r,K,tm,s=>
  jY g tm (match x.ev tm with
   | .slice _ _ rows=>∀ b:Bool,(rows≠ []→b=false)→ij P r K (tm.put dst (.bool (if neg then !b else b))) s
   | _=>False) (ij P r K (tm.put dst (.tuple [])) s)
 | .fX dst g t xs::r,K,tm,s=>
  jY g tm (match tm.get t with
   | .fi f kl=>enters P f=true∧CL P f (xs.map (·.ev tm)++kl) s fun d s'=>ij P r K (tm.put dst d) s'
   | _=>False) (ij P r K (tm.put dst (.tuple [])) s)
theorem oz {g:Option (Nat×Bool)} {tm:Tm} {A C A' C':Prop} (h:jY g tm A C) (ha:A→A') (hc:C→C'):guarded g tm A' C':=by
 unfold jY at h
 unfold guarded
 cases g with
 | none=>exact ha h
 | some p=>
  obtain⟨t,w⟩:=p
  simp only [GJ]at h ⊢
  split at h
  ·rename_i hb;try simp only [hb]
   exact⟨fun e=>ha (h.1 e),fun e=>hc (h.2 e)⟩
  ·rename_i hb;try simp only [hb]
   exact hc h
  ·exact h.elim
theorem kS {P:Program} {K:Tm→St→Prop} : ∀ {is:List AI} {tm:Tm} {s:St},ij P is K tm s→fM P is K tm s
 | [],tm,s,h=>h
 | .op dst g o::r,tm,s,h=>by
  refine oz h (fun h=> ?_) kS
  split at h
  ·rename_i he;try simp only [he]
   exact kS h
  ·exact h.elim
 | .call dst g f xs::r,tm,s,h=>oz h (fun⟨d,s',h1,h2⟩=>h1.use (kS h2)) kS
 | .nil dst g neg x::r,tm,s,h=>by
  refine oz h (fun h=> ?_) kS
  split at h
  ·rename_i he;try simp only [he]
   exact fun b hb=>kS (h b hb)
  ·exact h.elim
 | .fX dst g t xs::r,tm,s,h=>by
  refine oz h (fun h=> ?_) kS
  split at h
  ·rename_i he;try simp only [he]
   obtain⟨h0,d,s',h1,h2⟩:=h
   exact⟨h0,h1.use (kS h2)⟩
  ·exact h.elim
def eJ (P:Program) (K:Tm→St→Prop):List (AI×Nat)→List St→Tm→St→Prop
 | [],_,tm,s=>K tm s
 | (.op dst g o,b)::r,bf,tm,s=>
  match o.core with
  | true=>jY g tm (match aK o tm s with | some (d,s')=>eJ P K r (s::bf) (tm.put dst d) s' | none=>False) (eJ P K r (s::bf) (tm.put dst (.tuple [])) s)
  | false=>jY g tm (match aK o tm s with | some (d,_)=>kK (.op dst none o) tm d (bf.take b)∧eJ P K r bf (tm.put dst d) s | none=>False) (eJ P K r bf (tm.put dst (.tuple [])) s)
 | (.call dst g f xs,_)::r,bf,tm,s=>jY g tm (CL P f (xs.map (·.ev tm)) s fun d s'=>eJ P K r (s::bf) (tm.put dst d) s') (eJ P K r (s::bf) (tm.put dst (.tuple [])) s)
 | (.nil ..,_)::_,_,_,_=>False
 | (.fX ..,_)::_,_,_,_=>False
theorem uC {P:Program} {t:Nat} {w:Bool} {tm:Tm} {i:AI} {b:Nat} {r:List (AI×Nat)} {K:Tm→St→Prop} {bf:List St} {s:St} {A C:Prop} (h:jY (some (t,w)) tm A C) (ha:A→fb P K ((i,b)::r) bf tm s)
 (hc:C→fb P K r (if fa i.kind then s::bf else bf) (tm.put i.dst (.tuple [])) s):GL P (tm.get t) w i b r K bf tm s:=by
 simp only [jY,GJ]at h
 unfold GL
 split at h
 ·rename_i hb;try simp only [hb]
  exact⟨fun e=>ha (h.1 e),fun e=>hc (h.2 e)⟩
 ·rename_i hb;try simp only [hb]
  exact hc h
 ·exact h.elim
theorem jF {P:Program} {K:Tm→St→Prop} : ∀ {l:List (AI×Nat)} {bf:List St} {tm:Tm} {s:St},eJ P K l bf tm s→fb P K l bf tm s
 | [],bf,tm,s,h=>h
 | (.op dst g o,b)::r,bf,tm,s,h=>by
  simp only [eJ]at h
  cases hc:o.core with
  | true=>
   simp only [hc]at h
   have ha:(match aK o tm s with | some (d,s')=>eJ P K r (s::bf) (tm.put dst d) s' | none=>False)→fb P K ((.op dst none o,b)::r) bf tm s:=by
    intro h
    refine BH ?_
    simp only [OL,hc,ML]
    split at h
    ·rename_i he;try simp only [he]
     exact jF h
    ·exact h.elim
   cases g with
   | none=>exact ha h
   | some p=>
    obtain⟨t,w⟩:=p
    refine zD (uC h ha fun h=> ?_)
    simp only [oP,hc,if_true]
    exact jF h
  | false=>
   simp only [hc]at h
   have ha:(match aK o tm s with | some (d,_)=>kK (.op dst none o) tm d (bf.take b)∧eJ P K r bf (tm.put dst d) s | none=>False)→fb P K ((.op dst none o,b)::r) bf tm s:=by
    intro h
    refine BH ?_
    simp only [OL,hc,PL]
    split at h
    ·rename_i he;try simp only [he]
     exact⟨h.1,jF h.2⟩
    ·exact h.elim
   cases g with
   | none=>exact ha h
   | some p=>
    obtain⟨t,w⟩:=p
    refine zD (uC h ha fun h=> ?_)
    simp only [oP,hc]
    exact jF h
 | (.call dst g f xs,b)::r,bf,tm,s,h=>by
  simp only [eJ]at h
  have ha:(CL P f (xs.map (·.ev tm)) s fun d s'=>eJ P K r (s::bf) (tm.put dst d) s')→fb P K ((.call dst none f xs,b)::r) bf tm s:=
   fun⟨d,s',h1,h2⟩=>ET ⟨d,s',h1,jF h2⟩
  cases g with
  | none=>exact ha h
  | some p=>
   obtain⟨t,w⟩:=p
   exact C5 (uC h ha fun h=>jF h)
 | (.nil ..,_)::_,bf,tm,s,h=>h.elim
 | (.fX ..,_)::_,bf,tm,s,h=>h.elim
section
variable {P:Program} {B:fw} {nt:Nat}
def iT (P:Program) (B:fw) (nt:Nat):AC→(Exit→Tm→St→Prop)→Tm→St→Prop
 | .skip,Q,tm,s=>Q .normal tm s
 | .run is,Q,tm,s=>ij P is (Q .normal) tm s
 | .par is jf,Q,tm,s=>match jX is jf with | some l=>eJ P (Q .normal) l [] tm s | none=>False
 | .seq a b,Q,tm,s=>iT P B nt a (na (iT P B nt b Q) Q) tm s
 | .cond x a b,Q,tm,s=>pO (x.ev tm) (iT P B nt a Q tm s) (iT P B nt b Q tm s)
 | .block id a,Q,tm,s=>iT P B nt a (lu id Q) tm s
 | .loop a,Q,tm,s=>bq P B nt a Q tm s
 | .exit id,Q,tm,s=>Q (.exit id) tm s
 | .scope a,Q,tm,s=>Ez P B nt a a Q tm s
 | .label _,Q,tm,s=>Q .normal tm s
 | .goto l,Q,tm,s=>Q (.goto l) tm s
 | .ret,Q,tm,s=>Q .ret tm s
theorem gO : ∀ {ac:AC} {Q:Exit→Tm→St→Prop} {tm:Tm} {s:St},iT P B nt ac Q tm s→Sem P B nt ac Q tm s:=by
 intro ac
 induction ac with
 | skip=>exact fun h=>Sem.skip h
 | run is=>exact fun h=>Sem.run (kS h)
 | par is jf=>
  intro Q tm s h
  simp only [iT]at h
  split at h
  ·exact Sem.Uw ‹_› (jF h)
  ·exact h.elim
 | seq a b Pt Pu=>
  intro Q tm s h
  refine Sem.seq ((Pt h).mono fun e tm s hq=> ?_)
  cases e with
  | normal=>exact Pu hq
  | _=>exact hq
 | cond x a b Pt Pu=>
  intro Q tm s h
  refine Sem.R6 ?_
  simp only [iT]at h
  unfold pO at h ⊢
  split at h
  ·exact⟨fun e=>Pt (h.1 e),fun e=>Pu (h.2 e)⟩
  ·exact h.elim
 | block id a ih=>exact fun h=>Sem.block (ih h)
 | loop a ih=>exact fun h=>Sem.loop h
 | exit id=>exact fun h=>Sem.exit h
 | scope a ih=>exact fun h=>Sem.scope h
 | label l=>exact fun h=>Sem.label h
 | goto l=>exact fun h=>Sem.goto h
 | ret=>exact fun h=>Sem.ret h
section
variable (Q:Exit→Tm→St→Prop) (N:Tm→St→Prop) (tm:Tm) (s:St) (a b:AC) (is:List AI) (x:X)
theorem JV:iT P B nt .skip Q tm s=Q .normal tm s:=nd rfl
theorem Ns:iT P B nt (.run is) Q tm s=ij P is (Q .normal) tm s:=nd rfl
theorem Nt (jf:List (Nat×Nat)):iT P B nt (.par is jf) Q tm s=match jX is jf with | some l=>eJ P (Q .normal) l [] tm s | none=>False:=nd rfl
theorem Nu:iT P B nt (.seq a b) Q tm s=iT P B nt a (na (iT P B nt b Q) Q) tm s:=nd rfl
theorem JW:iT P B nt (.cond x a b) Q tm s = @CB (x.ev tm) ⟨iT P B nt a Q tm s,iT P B nt b Q tm s⟩:=nd rfl
theorem Hw (id:Nat):iT P B nt (.block id a) Q tm s=iT P B nt a (lu id Q) tm s:=nd rfl
theorem JX:iT P B nt (.loop a) Q tm s=bq P B nt a Q tm s:=nd rfl
theorem Hx:iT P B nt (.scope a) Q tm s=Ez P B nt a a Q tm s:=nd rfl
theorem JY (id:Nat):iT P B nt (.exit id) Q tm s=Q (.exit id) tm s:=nd rfl
theorem Hy (id:Nat):iT P B nt (.label id) Q tm s=Q .normal tm s:=nd rfl
theorem JZ (id:Nat):iT P B nt (.goto id) Q tm s=Q (.goto id) tm s:=nd rfl
theorem Nv:iT P B nt .ret Q tm s=Q .ret tm s:=nd rfl
theorem Nw:na N Q .normal tm s=N tm s:=nd rfl
theorem Nx:na N Q .ret tm s=Q .ret tm s:=nd rfl
theorem Ny (id:Nat):na N Q (.exit id) tm s=Q (.exit id) tm s:=nd rfl
theorem Nz (id:Nat):na N Q (.goto id) tm s=Q (.goto id) tm s:=nd rfl
theorem J0 (id:Nat):lu id Q .normal tm s=Q .normal tm s:=nd rfl
theorem J1 (id:Nat):lu id Q .ret tm s=Q .ret tm s:=nd rfl
theorem J2 (id l:Nat):lu id Q (.goto l) tm s=Q (.goto l) tm s:=nd rfl
theorem J3 (id i:Nat):lu id Q (.exit i) tm s=if i=id then Q .normal tm s else Q (.exit i) tm s:=nd rfl
end
theorem bq.AY {a:AC} {Q:Exit→Tm→St→Prop} {tm:Tm} {s:St} (h:iT P B nt a (na (bq P B nt a Q) Q) tm s):bq P B nt a Q tm s:=bq.once (gO h)
def qO (tm:Tm) (n m:Nat):Tm→Prop
 | []=>True
 | (k,d)::r=>Wk ((tm.get k).fg n m) d∧qO tm n m r
theorem qO.get {tm:Tm} {n m:Nat} : ∀ {bm:Tm},qO tm n m bm→∀ t,Wk ((tm.get t).fg n m) (bm.get t)
 | [],_,t=>Wk.junk _
 | (k,d)::r,h,t=>by
  simp only [Tm.get]
  split
  ·rename_i hk;subst hk;exact h.1
  ·exact qO.get h.2 t
theorem Holds.re {Q:Exit→Tm→St→Prop} {tm bm:Tm} {s:St} {jQ:List (List D)} {act:Act} {w:World} (n m:Nat) (hn:B.s.av.length≤n) (hm:B.s.aw.length≤m) (ht:qO tm n m bm) (ho:fS (s.cut n m).av jQ)
 (h:Holds B nt tm s act w):Holds B nt bm ⟨jQ,(s.cut n m).aw⟩ act w:=by
 obtain⟨M,e,r,hr,h1,h2⟩:=h
 obtain⟨r',le⟩:=(r.cut n m).BB ho
 have e':=e.cut hn hm
 refine⟨M,e'.trans ⟨le,fun _ _ _ _=>rfl,fun o h1 h2=> ?_,fun t b c z hl e=> .inl ⟨hl,c,z,e⟩,fun _ _ h=>(h rfl).elim,Nat.le_refl _,rfl,rfl,rfl⟩,r',fun k=>((ht.get k) _ _ _ ((hr k).fg n m)).mono le,h1,h2⟩
 rw [← ho.len]at h2
 exact absurd h2 (Nat.not_lt.2 h1)
theorem bq.re {a:AC} {Q:Exit→Tm→St→Prop} {tm:Tm} {s:St} (bm:Tm) (jQ:List (List D)) (n m:Nat) (hn:B.s.av.length≤n) (hm:B.s.aw.length≤m) (ht:qO tm n m bm) (ho:fS (s.cut n m).av jQ)
 (h:bq P B nt a Q bm ⟨jQ,(s.cut n m).aw⟩):bq P B nt a Q tm s:=
 fun c hc act w hh=>h c hc act w (hh.re (Q:=Q) n m hn hm ht ho)
theorem bq.ind {ι:Type} {a:AC} {Q:Exit→Tm→St→Prop} (I:ι→Prop) (μ:ι→Nat) (TM:ι→Tm) (ST:ι→St)
 (step : ∀ i,I i→(∀ j,I j→μ j<μ i→bq P B nt a Q (TM j) (ST j))→iT P B nt a (na (bq P B nt a Q) Q) (TM i) (ST i)) : ∀ i,I i→bq P B nt a Q (TM i) (ST i):=by
 have key : ∀ n i,μ i<n→I i→bq P B nt a Q (TM i) (ST i):=by
  intro n
  induction n with
  | zero=>intro i h;exact absurd h (Nat.not_lt_zero _)
  | succ n ih=>exact fun i h hi=>bq.AY (step i hi fun j hj hD=>ih j (by omega) hj)
 exact fun i hi=>key (μ i+1) i (Nat.lt_succ_self _) hi
theorem drop_cons {α:Type} {l rest:List α} {k:Nat} {x:α} (h:l.drop k=x::rest):l[k]? = some x∧l.drop (k+1)=rest∧decide ((k:Int)<(l.length:Int))=true∧k<l.length:=by
 have h1:l[k]? = some x:=by
  have:(l.drop k)[0]? = some x:=by rw [h];rfl
  simpa using this
 have h2:=(List.getElem?_eq_some_iff.1 h1).1
 refine⟨h1, ?_,by simpa using h2,h2⟩
 have:l.drop (k+1)=(l.drop k).drop 1:=by rw [List.drop_drop]
 rw [this,h];rfl
theorem drop_nil {α:Type} {l:List α} {k:Nat} (h:l.drop k = []):decide ((k:Int)<(l.length:Int))=false:=by
 have:=List.drop_eq_nil_iff.1 h
 simp;omega
theorem bq.o8 {a:AC} {Q:Exit→Tm→St→Prop} {tm:Tm} {s:St} (t z':Nat) {z:Nat} (hw:tm.get t = .slice .full z [])
 (h:bq P B nt a Q (tm.set t (.slice (.tok s.aw.length) z' [])) {s with aw:=s.aw++ [some 0]}):bq P B nt a Q tm s:=by
 intro c hc act w ⟨M,e,r,ht,h1,h2⟩
 obtain⟨r',le⟩:=r.blank
 refine h c hc act w ⟨_,zw e le,r',fun k=> ?_,h1,h2⟩
 rw [Tm.yu]
 split
 ·rename_i hk;subst hk;have:=ht k;rw [hw]at this;exact this.own
 ·exact(ht k).mono le
theorem bq.yD {a:AC} {Q:Exit→Tm→St→Prop} {tm:Tm} {s:St} (o i z':Nat) {z:Nat} {cs:List D} (hc:s.av[o]? = some cs) (hi:cs[i]? = some (.slice .full z []))
 (h:bq P B nt a Q tm ⟨s.av.set o (cs.set i (.slice (.tok s.aw.length) z' [])),s.aw++ [some 0]⟩):bq P B nt a Q tm s:=by
 intro c OZ act w hh
 obtain⟨M,e,r,ht,h1,h2⟩:=hh
 obtain⟨r',le⟩:=r.blank
 have TJ:Le M s (M.dq s.aw.length none) ⟨s.av.set o (cs.set i (.slice (.tok s.aw.length) z' [])),s.aw++ [some 0]⟩:=⟨le.G,by simp,le.loc,le.t,le.tk⟩
 have Pv:Le (M.dq s.aw.length none) {s with aw:=s.aw++ [some 0]} (M.dq s.aw.length none) ⟨s.av.set o (cs.set i (.slice (.tok s.aw.length) z' [])),s.aw++ [some 0]⟩:=
  ⟨fun _ _ _ h=>h,by simp,fun _ _=>rfl,Nat.le_refl _,fun t n' _ e=>⟨n',e,Nat.le_refl _,fun _=>rfl⟩⟩
 have r2:Rel (M.dq s.aw.length none) ⟨s.av.set o (cs.set i (.slice (.tok s.aw.length) z' [])),s.aw++ [some 0]⟩ w:=by
  refine⟨r'.comm,fun o' ds e=> ?_,fun o ho=>r'.iO o (by simpa using ho),fun o o' ho ki=>r'.inj o o' (by simpa using ho) (by simpa using ki),r'.tok,
   fun t b c z o hv e ho=>r'.dW t b c z o hv e (by simpa using ho),r'.eW⟩
  simp only [List.getElem?_set]at e
  split at e
  ·rename_i ho
   subst ho
   split at e
   ·cases e
    obtain⟨vs,T,g1,g2,g3,g4⟩:=r.obj o cs hc
    refine⟨vs,T,g1,by simpa using g2,g3,fun j d v e1 e2=> ?_⟩
    rw [List.getElem?_set]at e1
    split at e1
    ·rename_i hj
     subst hj
     split at e1
     ·cases e1
      exact((g4 i _ v hi e2).own (z':=z')).mono Pv
     ·cases e1
    ·exact(g4 j d v e1 e2).mono TJ
   ·cases e
  ·obtain⟨vs,T,g1,g2,g3,g4⟩:=r'.obj o' ds e
   exact⟨vs,T,g1,g2,g3,fun i d v e1 e2=>(g4 i d v e1 e2).mono Pv⟩
 have ee:Ext B.M B.s B.w (M.dq s.aw.length none) ⟨s.av.set o (cs.set i (.slice (.tok s.aw.length) z' [])),s.aw++ [some 0]⟩ w:=by
  refine(zw e le).trans ⟨Pv,fun _ _ _ _=>rfl,fun o h1 h2=> ?_,fun t b c z hl e=> .inl ⟨hl,c,z,e⟩,fun _ _ h=>(h rfl).elim,Nat.le_refl _,rfl,rfl,rfl⟩
  simp at h2
  exact absurd h2 (Nat.not_lt.2 h1)
 exact h c OZ act w ⟨_,ee,r2,fun k=>(ht k).mono TJ,h1,h2⟩
theorem Sem.o9 {a b:AC} {Q:Exit→Tm→St→Prop} {tm:Tm} {s:St} (h:iT P B nt a (na (Sem P B nt b Q) Q) tm s):Sem P B nt (.seq a b) Q tm s:=Sem.seq (gO h)
theorem Sem.re {a:AC} {Q:Exit→Tm→St→Prop} {tm:Tm} {s:St} (bm:Tm) (jQ:List (List D)) (n m:Nat) (hn:B.s.av.length≤n) (hm:B.s.aw.length≤m) (ht:qO tm n m bm) (ho:fS (s.cut n m).av jQ)
 (h:Sem P B nt a Q bm ⟨jQ,(s.cut n m).aw⟩):Sem P B nt a Q tm s:=
 fun c hc act w hh=>h c hc act w (hh.re (Q:=Q) n m hn hm ht ho)
def Has (P:Program) (f nt:Nat) (res:List (Nat×Option (Bool×Nat))) (body:AC):Prop:=∃ fn,P.funcs[f]? = some fn∧cF P fn=some ⟨nt,res,body⟩
theorem aI.go {f:FuncId} {res:List (Nat×Option (Bool×Nat))} {body:AC} {args:List D} {s:St} {d:D} {s':St} (h0:Has P f nt res body) (hl:Nat.ble args.length nt=true)
 (h : ∀ (B:fw) (Q:Exit→Tm→St→Prop),B.s=s→n6 s.av.length s.aw.length res d s'=Q→iT P B nt body Q (k9 0 args) s):aI P f args s d s':=by
 obtain⟨fn,hf,hc⟩:=h0
 exact aI.intro ⟨fn,hf,hc⟩ (Nat.le_of_ble_eq_true hl) fun B hB=>gO (h B _ hB rfl)
theorem aI.Pw {f:FuncId} {pre post:List D} {rows oo:List (List D)} {z z' k k':Nat} (h:aI P f (pre++ .slice (.tok 0) z rows::post) ⟨[],[some k]⟩ (.slice (.tok 0) z' oo) ⟨[],[some k']⟩)
 (hp:D.bI 0 0 pre=true) (ha:D.bI 0 0 post=true) (hw:D.ig 0 0 rows=true) (Xp:D.ig 0 0 oo=true)
 {s:St} {t:Nat} (ht:s.aw[t]? = some (some k)):aI P f (pre++ .slice (.tok t) z rows::post) s (.slice (.tok t) z' oo) ⟨s.av,s.aw.set t (some k')⟩:=by
 refine dJ.frame [] [t] h (by simp) (by simp) (by simp) (by simpa using (List.getElem?_eq_some_iff.1 ht).1) rfl (fun i o' ds e1 e2=>by simp at e1) rfl (fun i t' e1=> ?_)
  ?_ ?_ ?_
 ·cases i with
  | zero=>simp at e1;subst e1;simp [ht]
  | succ i=>simp at e1
 ·have h1:=fp [] [t] _ hp
  have h2:=fp [] [t] _ ha
  rw [eI]at h1 h2
  simp [eI,D.db,Tag.db,h1,h2,kj _ _ _ hw]
 ·have h1:=gZ (n':=0) (m':=1) (Nat.le_refl 0) (Nat.zero_le 1) _ hp
  have h2:=gZ (n':=0) (m':=1) (Nat.le_refl 0) (Nat.zero_le 1) _ ha
  rw [Bu]at h1 h2 ⊢
  simp only [List.length_nil,List.length_cons,List.all_append,h1,Bool.true_and,List.all_cons,h2,Bool.and_true,D.ok,Tag.ok,mA (Nat.zero_le 0) (Nat.zero_le 1) _ hw]
  rfl
 ·rintro _ _ ⟨rfl,rfl⟩
  refine⟨by simp [D.back,D.db,Tag.db,ji,kj _ _ _ Xp], ?_⟩
  simp [St.back,iS]
theorem Uz (A C:Prop) : @CB (.bool true) ⟨A,C⟩=A:=by simp [CB,pO]
theorem UA (A C:Prop) : @CB (.bool false) ⟨A,C⟩=C:=by simp [CB,pO]
theorem Px (b:Bool) (A C:Prop) : @CB (.bool (!b)) ⟨A,C⟩ = @CB (.bool b) ⟨C,A⟩:=by
 cases b <;> simp [CB,pO]
theorem BI {b:Bool} {A C:Prop} (h1:b=true→A) (h2:b=false→C) : @CB (.bool b) ⟨A,C⟩:=⟨h1,h2⟩
theorem Py {b:Bool} {A C:Prop} (h:b=true) (h1:b=true→A) : @CB (.bool b) ⟨A,C⟩:=BI h1 (fun h'=>by rw [h]at h';cases h')
theorem Pz {b:Bool} {A C:Prop} (h:b=false) (h1:b=false→C) : @CB (.bool b) ⟨A,C⟩:=BI (fun h'=>by rw [h]at h';cases h') h1
theorem R9 {n m:Nat} {res:List (Nat×Option (Bool×Nat))} {d:D} {s':St} {tm:Tm} {s:St} {Q:Exit→Tm→St→Prop} (hQ:n6 n m res d s'=Q)
 (h : ∃ l,az res tm s=some l∧Wk ((aB l).fg n m) d∧fS (s.cut n m).av s'.av∧(s.cut n m).aw=s'.aw):Q .ret tm s:=hQ ▸ h
theorem Sb {n m:Nat} {res:List (Nat×Option (Bool×Nat))} {d:D} {s':St} {tm:Tm} {s:St} {Q:Exit→Tm→St→Prop} (hQ:n6 n m res d s'=Q)
 (h : ∃ l,az res tm s=some l∧Wk ((aB l).fg n m) d∧fS (s.cut n m).av s'.av∧(s.cut n m).aw=s'.aw):Q .normal tm s:=hQ ▸ h
end
attribute [go_sem] JV Ns Nt Nu JW Hw JX Hx JY Hy JZ Nv Nw Nx Ny Nz J0 J1 J2 J3
theorem Hz : ∀ (tm:Tm) (s:St) (x:X),aK (AO.mv x) tm s=some (X.ev tm x,s):=
 fun tm s x=>nd (aK.eq_1 tm s x)
theorem HA : ∀ (tm:Tm) (s:St) (c a b:X),
 aK (AO.pick c a b) tm s =
  match X.ev tm c with
  | D.bool t=>some (if t=true then X.ev tm a else X.ev tm b,s)
  | x=>none:=
 fun tm s c a b=>nd (aK.eq_2 tm s c a b)
theorem HC : ∀ (tm:Tm) (s:St) (zero:List D),
 aK (AO.alloc zero) tm s=some (D.ptr s.av.length 0,{av:=s.av++ [zero],aw:=s.aw}):=
 fun tm s zero=>nd (aK.eq_3 tm s zero)
theorem HD : ∀ (tm:Tm) (s:St) (x:X),
 aK (AO.box x) tm s =
  match (X.ev tm x).row with
  | some r=>some (D.ptr s.av.length 0,{av:=s.av++ [r],aw:=s.aw})
  | none=>none:=
 fun tm s x=>nd (aK.eq_4 tm s x)
theorem HE : ∀ (tm:Tm) (s:St) (zero:List D) (parts:List (Nat×Nat×X)),
 aK (AO.build zero parts) tm s =
  match mV zero (List.map (fun(p:Nat×Nat×X)=>(p.fst,p.snd.fst,X.ev tm p.snd.snd)) parts)with
  | some cs=>some (D.agg cs,s)
  | none=>none:=
 fun tm s zero parts=>nd (aK.eq_5 tm s zero parts)
theorem HF : ∀ (tm:Tm) (s:St) (zero:List D) (size n:Nat) (parts:List (Nat×X)),
 aK (AO.c7 zero size n parts) tm s =
  match gB size (fN zero n) (List.map (fun(p:Nat×X)=>(p.fst,X.ev tm p.snd)) parts)with
  | some rows=>some (D.slice Tag.full size rows,s)
  | none=>none:=
 fun tm s zero size n parts=>nd (aK.eq_6 tm s zero size n parts)
theorem HG : ∀ (tm:Tm) (s:St) (zero:List D) (size n:Nat) (parts:List (Nat×X)),
 aK (AO.p6 zero size n parts) tm s =
  match gB size (fN zero n) (List.map (fun(p:Nat×X)=>(p.fst,X.ev tm p.snd)) parts)with
  | some rows=>
   some (D.slice (Tag.tok s.aw.length) size rows,{av:=s.av,aw:=s.aw++ [some rows.length]})
  | none=>none:=
 fun tm s zero size n parts=>nd (aK.eq_7 tm s zero size n parts)
theorem HH : ∀ (tm:Tm) (s:St) (x:X),
 aK (AO.tT x) tm s =
  match X.ev tm x with
  | D.slice (Tag.tok t _) z rows=>
   if rows≠ []∧s.aw[t]? = some (some rows.length)then
    some (D.slice Tag.shared z rows,{av:=s.av,aw:=s.aw.set t none})
   else none
  | x=>none:=
 fun tm s x=>nd (aK.eq_8 tm s x)
theorem HI : ∀ (tm:Tm) (s:St) (x:X) (agg:Bool) (size:Nat),
 aK (AO.load x agg size) tm s =
  match X.ev tm x with
  | D.ptr o off=>
   match s.av[o]? with
   | some cs=>
    match part cs off agg size with
    | some d=>some (d,s)
    | none=>none
   | none=>none
  | D.dc row off=>
   match part row off agg size with
   | some d=>some (d,s)
   | none=>none
  | x=>none:=
 fun tm s x agg size=>nd (aK.eq_9 tm s x agg size)
theorem EV : ∀ (tm:Tm) (s:St) (p x:X) (size:Nat),
 aK (AO.store p x size) tm s =
  match X.ev tm p,(X.ev tm x).row with
  | D.ptr o off,some r=>
   match s.av[o]? with
   | some cs=>
    if r.length=size∧off+size≤cs.length then
     some (D.tuple [],{av:=s.av.set o (gw cs off r),aw:=s.aw})
    else none
   | none=>none
  | x,dR=>none:=
 fun tm s p x size=>nd (aK.eq_10 tm s p x size)
theorem EW : ∀ (tm:Tm) (s:St) (x:X),
 aK (AO.fU x) tm s =
  match X.ev tm x with
  | D.ptr o off=>some (D.ptr o off,s)
  | D.dc row off=>some (D.dc row off,s)
  | x=>none:=
 fun tm s x=>nd (aK.eq_11 tm s x)
theorem EX : ∀ (tm:Tm) (s:St) (op:BinOp) (x y:X),
 aK (AO.bin op x y) tm s =
  match rb op (X.ev tm x) (X.ev tm y)with
  | some d=>some (d,s)
  | none=>none:=
 fun tm s op x y=>nd (aK.eq_12 tm s op x y)
theorem EY : ∀ (tm:Tm) (s:St) (neg:Bool) (x y:X),
 aK (AO.zh neg x y) tm s =
  match X.ev tm x,X.ev tm y with
  | D.bool a,D.bool b=>some (D.bool (if neg=true then !a==b else a==b),s)
  | x,dR=>none:=
 fun tm s neg x y=>nd (aK.eq_13 tm s neg x y)
theorem EZ : ∀ (tm:Tm) (s:St) (neg:Bool) (ks:List Nat) (x y:X),
 aK (AO.eqs neg ks x y) tm s =
  match X.ev tm x,X.ev tm y with
  | D.agg a,D.agg b=>
   match iJ ks a b with
   | some e=>some (D.bool (if neg=true then !e else e),s)
   | none=>none
  | x,dR=>none:=
 fun tm s neg ks x y=>nd (aK.eq_14 tm s neg ks x y)
theorem E0 : ∀ (tm:Tm) (s:St) (neg:Bool) (x y:X),
 aK (AO.A7 neg x y) tm s =
  match X.ev tm x,X.ev tm y with
  | D.ei,D.ei=>some (D.bool !neg,s)
  | D.ptr o off,D.ei=>some (D.bool neg,s)
  | D.dc row off,D.ei=>some (D.bool neg,s)
  | x,dR=>none:=
 fun tm s neg x y=>nd (aK.eq_15 tm s neg x y)
theorem E1 : ∀ (tm:Tm) (s:St) (op:UnOp) (x:X),
 aK (AO.un op x) tm s =
  match Bc op (X.ev tm x)with
  | some d=>some (d,s)
  | none=>none:=
 fun tm s op x=>nd (aK.eq_16 tm s op x)
theorem E2 : ∀ (tm:Tm) (s:St) (k:IntKind) (x:X),
 aK (AO.conv k x) tm s =
  match X.ev tm x with
  | D.int k_1 n=>some (D.int k (k.wrap n),s)
  | x=>none:=
 fun tm s k x=>nd (aK.eq_17 tm s k x)
theorem E3 : ∀ (tm:Tm) (s:St) (x:X),
 aK (AO.wY x) tm s =
  match X.ev tm x with
  | D.slice g size rows=>
   match kR rows with
   | some b=>some (D.str b,s)
   | none=>none
  | x=>none:=
 fun tm s x=>nd (aK.eq_18 tm s x)
theorem E4 : ∀ (tm:Tm) (s:St) (x:X),
 aK (AO.rS x) tm s =
  match X.ev tm x with
  | D.str l=>some (D.slice Tag.shared 1 (List.map (fun(c:UInt8)=> [D.int IntKind.u8 ↑c.toNat]) l),s)
  | x=>none:=
 fun tm s x=>nd (aK.eq_19 tm s x)
theorem E5 : ∀ (tm:Tm) (s:St) (size:Nat) (x:X) (lo hi:Option X),
 aK (AO.A8 size x lo hi) tm s =
  match X.ev tm x with
  | D.slice g z rows=>
   match tY (Option.map (fun(x:X)=>X.ev tm x) lo),
    tZ (Option.map (fun(x:X)=>X.ev tm x) hi) rows.length with
   | some l,some h=>
    if(rows = []∨z=size)∧0≤l∧l≤h∧h≤ ↑rows.length then
     some
      (D.slice (if l=0 then g.cut (decide (h = ↑rows.length))else Tag.shared) z
       (List.drop l.toNat (List.take h.toNat rows)),
       s)
    else none
   | x,dR=>none
  | x=>none:=
 fun tm s size x lo hi=>nd (aK.eq_20 tm s size x lo hi)
theorem E6 : ∀ (tm:Tm) (s:St) (x:X) (lo hi:Option X),
 aK (AO.A9 x lo hi) tm s =
  match X.ev tm x with
  | D.str t=>
   match tY (Option.map (fun(x:X)=>X.ev tm x) lo),tZ (Option.map (fun(x:X)=>X.ev tm x) hi) t.length with
   | some l,some h=>
    if 0≤l∧l≤h∧h≤ ↑t.length then some (D.str (List.drop l.toNat (List.take h.toNat t)),s)else none
   | x,dR=>none
  | x=>none:=
 fun tm s x lo hi=>nd (aK.eq_21 tm s x lo hi)
theorem E7 : ∀ (tm:Tm) (s:St) (x:X) (off:Nat),
 aK (AO.ay x off) tm s =
  match X.ev tm x with
  | D.ptr o k=>some (D.ptr o (k+off),s)
  | D.dc row k=>some (D.dc row (k+off),s)
  | x=>none:=
 fun tm s x off=>nd (aK.eq_22 tm s x off)
theorem E8 : ∀ (tm:Tm) (s:St) (x:X) (off:Nat) (agg:Bool) (size:Nat),
 aK (AO.rT x off agg size) tm s =
  match X.ev tm x with
  | D.agg cs=>
   match part cs off agg size with
   | some d=>some (d,s)
   | none=>none
  | x=>none:=
 fun tm s x off agg size=>nd (aK.eq_23 tm s x off agg size)
theorem E9 : ∀ (tm:Tm) (s:St) (x i:X) (size:Nat),
 aK (AO.bX x i size) tm s =
  match X.ev tm x,X.ev tm i with
  | D.slice g z rows,D.int k n=>
   if 0≤n∧z=size then
    match rows[n.toNat]? with
    | some row=>some (D.dc row 0,s)
    | none=>none
   else none
  | x,dR=>none:=
 fun tm s x i size=>nd (aK.eq_24 tm s x i size)
theorem Fa : ∀ (tm:Tm) (s:St) (x i:X),
 aK (AO.tU x i) tm s =
  match X.ev tm x,X.ev tm i with
  | D.str t,D.int k n=>
   if 0≤n then
    match t[n.toNat]? with
    | some c=>some (D.int IntKind.u8 ↑c.toNat,s)
    | none=>none
   else none
  | x,dR=>none:=
 fun tm s x i=>nd (aK.eq_25 tm s x i)
theorem Fb : ∀ (tm:Tm) (s:St) (x:X) (i:Nat),
 aK (AO.ext x i) tm s =
  match X.ev tm x with
  | D.tuple ds=>
   match ds[i]? with
   | some d=>some (d,s)
   | none=>none
  | x=>none:=
 fun tm s x i=>nd (aK.eq_26 tm s x i)
theorem Fc : ∀ (tm:Tm) (s:St) (x:X),
 aK (AO.p7 x) tm s =
  match X.ev tm x with
  | D.str t=>some (D.int IntKind.i64 ↑t.length,s)
  | x=>none:=
 fun tm s x=>nd (aK.eq_27 tm s x)
theorem Fe : ∀ (tm:Tm) (s:St) (x:X),
 aK (AO.len x) tm s =
  match X.ev tm x with
  | D.slice g size rows=>some (D.int IntKind.i64 ↑rows.length,s)
  | x=>none:=
 fun tm s x=>nd (aK.eq_28 tm s x)
theorem Ff : ∀ (tm:Tm) (s:St) (size bytes:Nat) (x y:X),
 aK (AO.app size bytes x y) tm s=jC size bytes (X.ev tm x) (X.ev tm y) s:=
 fun tm s size bytes x y=>nd (aK.eq_29 tm s size bytes x y)
theorem Fg : ∀ (tm:Tm) (s:St) (isMax:Bool) (x y:X),
 aK (AO.mm isMax x y) tm s =
  match X.ev tm x,X.ev tm y with
  | D.int k a,D.int k' b=>
   if k=k' then some (D.int k (if isMax=true then if b > a then b else a else if b<a then b else a),s)
   else none
  | x,dR=>none:=
 fun tm s isMax x y=>nd (aK.eq_30 tm s isMax x y)
theorem Fh (tm:Tm) (s:St) (r:List D) (T:TypeId):aK (AO.oC (.ei::r) T) tm s=some (.ptr s.av.length 0,{av:=s.av++ [.eo T s.av.length::r],aw:=s.aw}):=nd rfl
theorem Fi (tm:Tm) (s:St) (x:X) (T:TypeId):aK (AO.tV x T) tm s =
 match (x.ev tm).row with
 | some (.ei::r)=>some (.ptr s.av.length 0,{av:=s.av++ [.eo T s.av.length::r],aw:=s.aw})
 | _=>none:=nd rfl
theorem Fj (tm:Tm) (s:St) (x y:X):aK (AO.apps x y) tm s =
 match y.ev tm with
 | .str l=>ub (x.ev tm) (.slice .shared 1 (l.map fun c=> [.int .u8 c.toNat])) s
 | _=>none:=nd rfl
theorem Fk (tm:Tm) (s:St) (x y:X):aK (AO.tW x y) tm s=ub (x.ev tm) (y.ev tm) s:=nd rfl
theorem Fl (tm:Tm) (s:St) (f:Nat) (xs:List X):aK (AO.pH f xs) tm s=some (.fi f (xs.map fun x=>x.ev tm),s):=nd rfl
theorem Fm (tm:Tm) (s:St):aK AO.pI tm s=some (.ff s.av.length,{av:=s.av++ [[]],aw:=s.aw}):=nd rfl
theorem Fo (tm:Tm) (s:St) (m k v:X):aK (AO.sB m k v) tm s =
 match m.ev tm,k.ev tm,v.ev tm with
 | .ff o, .str key, .slice g z rows=>
  match s.av[o]? with
  | some cs=>match rf key (.slice g z rows) cs with | some gi=>some (.tuple [],{av:=s.av.set o gi,aw:=s.aw}) | none=>none
  | none=>none
 | _,_,_=>none:=nd rfl
theorem Fp (tm:Tm) (s:St) (m k:X) (zero:D):aK (AO.qy m k zero) tm s =
 match m.ev tm,k.ev tm with
 | .ff o, .str key=>
  match s.av[o]? with
  | some cs=>match sC key zero cs with | some d=>some (d,s) | none=>none
  | none=>none
 | _,_=>none:=nd rfl
theorem BJ (f:Nat) (xs:List X):(AO.pH f xs).core=false:=nd rfl
theorem BK:AO.pI.core=true:=nd rfl
theorem BL (m k v:X):(AO.sB m k v).core=true:=nd rfl
theorem BM (m k:X) (zero:D):(AO.qy m k zero).core=false:=nd rfl
theorem HJ (n m f:Nat) (cs:List D):D.fg n m (.fi f cs) = .fi f (D.fA n m cs):=nd (by simp only [D.fg])
theorem HK (n m:Nat) (o:Nat):D.fg n m (.ff o)=if o<n then .ff o else .junk:=nd (by simp only [D.fg])
theorem Fq (d:Option Nat) (g:Option (Nat×Bool)) (t:Nat) (xs:List X):(AI.fX d g t xs).dst=d:=nd rfl
theorem BN (x y:X):(AO.tW x y).core=true:=nd rfl
theorem BO (z:List D) (T:TypeId):(AO.oC z T).core=true:=nd rfl
theorem BP (x:X) (T:TypeId):(AO.tV x T).core=true:=nd rfl
theorem BQ (x y:X):(AO.apps x y).core=true:=nd rfl
theorem HL (n m:Nat) (v:Value):D.fg n m (.val v) = .val v:=nd (by simp only [D.fg])
theorem HM (n m:Nat) (T:TypeId) (o:Nat):D.fg n m (.eo T o)=if o<n then .eo T o else .junk:=nd (by simp only [D.fg])
theorem J4 : ∀ (tm:Tm) (t:Nat),X.ev tm (X.s t)=tm.get t:=
 fun tm t=>nd (X.ev.eq_1 tm t)
theorem J5 : ∀ (tm:Tm) (d:D),X.ev tm (X.k d)=d:=
 fun tm d=>nd (X.ev.eq_2 tm d)
theorem Fs : ∀ (tm:Tm) (d:D) (t:Nat),tm.put (some t) d=tm.set t d:=
 fun tm d t=>nd (Tm.put.eq_1 tm d t)
theorem Ft : ∀ (tm:Tm) (d:D),tm.put none d=tm:=
 fun tm d=>nd (Tm.put.eq_2 tm d)
theorem Fu : ∀ (x:Nat) (dR:D),Tm.set [] x dR = [(x,dR)]:=
 fun x dR=>nd (Tm.set.eq_1 x dR)
theorem Fv : ∀ (x:Nat) (dR:D) (k:Nat) (e:D) (r:List (Nat×D)),
 Tm.set ((k,e)::r) x dR=if k=x then(k,dR)::r else(k,e)::Tm.set r x dR:=
 fun x dR k e r=>nd (Tm.set.eq_2 x dR k e r)
theorem Fw : ∀ (x:Nat),Tm.get [] x=D.junk:=
 fun x=>nd (Tm.get.eq_1 x)
theorem Fx : ∀ (x k:Nat) (d:D) (r:List (Nat×D)),Tm.get ((k,d)::r) x=if k=x then d else Tm.get r x:=
 fun x k d r=>nd (Tm.get.eq_2 x k d r)
theorem HN : ∀ (x:Nat),k9 x [] = []:=
 fun x=>nd (k9.eq_1 x)
theorem HO : ∀ (x:Nat) (d:D) (r:List D),k9 x (d::r)=(x,d)::k9 (x+1) r:=
 fun x d r=>nd (k9.eq_2 x d r)
theorem Fy : ∀ (d:Option Nat) (g:Option (Nat×Bool)) (o:AO),(AI.op d g o).dst=d:=
 fun d g o=>nd (AI.dst.eq_1 d g o)
theorem Fz : ∀ (d:Option Nat) (g:Option (Nat×Bool)) (f:Nat) (xs:List X),(AI.call d g f xs).dst=d:=
 fun d g f xs=>nd (AI.dst.eq_2 d g f xs)
theorem FA : ∀ (d:Option Nat) (g:Option (Nat×Bool)) (neg:Bool) (dR:X),(AI.nil d g neg dR).dst=d:=
 fun d g neg dR=>nd (AI.dst.eq_3 d g neg dR)
theorem J6 : ∀ (cs:List D) (off size:Nat),
 part cs off true size=if off+size≤cs.length then some (D.agg (List.take size (List.drop off cs)))else none:=
 fun cs off size=>nd (part.eq_1 cs off size)
theorem J7 : ∀ (cs:List D) (off size:Nat),part cs off false size=cs[off]? :=
 fun cs off size=>nd (part.eq_2 cs off size)
theorem FB : ∀ (cs:List D) (off:Nat) (r:List D),
 gw cs off r=List.take off cs++r++List.drop (off+r.length) cs:=
 fun cs off r=>nd (gw.eq_1 cs off r)
theorem HP : ∀ (cells:List D),mV cells [] = some cells:=
 fun cells=>nd (mV.eq_1 cells)
theorem HQ : ∀ (cells:List D) (off size:Nat) (d:D) (rest:List (Nat×Nat×D)),
 mV cells ((off,size,d)::rest) =
  match d.row with
  | none=>none
  | some r=>if r.length=size∧off+size≤cells.length then mV (gw cells off r) rest else none:=
 fun cells off size d rest=>nd (mV.eq_2 cells off size d rest)
theorem BR : ∀ (size:Nat) (rows:List (List D)),gB size rows [] = some rows:=
 fun size rows=>nd (gB.eq_1 size rows)
theorem BS : ∀ (size:Nat) (rows:List (List D)) (i:Nat) (d:D) (rest:List (Nat×D)),
 gB size rows ((i,d)::rest) =
  match d.row with
  | none=>none
  | some r=>if r.length=size∧i<rows.length then gB size (rows.set i r) rest else none:=
 fun size rows i d rest=>nd (gB.eq_2 size rows i d rest)
theorem BT : ∀ (zero:List D),fN zero 0 = []:=
 fun zero=>nd (fN.eq_1 zero)
theorem BU : ∀ (zero:List D) (i:Nat),fN zero i.succ=zero::fN zero i:=
 fun zero i=>nd (fN.eq_2 zero i)
theorem J8 : ∀ (op:BinOp) (k:IntKind) (a:Int) (k':IntKind) (b:Int),
 rb op (D.int k a) (D.int k' b)=if k=k' then eD op k a b else none:=
 fun op k a k' b=>nd (rb.eq_1 op k a k' b)
theorem J9 : ∀ (op:BinOp) (a b:List UInt8),rb op (D.str a) (D.str b)=kD op a b:=
 fun op a b=>nd (rb.eq_2 op a b)
theorem FC : ∀ (k:IntKind) (a b:Int),eD BinOp.add k a b=some (D.int k (k.wrap (a+b))):=
 fun k a b=>nd (eD.eq_1 k a b)
theorem FD : ∀ (k:IntKind) (a b:Int),eD BinOp.sub k a b=some (D.int k (k.wrap (a - b))):=
 fun k a b=>nd (eD.eq_2 k a b)
theorem FE : ∀ (k:IntKind) (a b:Int),eD BinOp.mul k a b=some (D.int k (k.wrap (a*b))):=
 fun k a b=>nd (eD.eq_3 k a b)
theorem FF : ∀ (k:IntKind) (a b:Int),
 eD BinOp.quo k a b=if b=0 then none else some (D.int k (k.wrap (a.tdiv b))):=
 fun k a b=>nd (eD.eq_4 k a b)
theorem FG : ∀ (k:IntKind) (a b:Int),eD BinOp.rem k a b=if b=0 then none else some (D.int k (a.tmod b)):=
 fun k a b=>nd (eD.eq_5 k a b)
theorem FH : ∀ (k:IntKind) (a b:Int),eD BinOp.eql k a b=some (D.bool (a==b)):=
 fun k a b=>nd (eD.eq_6 k a b)
theorem FI : ∀ (k:IntKind) (a b:Int),eD BinOp.neq k a b=some (D.bool (a != b)):=
 fun k a b=>nd (eD.eq_7 k a b)
theorem FJ : ∀ (k:IntKind) (a b:Int),eD BinOp.lss k a b=some (D.bool (decide (a<b))):=
 fun k a b=>nd (eD.eq_8 k a b)
theorem FK : ∀ (k:IntKind) (a b:Int),eD BinOp.leq k a b=some (D.bool (decide (a≤b))):=
 fun k a b=>nd (eD.eq_9 k a b)
theorem C6 : ∀ (k:IntKind) (a b:Int),eD BinOp.gtr k a b=some (D.bool (decide (a > b))):=
 fun k a b=>nd (eD.eq_10 k a b)
theorem C7 : ∀ (k:IntKind) (a b:Int),eD BinOp.geq k a b=some (D.bool (decide (a≥b))):=
 fun k a b=>nd (eD.eq_11 k a b)
theorem FL : ∀ (a b:List UInt8),
 kD BinOp.add a b=if a.length+b.length≤bt then some (D.str (a++b))else none:=
 fun a b=>nd (kD.eq_1 a b)
theorem FM : ∀ (a b:List UInt8),kD BinOp.eql a b=some (D.bool (a==b)):=
 fun a b=>nd (kD.eq_2 a b)
theorem FN : ∀ (a b:List UInt8),kD BinOp.neq a b=some (D.bool !a==b):=
 fun a b=>nd (kD.eq_3 a b)
theorem FO : ∀ (a b:List UInt8),kD BinOp.lss a b=some (D.bool (bytesLess a b)):=
 fun a b=>nd (kD.eq_4 a b)
theorem NA : ∀ (k:IntKind) (n:Int),Bc UnOp.neg (D.int k n)=some (D.int k (k.wrap (0 - n))):=
 fun k n=>nd (Bc.eq_1 k n)
theorem NB : ∀ (b:Bool),Bc UnOp.not (D.bool b)=some (D.bool !b):=
 fun b=>nd (Bc.eq_2 b)
theorem FP : ∀ (k:IntKind) (a:Int) (k':IntKind) (b:Int),
 jT 0 (D.int k a) (D.int k' b)=if k=k' then some (a==b)else none:=
 fun k a k' b=>nd (jT.eq_1 k a k' b)
theorem FQ : ∀ (a b:Bool),jT 1 (D.bool a) (D.bool b)=some (a==b):=
 fun a b=>nd (jT.eq_2 a b)
theorem FR : ∀ (a b:List UInt8),jT 2 (D.str a) (D.str b)=some (a==b):=
 fun a b=>nd (jT.eq_3 a b)
theorem C8:iJ [] [] [] = some true:=
 nd (iJ.eq_1)
theorem C9 : ∀ (k:Nat) (ks:List Nat) (Mr:D) (xs:List D) (y:D) (ys:List D),
 iJ (k::ks) (Mr::xs) (y::ys) =
  match jT k Mr y with
  | none=>none
  | some true=>iJ ks xs ys
  | some false=>some false:=
 fun k ks Mr xs y ys=>nd (iJ.eq_2 k ks Mr xs y ys)
theorem NC:tY none=some 0:=
 nd (tY.eq_1)
theorem ND : ∀ (k:IntKind) (n:Int),tY (some (D.int k n))=some n:=
 fun k n=>nd (tY.eq_2 k n)
theorem NF : ∀ (len:Nat),tZ none len=some ↑len:=
 fun len=>nd (tZ.eq_1 len)
theorem NG : ∀ (len:Nat) (k:IntKind) (n:Int),tZ (some (D.int k n)) len=some n:=
 fun len k n=>nd (tZ.eq_2 len k n)
theorem Da : ∀ (zero:List D),(AO.alloc zero).core=true:=
 fun zero=>nd (AO.core.eq_1 zero)
theorem Db : ∀ (dR:X),(AO.box dR).core=true:=
 fun dR=>nd (AO.core.eq_2 dR)
theorem Dc : ∀ (zero:List D) (size n:Nat) (parts:List (Nat×X)),(AO.p6 zero size n parts).core=true:=
 fun zero size n parts=>nd (AO.core.eq_3 zero size n parts)
theorem Dd : ∀ (dR:X),(AO.tT dR).core=true:=
 fun dR=>nd (AO.core.eq_4 dR)
theorem De : ∀ (p dR:X) (size:Nat),(AO.store p dR size).core=true:=
 fun p dR size=>nd (AO.core.eq_5 p dR size)
theorem Df : ∀ (size bytes:Nat) (dR y:X),(AO.app size bytes dR y).core=true:=
 fun size bytes dR y=>nd (AO.core.eq_6 size bytes dR y)
theorem Dg : ∀ (val:Nat) (zero:List D),(AI.op (some val) none (AO.alloc zero)).kind=AK.alloc:=
 fun val zero=>nd (AI.kind.eq_1 val zero)
theorem Dh : ∀ (zero:List D),(AO.alloc zero).kind=AK.core:=
 fun zero=>nd (AO.kind.eq_1 zero)
theorem Di : ∀ (dR:X),(AO.box dR).kind=AK.core:=
 fun dR=>nd (AO.kind.eq_2 dR)
theorem Dj : ∀ (zero:List D) (size n:Nat) (parts:List (Nat×X)),(AO.p6 zero size n parts).kind=AK.core:=
 fun zero size n parts=>nd (AO.kind.eq_3 zero size n parts)
theorem Dk : ∀ (dR:X),(AO.tT dR).kind=AK.core:=
 fun dR=>nd (AO.kind.eq_4 dR)
theorem Dl : ∀ (p dR:X) (size:Nat),(AO.store p dR size).kind=AK.core:=
 fun p dR size=>nd (AO.kind.eq_5 p dR size)
theorem Dm : ∀ (size bytes:Nat) (dR y:X),(AO.app size bytes dR y).kind=AK.core:=
 fun size bytes dR y=>nd (AO.kind.eq_6 size bytes dR y)
theorem Dn : ∀ (dR:X) (agg:Bool) (size:Nat),(AO.load dR agg size).kind=AK.load:=
 fun _ _ _=>nd rfl
theorem FT:fa AK.core=true:=
 nd (fa.eq_1)
theorem FU:fa AK.alloc=true:=
 nd (fa.eq_2)
theorem FV : ∀ (i:AI) (tm:Tm) (d:D),kK i tm d [] = True:=
 fun i tm d=>nd (kK.eq_1 i tm d)
theorem FW : ∀ (i:AI) (tm:Tm) (d:D) (s:St) (r:List St),
 kK i tm d (s::r)=(gx i tm s=some d∧kK i tm d r):=
 fun i tm d s r=>nd (kK.eq_2 i tm d s r)
theorem NH : ∀ (tm:Tm) (s:St) (dst:Option Nat) (o:AO),
 gx (AI.op dst none o) tm s=Option.map (fun(x:D×St)=>x.fst) (aK o tm s):=
 fun tm s dst o=>nd (gx.eq_1 tm s dst o)
theorem NK : ∀ (tm:Tm) (s:St) (dst:Option Nat) (t:Nat) (want:Bool) (o:AO),
 gx (AI.op dst (some (t,want)) o) tm s =
  match tm.get t with
  | D.bool b=>if b=want then Option.map (fun(x:D×St)=>x.fst) (aK o tm s)else some (D.tuple [])
  | D.tuple vs=>some (D.tuple [])
  | x=>none:=
 fun tm s dst t want o=>nd (gx.eq_2 tm s dst t want o)
theorem Dp : ∀ (is:List AI),jX is [] = some []:=
 fun is=>nd (jX.eq_1 is)
theorem Dq : ∀ (is:List AI) (q b:Nat) (r:List (Nat×Nat)),
 jX is ((q,b)::r) =
  match is[q]?,jX is r with
  | some ai,some l=>some ((ai,b)::l)
  | x,dR=>none:=
 fun is q b r=>nd (jX.eq_2 is q b r)
theorem NL : ∀ (tm:Tm) (n m:Nat),qO tm n m [] = True:=
 fun tm n m=>nd (qO.eq_1 tm n m)
theorem NM : ∀ (tm:Tm) (n m k:Nat) (d:D) (r:List (Nat×D)),
 qO tm n m ((k,d)::r)=(Wk (D.fg n m (tm.get k)) d∧qO tm n m r):=
 fun tm n m k d r=>nd (qO.eq_2 tm n m k d r)
theorem Ka : ∀ (n m o off:Nat),D.fg n m (D.ptr o off)=if o<n then D.ptr o off else D.junk:=
 fun n m o off=>nd (D.fg.eq_1 n m o off)
theorem Kb : ∀ (n m:Nat) (row:List D) (off:Nat),D.fg n m (D.dc row off)=D.dc (D.fA n m row) off:=
 fun n m row off=>nd (D.fg.eq_2 n m row off)
theorem Kc : ∀ (n m:Nat) (g:Tag) (z:Nat) (rows:List (List D)),
 D.fg n m (D.slice g z rows)=D.slice (Tag.fg m g) z (D.ie n m rows):=
 fun n m g z rows=>nd (D.fg.eq_3 n m g z rows)
theorem Kd : ∀ (n m:Nat) (cs:List D),D.fg n m (D.agg cs)=D.agg (D.fA n m cs):=
 fun n m cs=>nd (D.fg.eq_4 n m cs)
theorem Ke : ∀ (n m:Nat) (ds:List D),D.fg n m (D.tuple ds)=D.tuple (D.fA n m ds):=
 fun n m ds=>nd (D.fg.eq_5 n m ds)
theorem Kf : ∀ (n m:Nat),D.fg n m D.junk=D.junk:=
 fun n m=>nd (D.fg.eq_6 n m)
theorem Kg : ∀ (n m:Nat) (k:IntKind) (dR:Int),D.fg n m (D.int k dR)=D.int k dR:=
 fun n m k dR=>nd (D.fg.eq_7 n m k dR)
theorem Kh : ∀ (n m:Nat) (b:Bool),D.fg n m (D.bool b)=D.bool b:=
 fun n m b=>nd (D.fg.eq_8 n m b)
theorem Ki : ∀ (n m:Nat) (l:List UInt8),D.fg n m (D.str l)=D.str l:=
 fun n m l=>nd (D.fg.eq_9 n m l)
theorem HR : ∀ (n m:Nat),D.fg n m D.ei=D.ei:=
 fun n m=>nd (D.fg.eq_10 n m)
theorem HS : ∀ (n m:Nat),D.fA n m [] = []:=
 fun n m=>nd (D.fA.eq_1 n m)
theorem HT : ∀ (n m:Nat) (d:D) (r:List D),D.fA n m (d::r)=D.fg n m d::D.fA n m r:=
 fun n m d r=>nd (D.fA.eq_2 n m d r)
theorem HU : ∀ (n m:Nat),D.ie n m [] = []:=
 fun n m=>nd (D.ie.eq_1 n m)
theorem HV : ∀ (n m:Nat) (d:List D) (r:List (List D)),D.ie n m (d::r)=D.fA n m d::D.ie n m r:=
 fun n m d r=>nd (D.ie.eq_2 n m d r)
theorem FX : ∀ (m t:Nat) (y:Bool),Tag.fg m (Tag.tok t y)=if t<m then Tag.tok t y else Tag.shared:=
 fun _ _ _=>nd rfl
theorem FY : ∀ (s:St) (n m:Nat),
 s.cut n m = {av:=List.map (D.fA n m) (List.take n s.av),aw:=List.take m s.aw}:=
 fun s n m=>nd (St.cut.eq_1 s n m)
theorem Kj : ∀ (d:D),aB [d] = d:=
 fun d=>nd (aB.eq_1 d)
theorem Kk (size bytes t:Nat) (rows:List (List D)) (g:Tag) (r:List D) (s:St):jC size bytes (.slice (.tok t) size rows) (.slice g size [r]) s =
 if(rows.length+1)*(bytes+1)≤bt∧s.aw[t]? = some (some rows.length)then some (.slice (.tok t) size (rows++ [r]),⟨s.av,s.aw.set t (some (rows.length+1))⟩)else none:=by
 simp only [jC,List.length_singleton]
 by_cases h1:(rows.length+1)*(bytes+1)≤bt <;> by_cases h2:s.aw[t]? = some (some rows.length) <;> simp [h1,h2]
theorem BV {size bytes t:Nat} {rows new:List (List D)} {g:Tag} {s:St} (h1:(rows.length+new.length)*(bytes+1)≤bt) (h2:s.aw[t]? = some (some rows.length)) :
 jC size bytes (.slice (.tok t) size rows) (.slice g size new) s=some (.slice (.tok t) size (rows++new),⟨s.av,s.aw.set t (some (rows.length+new.length))⟩):=by
 cases new with
 | nil=>
  have:s.aw.set t (some rows.length)=s.aw:=by
   apply List.ext_getElem?
   intro i
   rw [List.getElem?_set]
   split
   ·rename_i hi;subst hi;rw [h2,if_pos (List.getElem?_eq_some_iff.1 h2).1]
   ·rfl
  simp only [List.length_nil,Nat.add_zero]at h1
  simp [jC,h1,this]
 | cons x l=>
  simp only [jC,h1,h2]
  simp
theorem HW (size bytes z:Nat) (g:Tag) (r:List D) (s:St):jC size bytes (.slice .full z []) (.slice g size [r]) s =
 if bytes+1≤bt then some (.slice (.tok s.aw.length) size [r],⟨s.av,s.aw++ [some 1]⟩)else none:=by
 simp [jC]
theorem NN {P:Program} {B:fw} {nt:Nat} (ac:AC) (Q:Exit→Tm→St→Prop) (tm:Tm) (s:St):EA P B nt ac Q .normal tm s=Q .normal tm s:=nd rfl
theorem NO {P:Program} {B:fw} {nt:Nat} (ac:AC) (Q:Exit→Tm→St→Prop) (tm:Tm) (s:St):EA P B nt ac Q .ret tm s=Q .ret tm s:=nd rfl
theorem NP {P:Program} {B:fw} {nt:Nat} (ac:AC) (Q:Exit→Tm→St→Prop) (tm:Tm) (s:St) (i:Nat):EA P B nt ac Q (.exit i) tm s=Q (.exit i) tm s:=nd rfl
theorem NQ (m:Nat):Tag.fg m .full = .full:=nd rfl
theorem HX (m:Nat):Tag.fg m .shared = .shared:=nd rfl
theorem Sc {P:Program} (K:Tm→St→Prop) (tm:Tm) (s:St):ij P [] K tm s=K tm s:=nd rfl
theorem s_op {P:Program} (dst:Option Nat) (o:AO) (r:List AI) (K:Tm→St→Prop) (tm:Tm) (s:St) :
 ij P (.op dst none o::r) K tm s=(match aK o tm s with | some (d,s')=>ij P r K (tm.put dst d) s' | none=>False):=nd rfl
def KJ (P:Program) (r:List AI) (K:Tm→St→Prop) (tm:Tm) (dst:Option Nat) (d:D) (s:St):Prop:=ij P r K (tm.put dst d) s
theorem UC {P:Program} (r:List AI) (K:Tm→St→Prop) (tm:Tm) (dst:Option Nat) (d:D) (s:St):KJ P r K tm dst d s=ij P r K (tm.put dst d) s:=nd rfl
theorem s_call {P:Program} (dst:Option Nat) (f:Nat) (xs:List X) (r:List AI) (K:Tm→St→Prop) (tm:Tm) (s:St) :
 ij P (.call dst none f xs::r) K tm s=CL P f (xs.map (·.ev tm)) s (KJ P r K tm dst):=nd rfl
def NJ (P:Program) (dst:Option Nat) (neg:Bool) (x:D) (r:List AI) (K:Tm→St→Prop) (tm:Tm) (s:St):Prop:=
 match x with
 | .slice _ _ rows=>∀ b:Bool,(rows≠ []→b=false)→ij P r K (tm.put dst (.bool (if neg then !b else b))) s
 | _=>False
theorem PA {P:Program} (dst:Option Nat) (neg:Bool) (x:X) (r:List AI) (K:Tm→St→Prop) (tm:Tm) (s:St) :
 ij P (.nil dst none neg x::r) K tm s=NJ P dst neg (x.ev tm) r K tm s:=nd rfl
theorem NR {P:Program} (dst:Option Nat) (neg:Bool) (g:Tag) (z:Nat) (d:List D) (l:List (List D)) (r:List AI) (K:Tm→St→Prop) (tm:Tm) (s:St) :
 NJ P dst neg (.slice g z (d::l)) r K tm s=ij P r K (tm.put dst (.bool neg)) s:=by
 simp only [NJ,ne_eq,reduceCtorEq,not_false_eq_true,true_imp_iff,eq_iff_iff]
 refine⟨fun h=>by have:=h false rfl;cases neg <;> exact this,fun h b hb=> ?_⟩
 subst hb;cases neg <;> exact h
theorem Sd {P:Program} (dst:Option Nat) (t:Nat) (w:Bool) (o:AO) (r:List AI) (K:Tm→St→Prop) (tm:Tm) (s:St) :
 ij P (.op dst (some (t,w)) o::r) K tm s = @GB (tm.get t) w ⟨(ij P (.op dst none o::r) K tm s),(ij P r K (tm.put dst (.tuple [])) s)⟩:=nd rfl
def CV (P:Program) (x:D) (Se:List D) (s:St) (K:D→St→Prop):Prop:=
 match x with
 | .fi f kl=>enters P f=true∧CL P f (Se++kl) s K
 | _=>False
theorem NS {P:Program} (dst:Option Nat) (t:Nat) (xs:List X) (r:List AI) (K:Tm→St→Prop) (tm:Tm) (s:St) :
 ij P (.fX dst none t xs::r) K tm s=CV P (tm.get t) (xs.map (·.ev tm)) s (KJ P r K tm dst):=nd rfl
theorem CV.use {P:Program} {f:Nat} {kl Se:List D} {s s':St} {d:D} {K:D→St→Prop} (he:enters P f=true) (h:aI P f (Se++kl) s d s') (k:K d s'):CV P (.fi f kl) Se s K:=⟨he,d,s',h,k⟩
theorem Kl {P:Program} (dst:Option Nat) (t:Nat) (w:Bool) (u:Nat) (xs:List X) (r:List AI) (K:Tm→St→Prop) (tm:Tm) (s:St) :
 ij P (.fX dst (some (t,w)) u xs::r) K tm s = @GB (tm.get t) w ⟨(ij P (.fX dst none u xs::r) K tm s),(ij P r K (tm.put dst (.tuple [])) s)⟩:=nd rfl
theorem NT {P:Program} (dst:Option Nat) (t:Nat) (w:Bool) (f:Nat) (xs:List X) (r:List AI) (K:Tm→St→Prop) (tm:Tm) (s:St) :
 ij P (.call dst (some (t,w)) f xs::r) K tm s = @GB (tm.get t) w ⟨(ij P (.call dst none f xs::r) K tm s),(ij P r K (tm.put dst (.tuple [])) s)⟩:=nd rfl
theorem PC {P:Program} (dst:Option Nat) (t:Nat) (w:Bool) (neg:Bool) (x:X) (r:List AI) (K:Tm→St→Prop) (tm:Tm) (s:St) :
 ij P (.nil dst (some (t,w)) neg x::r) K tm s = @GB (tm.get t) w ⟨(ij P (.nil dst none neg x::r) K tm s),(ij P r K (tm.put dst (.tuple [])) s)⟩:=nd rfl
theorem UE (b:Bool) (A C:Prop) : @GB (.bool b) true ⟨A,C⟩ = @CB (.bool b) ⟨A,C⟩:=nd rfl
theorem UF (b:Bool) (A C:Prop) : @GB (.bool b) false ⟨A,C⟩ = @CB (.bool b) ⟨C,A⟩:=by
 cases b <;> simp [GB,CB,GJ,pO]
theorem UG (l:List D) (w:Bool) (A C:Prop) : @GB (.tuple l) w ⟨A,C⟩=C:=nd rfl
theorem Sf {P:Program} {K:Tm→St→Prop} (bf:List St) (tm:Tm) (s:St):eJ P K [] bf tm s=K tm s:=nd rfl
def OJ (P:Program) (o:AO) (dst:Option Nat) (b:Nat) (r:List (AI×Nat)) (K:Tm→St→Prop) (bf:List St) (tm:Tm) (s:St):Bool→Prop
 | true=>match aK o tm s with | some (d,s')=>eJ P K r (s::bf) (tm.put dst d) s' | none=>False
 | false=>match aK o tm s with | some (d,_)=>kK (.op dst none o) tm d (bf.take b)∧eJ P K r bf (tm.put dst d) s | none=>False
theorem UI {P:Program} {K:Tm→St→Prop} (dst:Option Nat) (o:AO) (b:Nat) (r:List (AI×Nat)) (bf:List St) (tm:Tm) (s:St) :
 eJ P K ((.op dst none o,b)::r) bf tm s=OJ P o dst b r K bf tm s o.core:=by
 simp only [eJ,jY]
 cases o.core <;> rfl
theorem UJ {P:Program} (o:AO) (dst:Option Nat) (b:Nat) (r:List (AI×Nat)) (K:Tm→St→Prop) (bf:List St) (tm:Tm) (s:St) :
 OJ P o dst b r K bf tm s true=match aK o tm s with | some (d,s')=>eJ P K r (s::bf) (tm.put dst d) s' | none=>False:=nd rfl
theorem UK {P:Program} (o:AO) (dst:Option Nat) (b:Nat) (r:List (AI×Nat)) (K:Tm→St→Prop) (bf:List St) (tm:Tm) (s:St) :
 OJ P o dst b r K bf tm s false=match aK o tm s with | some (d,_)=>kK (.op dst none o) tm d (bf.take b)∧eJ P K r bf (tm.put dst d) s | none=>False:=nd rfl
theorem Sg {P:Program} {K:Tm→St→Prop} (dst:Option Nat) (t:Nat) (w:Bool) (o:AO) (b:Nat) (r:List (AI×Nat)) (bf:List St) (tm:Tm) (s:St) :
 eJ P K ((.op dst (some (t,w)) o,b)::r) bf tm s = @GB (tm.get t) w ⟨(eJ P K ((.op dst none o,b)::r) bf tm s),(eJ P K r (if o.core then s::bf else bf) (tm.put dst (.tuple [])) s)⟩:=by
 simp only [GB,eJ,jY]
 cases o.core <;> rfl
def KG (P:Program) (K:Tm→St→Prop) (r:List (AI×Nat)) (bf:List St) (tm:Tm) (dst:Option Nat) (d:D) (s:St):Prop:=eJ P K r bf (tm.put dst d) s
theorem UL {P:Program} (K:Tm→St→Prop) (r:List (AI×Nat)) (bf:List St) (tm:Tm) (dst:Option Nat) (d:D) (s:St):KG P K r bf tm dst d s=eJ P K r bf (tm.put dst d) s:=nd rfl
theorem g_call {P:Program} {K:Tm→St→Prop} (dst:Option Nat) (f:Nat) (xs:List X) (b:Nat) (r:List (AI×Nat)) (bf:List St) (tm:Tm) (s:St) :
 eJ P K ((.call dst none f xs,b)::r) bf tm s=CL P f (xs.map (·.ev tm)) s (KG P K r (s::bf) tm dst):=nd rfl
theorem NU {P:Program} {K:Tm→St→Prop} (dst:Option Nat) (t:Nat) (w:Bool) (f:Nat) (xs:List X) (b:Nat) (r:List (AI×Nat)) (bf:List St) (tm:Tm) (s:St) :
 eJ P K ((.call dst (some (t,w)) f xs,b)::r) bf tm s = @GB (tm.get t) w ⟨(eJ P K ((.call dst none f xs,b)::r) bf tm s),(eJ P K r (s::bf) (tm.put dst (.tuple [])) s)⟩:=nd rfl
class Ok (p:Prop):Prop where
 out:p
instance:Ok True:=⟨trivial⟩
instance {p q:Prop} [Ok p] [Ok q] : Ok (p∧q):=⟨⟨Ok.out,Ok.out⟩⟩
instance {α:Type} (a:α):Ok (a=a):=⟨rfl⟩
instance (d:D):Ok (Wk d .junk):=⟨Wk.junk d⟩
instance {l l':List D} [Ok (jW l l')] : Ok (Wk (.tuple l) (.tuple l')):=⟨Wk.tuple Ok.out⟩
instance {l l':List D} [Ok (jW l l')] : Ok (Wk (.agg l) (.agg l')):=⟨Wk.agg Ok.out⟩
instance {g:Tag} {z:Nat} {l l':List (List D)} [Ok (fS l l')] : Ok (Wk (.slice g z l) (.slice g z l')):=⟨Wk.rows Ok.out⟩
instance {g:Tag} {z:Nat} {l l':List (List D)} [Ok (fS l l')] : Ok (Wk (.slice g z l) (.slice .shared z l')):=⟨Wk.slice Ok.out⟩
instance (z z':Nat):Ok (Wk (.slice .full z []) (.slice .full z' [])):=⟨Wk.Us z z'⟩
instance (g:Tag) (z z':Nat):Ok (Wk (.slice g z []) (.slice .shared z' [])):=⟨Wk.nil g z z'⟩
instance (d:D):Ok (Wk d d):=⟨Wk.refl d⟩
instance:Ok (jW [] []):=⟨.nil⟩
instance {d d':D} {l l':List D} [Ok (Wk d d')] [Ok (jW l l')] : Ok (jW (d::l) (d'::l')):=⟨.cons Ok.out Ok.out⟩
instance (l:List D):Ok (jW l l):=⟨jW.refl l⟩
instance:Ok (fS [] []):=⟨.nil⟩
instance {d d':List D} {l l':List (List D)} [Ok (jW d d')] [Ok (fS l l')] : Ok (fS (d::l) (d'::l')):=⟨.cons Ok.out Ok.out⟩
instance {a a' b b':List (List D)} [Ok (fS a a')] [Ok (fS b b')] : Ok (fS (a++b) (a'++b')):=⟨fS.append Ok.out Ok.out⟩
instance (l:List (List D)):Ok (fS l l):=⟨fS.refl l⟩
theorem bs:(∀ b,(true || b)=true)∧(∀ b,(false || b)=b)∧(∀ b,(b || true)=true)∧(∀ b,(b || false)=b)∧(∀ b,(true && b)=b)∧(∀ b,(false && b)=false)∧(∀ b,(b && true)=b)∧(∀ b,(b && false)=false)∧
 (!true)=false∧(!false)=true∧(∀ b,(!!b)=b)∧((false=true)=False)∧(∀ (α β:Type) (a:α) (f:α→Option β),(some a).bind f=f a)∧
 (∀ (α β γ:Type) (x:Option α) (f:α→Option β) (g:β→Option γ),(x.bind f).bind g=x.bind fun y=>(f y).bind g):=
 ⟨Bool.true_or,Bool.false_or,Bool.or_true,Bool.or_false,Bool.true_and,Bool.false_and,Bool.and_true,Bool.and_false,rfl,rfl,Bool.not_not,by simp,fun _ _ _ _=>rfl,fun _ _ _ x f g=>Option.bind_assoc x f g⟩
attribute [go_sem] Px Uz UA Sc s_op UC s_call PA NR Sd NT PC UE UF UG Sf UI UJ UK Sg UL g_call NU AO.core AI.kind AO.kind fa
attribute [go_sem] NS Kl Fl Fm Fo Fp BJ BK BL BM HJ HK Fq Nq JS
attribute [go_sem] Fk BN Fh Fi Fj BO BP BQ HL HM Np Hu Nk JP Nl JQ Nn JR Ht No JT ER JU
attribute [go_sem] Hz HA HC HD HE HF HG HH HI EV EW EX EY EZ E0 E1 E2 E3 E4 E5 E6 E7 E8 E9 Fa Fb Fc Fe Ff Fg J4 J5 Fs Ft Fu Fv Fw Fx HN HO Fy Fz FA J6 J7 FB HP HQ BR BS BT BU J8 J9 FC FD FE FF FG FH FI FJ FK C6 C7 FL FM FN FO NA NB FP FQ FR C8 C9 NC ND NF NG Da Db Dc Dd De Df Dg Dh Di Dj Dk Dl Dm Dn FT FU FV FW NH NK Dp Dq NL NM Ka Kb Kc Kd Ke Kf Kg Kh Ki HR HS HT HU HV FX FY Kj Kk HW NQ HX NN NO NP
attribute [go_sem] List.map_cons List.map_nil List.getElem?_cons_zero List.getElem?_cons_succ List.length_cons List.length_nil List.set_cons_zero List.set_cons_succ List.take_succ_cons List.take_zero List.take_nil List.drop_succ_cons List.drop_zero List.drop_nil List.cons_append List.nil_append List.append_nil Nat.zero_add Nat.add_zero Option.map_some Option.map_none
attribute [go_sem] Bool.not_false Bool.not_true List.length_map List.getElem?_map Int.toNat_natCast Int.natCast_nonneg Int.toNat_zero and_self and_true true_and
attribute [go_sem_proc ↓] reduceIte
attribute [go_sem_proc] Int.reduceLE reduceCtorEq Nat.reduceEqDiff Nat.reduceLeDiff Nat.reduceAdd Nat.reduceMul Nat.reduceSub Nat.reduceLT
theorem cm {b:Bool} {A C:Prop} (h1:b=true→A) (h:b=true:=by assumption) : @CB (.bool b) ⟨A,C⟩:=Py h h1
theorem cq {b:Bool} {A C:Prop} (h1:b=false→C) (h:b=false:=by assumption) : @CB (.bool b) ⟨A,C⟩:=Pz h h1
theorem cr {b:Bool} {A C:Prop} (h1:b=true→A) (h2:b=false→C) : @CB (.bool b) ⟨A,C⟩:=⟨h1,h2⟩
theorem aR {a b:Prop} (x:a) (y:b):a∧b:=⟨x,y⟩
theorem cY {α:Type _} (a b:α):(some a=some b)=(a=b):=Option.some.injEq a b
theorem cZ {α:Sort _} {p:α→Prop} {a:α} : (∃ x,a=x∧p x)↔p a:=exists_eq_left'
theorem vX {n m:Nat} (h:Nat.ble n m=true):n≤m:=Nat.le_of_ble_eq_true h
theorem aJ {n m:Nat} {res:List (Nat×Option (Bool×Nat))} {d:D} {s':St} {e:Exit} {tm:Tm} {s:St} {Q:Exit→Tm→St→Prop} (hQ:n6 n m res d s'=Q) (h : ∃ l,az res tm s=some l∧Wk ((aB l).fg n m) d∧fS (s.cut n m).av s'.av∧(s.cut n m).aw=s'.aw) (he:e = .ret∨e = .normal:=by first | exact .inl rfl | exact .inr rfl):Q e tm s:=by cases he with | inl x=>cases x;exact R9 hQ h | inr x=>cases x;exact Sb hQ h
theorem iD {p:Prop} (h:p:=by repeat' (first | exact Ok.out | with_reducible refine aR ?_ ?_ | (simp;done))):p:=h
theorem br {p:Prop} (h:p:=by repeat' (first | exact Ok.out | with_reducible refine aR ?_ ?_)):p:=h
theorem ik {p:Prop} (h:p:=by(try cases h);simp only [az,aB,cY,cZ,go_sem,hD,hJ,hP,hZ];repeat' (first | exact Ok.out | with_reducible refine aR ?_ ?_ | (simp;done))):p:=h
theorem TK {p:Prop} (h:p:=by simp only [go_sem,hD,hJ,hP,hZ];repeat' (first | exact Ok.out | with_reducible refine aR ?_ ?_)):p:=h
theorem dG {P:Program} {B:fw} {nt:Nat} {a:AC} {Q:Exit→Tm→St→Prop} {tm bm:Tm} {s:St} {jQ:List (List D)} (n m:Nat) (h:bq P B nt a Q bm ⟨jQ,(s.cut n m).aw⟩) (hn:B.s.av.length≤n:=by rw [hB];exact vX rfl) (hm:B.s.aw.length≤m:=by rw [hB];exact vX rfl) (ht:qO tm n m bm:=by exact TK) (ho:fS (s.cut n m).av jQ:=by exact TK):bq P B nt a Q tm s:=bq.re bm jQ n m hn hm ht ho h
theorem dt {P:Program} {B:fw} {nt:Nat} {a:AC} {Q:Exit→Tm→St→Prop} {tm bm:Tm} {s:St} {jQ:List (List D)} (n m:Nat) (ht:qO tm n m bm) (ho:fS (s.cut n m).av jQ) (h:bq P B nt a Q bm ⟨jQ,(s.cut n m).aw⟩) (hn:B.s.av.length≤n:=by rw [hB];exact vX rfl) (hm:B.s.aw.length≤m:=by rw [hB];exact vX rfl):bq P B nt a Q tm s:=bq.re bm jQ n m hn hm ht ho h
theorem b7:0<1∧0<1∧0<1∧0<1:=⟨Nat.zero_lt_one,Nat.zero_lt_one,Nat.zero_lt_one,Nat.zero_lt_one⟩
end Go.Abs

/-! Types -/

namespace Go.Abs
mutual
theorem FZ (n m:Nat) : ∀ d,D.ok 0 0 d=true→D.fg n m d=d
 | .junk,_=>by simp [D.fg]
 | .int k n,_=>by simp [D.fg]
 | .bool b,_=>by simp [D.fg]
 | .str l,_=>by simp [D.fg]
 | .ei,_=>by simp [D.fg]
 | .val v,_=>by simp [D.fg]
 | .eo T o,h=>by simp [D.ok]at h
 | .ff o,h=>by simp [D.ok]at h
 | .fi f cs,h=>by
  simp only [D.ok]at h
  simp only [D.fg,fH n m cs h]
 | .ptr o f,h=>by simp [D.ok]at h
 | .dc r f,h=>by
  simp only [D.ok]at h
  simp only [D.fg,fH n m r h]
 | .slice g z rows,h=>by
  simp only [D.ok,Bool.and_eq_true]at h
  simp only [D.fg,BW n m rows h.2]
  cases g with
  | tok t y=>simp [Tag.ok]at h
  | full=>rfl
  | shared=>rfl
 | .agg cs,h=>by
  simp only [D.ok]at h
  simp only [D.fg,fH n m cs h]
 | .tuple cs,h=>by
  simp only [D.ok]at h
  simp only [D.fg,fH n m cs h]
theorem fH (n m:Nat) : ∀ l,D.bI 0 0 l=true→D.fA n m l=l
 | [],_=>by simp [D.fA]
 | d::r,h=>by
  simp only [D.bI,Bool.and_eq_true]at h
  simp only [D.fA,FZ n m d h.1,fH n m r h.2]
theorem BW (n m:Nat) : ∀ l,D.ig 0 0 l=true→D.ie n m l=l
 | [],_=>by simp [D.ie]
 | d::r,h=>by
  simp only [D.ig,Bool.and_eq_true]at h
  simp only [D.ie,fH n m d h.1,BW n m r h.2]
end
theorem fy {α:Type} {f:α→List D} (h : ∀ x,D.bI 0 0 (f x)=true) (l:List α):D.ig 0 0 (l.map f)=true:=by
 simp [Bv,h]
theorem jZ {α:Type} {f:α→List D} (h : ∀ x,D.bI 0 0 (f x)=true) (n m:Nat) (l:List α):D.ie n m (l.map f)=l.map f:=BW n m _ (fy h l)
theorem DP (n m:Nat) : ∀ a b,D.ie n m (a++b)=D.ie n m a++D.ie n m b
 | [],b=>by simp [D.ie]
 | x::a,b=>by simp [D.ie,DP n m a b]
abbrev aD:=List UInt8
structure me where
 kind:Int
 text:aD
 n:Int
 pos:Int
deriving DecidableEq
structure Ex where
 op:Int
 n:Int
 name:aD
 kids:List Ex
structure Ar where
 ref:Bool
 name:aD
 x:Ex
structure Sm where
 id:Int
 kind:Int
 labels:List aD
 name:aD
 proc:aD
 x:Ex
 has:Bool
 args:List Ar
 aY:List Sm
 aM:List Sm
structure Pm where
 name:aD
 ref:Bool
structure Pc where
 name:aD
 params:List Pm
 vars:List aD
 body:List Sm
 fin:List aD
structure Pg where
 globals:List aD
 procs:List Pc
def mM:Ex:=⟨0,0,[],[]⟩
def Xr:Ar:=⟨false,[],mM⟩
def BX:Sm:=⟨0,0,[],[],[],mM,false,[],[],[]⟩
def DQ:Pg:=⟨[],[]⟩
def encStr (s:aD):List D:= [.str s]
def gy (t:me):List D:= [.int .i64 t.kind, .str t.text, .int .i64 t.n, .int .i64 t.pos]
def sl (z:Nat) (rows:List (List D)):D:= .slice .shared z rows
mutual
def bx:Ex→List D
 | ⟨op,n,name,kids⟩=> [.int .i64 op, .int .i64 n, .str name, .slice .shared 4 (qf kids)]
def qf:List Ex→List (List D)
 | []=> []
 | x::l=>bx x::qf l
end
theorem zE : ∀ l,qf l=l.map bx
 | []=>by simp [qf]
 | x::l=>by simp [qf,zE l]
theorem fq (x:Ex):bx x = [.int .i64 x.op, .int .i64 x.n, .str x.name, .slice .shared 4 (x.kids.map bx)]:=by
 cases x;simp [bx,zE]
def dh (a:Ar):List D:= [.bool a.ref, .str a.name, .int .i64 a.x.op, .int .i64 a.x.n, .str a.x.name, .slice .shared 4 (a.x.kids.map bx)]
mutual
def a7:Sm→List D
 | ⟨id,kind,labels,name,proc,x,has,args,aY,aM⟩=> [.int .i64 id, .int .i64 kind, .slice .shared 1 (labels.map encStr), .str name, .str proc,
  .int .i64 x.op, .int .i64 x.n, .str x.name, .slice .shared 4 (x.kids.map bx), .bool has, .slice .shared 6 (args.map dh), .slice .shared 13 (oQ aY), .slice .shared 13 (oQ aM)]
def oQ:List Sm→List (List D)
 | []=> []
 | x::l=>a7 x::oQ l
end
theorem zF : ∀ l,oQ l=l.map a7
 | []=>by simp [oQ]
 | x::l=>by simp [oQ,zF l]
theorem bJ (s:Sm):a7 s = [.int .i64 s.id, .int .i64 s.kind, .slice .shared 1 (s.labels.map encStr), .str s.name, .str s.proc,
 .int .i64 s.x.op, .int .i64 s.x.n, .str s.x.name, .slice .shared 4 (s.x.kids.map bx), .bool s.has, .slice .shared 6 (s.args.map dh), .slice .shared 13 (s.aY.map a7), .slice .shared 13 (s.aM.map a7)]:=by
 cases s;simp [a7,zF]
def fz (p:Pm):List D:= [.str p.name, .bool p.ref]
def bT (p:Pc):List D:= [.str p.name, .slice .shared 2 (p.params.map fz), .slice .shared 1 (p.vars.map encStr), .slice .shared 13 (p.body.map a7), .slice .shared 1 (p.fin.map encStr)]
def bP (p:Pg):List D:= [.slice .shared 1 (p.globals.map encStr), .slice .shared 5 (p.procs.map bT)]
theorem PD (x:me):(gy x).length=4:=nd rfl
theorem NV (x:me):List.take 4 (gy x)=gy x:=nd rfl
theorem NW (x:me):List.drop 4 (gy x) = []:=nd rfl
theorem HY (x:me):(gy x)[0]? = some (.int .i64 x.kind):=nd rfl
theorem HZ (x:me):(gy x)[1]? = some (.str x.text):=nd rfl
theorem H0 (x:me):(gy x)[2]? = some (.int .i64 x.n):=nd rfl
theorem H2 (x:me):(gy x)[3]? = some (.int .i64 x.pos):=nd rfl
theorem Si (xv:Int) (Ms:aD) (n_:Int) (PF:Int):gy ⟨xv,Ms,n_,PF⟩ = [.int .i64 xv, .str Ms, .int .i64 n_, .int .i64 PF]:=by simp only [gy]
theorem Mt (x:Ex):(bx x).length=4:=by simp only [fq];rfl
theorem PG (x:Ex):List.take 4 (bx x)=bx x:=by simp only [fq];rfl
theorem PH (x:Ex):List.drop 4 (bx x) = []:=by simp only [fq];rfl
theorem Km (x:Ex):(bx x)[0]? = some (.int .i64 x.op):=by simp only [fq];rfl
theorem Kn (x:Ex):(bx x)[1]? = some (.int .i64 x.n):=by simp only [fq];rfl
theorem Ko (x:Ex):(bx x)[2]? = some (.str x.name):=by simp only [fq];rfl
theorem Kp (x:Ex):(bx x)[3]? = some (.slice .shared 4 (x.kids.map bx)):=by simp only [fq];rfl
theorem UM (TL:Int) (n_:Int) (lb:aD) (Mu:List Ex):bx ⟨TL,n_,lb,Mu⟩ = [.int .i64 TL, .int .i64 n_, .str lb, .slice .shared 4 (Mu.map bx)]:=by simp only [fq]
theorem Sj (x:Ar):(dh x).length=6:=nd rfl
theorem PI (x:Ar):List.take 6 (dh x)=dh x:=nd rfl
theorem PJ (x:Ar):List.drop 6 (dh x) = []:=nd rfl
theorem Kq (x:Ar):(dh x)[0]? = some (.bool x.ref):=nd rfl
theorem Kr (x:Ar):(dh x)[1]? = some (.str x.name):=nd rfl
theorem Ks (x:Ar):(dh x)[2]? = some (.int .i64 x.x.op):=nd rfl
theorem Kt (x:Ar):(dh x)[3]? = some (.int .i64 x.x.n):=nd rfl
theorem Ku (x:Ar):(dh x)[4]? = some (.str x.x.name):=nd rfl
theorem Kv (x:Ar):(dh x)[5]? = some (.slice .shared 4 (x.x.kids.map bx)):=nd rfl
theorem Kw (x:Ar):List.take 4 (List.drop 2 (dh x))=bx x.x:=by simp only [dh,fq];rfl
theorem UN (BY:Bool) (lb:aD) (x_:Ex):dh ⟨BY,lb,x_⟩ = [.bool BY, .str lb, .int .i64 x_.op, .int .i64 x_.n, .str x_.name, .slice .shared 4 (x_.kids.map bx)]:=by simp only [dh]
theorem AZ (x:Sm):(a7 x).length=13:=by simp only [bJ];rfl
theorem PK (x:Sm):List.take 13 (a7 x)=a7 x:=by simp only [bJ];rfl
theorem PN (x:Sm):List.drop 13 (a7 x) = []:=by simp only [bJ];rfl
theorem Kx (x:Sm):(a7 x)[0]? = some (.int .i64 x.id):=by simp only [bJ];rfl
theorem Ky (x:Sm):(a7 x)[1]? = some (.int .i64 x.kind):=by simp only [bJ];rfl
theorem Kz (x:Sm):(a7 x)[2]? = some (.slice .shared 1 (x.labels.map encStr)):=by simp only [bJ];rfl
theorem KA (x:Sm):(a7 x)[3]? = some (.str x.name):=by simp only [bJ];rfl
theorem KB (x:Sm):(a7 x)[4]? = some (.str x.proc):=by simp only [bJ];rfl
theorem KD (x:Sm):(a7 x)[5]? = some (.int .i64 x.x.op):=by simp only [bJ];rfl
theorem KE (x:Sm):(a7 x)[6]? = some (.int .i64 x.x.n):=by simp only [bJ];rfl
theorem KF (x:Sm):(a7 x)[7]? = some (.str x.x.name):=by simp only [bJ];rfl
theorem KH (x:Sm):(a7 x)[8]? = some (.slice .shared 4 (x.x.kids.map bx)):=by simp only [bJ];rfl
theorem KI (x:Sm):(a7 x)[9]? = some (.bool x.has):=by simp only [bJ];rfl
theorem H3 (x:Sm):(a7 x)[10]? = some (.slice .shared 6 (x.args.map dh)):=by simp only [bJ];rfl
theorem H4 (x:Sm):(a7 x)[11]? = some (.slice .shared 13 (x.aY.map a7)):=by simp only [bJ];rfl
theorem H5 (x:Sm):(a7 x)[12]? = some (.slice .shared 13 (x.aM.map a7)):=by simp only [bJ];rfl
theorem KK (x:Sm):List.take 4 (List.drop 5 (a7 x))=bx x.x:=by simp only [bJ,fq];rfl
theorem UO (TN:Int) (xv:Int) (DR:List aD) (lb:aD) (Mv:aD) (x_:Ex) (PO:Bool) (Mw:List Ar) (PQ:List Sm) (PR:List Sm):a7 ⟨TN,xv,DR,lb,Mv,x_,PO,Mw,PQ,PR⟩ = [.int .i64 TN, .int .i64 xv, .slice .shared 1 (DR.map encStr), .str lb, .str Mv, .int .i64 x_.op, .int .i64 x_.n, .str x_.name, .slice .shared 4 (x_.kids.map bx), .bool PO, .slice .shared 6 (Mw.map dh), .slice .shared 13 (PQ.map a7), .slice .shared 13 (PR.map a7)]:=by simp only [bJ]
theorem Sk (x:Pm):(fz x).length=2:=nd rfl
theorem PS (x:Pm):List.take 2 (fz x)=fz x:=nd rfl
theorem PT (x:Pm):List.drop 2 (fz x) = []:=nd rfl
theorem KM (x:Pm):(fz x)[0]? = some (.str x.name):=nd rfl
theorem KN (x:Pm):(fz x)[1]? = some (.bool x.ref):=nd rfl
theorem UP (lb:aD) (BY:Bool):fz ⟨lb,BY⟩ = [.str lb, .bool BY]:=by simp only [fz]
theorem Sl (x:Pc):(bT x).length=5:=nd rfl
theorem PU (x:Pc):List.take 5 (bT x)=bT x:=nd rfl
theorem PV (x:Pc):List.drop 5 (bT x) = []:=nd rfl
theorem KO (x:Pc):(bT x)[0]? = some (.str x.name):=nd rfl
theorem KP (x:Pc):(bT x)[1]? = some (.slice .shared 2 (x.params.map fz)):=nd rfl
theorem KQ (x:Pc):(bT x)[2]? = some (.slice .shared 1 (x.vars.map encStr)):=nd rfl
theorem KR (x:Pc):(bT x)[3]? = some (.slice .shared 13 (x.body.map a7)):=nd rfl
theorem KS (x:Pc):(bT x)[4]? = some (.slice .shared 1 (x.fin.map encStr)):=nd rfl
theorem UQ (lb:aD) (DS:List Pm) (Mx:List aD) (My:List Sm) (PW:List aD):bT ⟨lb,DS,Mx,My,PW⟩ = [.str lb, .slice .shared 2 (DS.map fz), .slice .shared 1 (Mx.map encStr), .slice .shared 13 (My.map a7), .slice .shared 1 (PW.map encStr)]:=by simp only [bT]
theorem Sn (x:Pg):(bP x).length=2:=nd rfl
theorem PX (x:Pg):List.take 2 (bP x)=bP x:=nd rfl
theorem PY (x:Pg):List.drop 2 (bP x) = []:=nd rfl
theorem KT (x:Pg):(bP x)[0]? = some (.slice .shared 1 (x.globals.map encStr)):=nd rfl
theorem KU (x:Pg):(bP x)[1]? = some (.slice .shared 5 (x.procs.map bT)):=nd rfl
theorem UR (B0:List aD) (H6:List Pc):bP ⟨B0,H6⟩ = [.slice .shared 1 (B0.map encStr), .slice .shared 5 (H6.map bT)]:=by simp only [bP]
attribute [go_sem] PD NV NW HY HZ H0 H2 Si Mt PG PH Km Kn Ko Kp UM Sj PI PJ Kq Kr Ks Kt Ku Kv Kw UN AZ PK PN Kx Ky Kz KA KB KD KE KF KH KI H3 H4 H5 KK UO Sk PS PT KM KN UP Sl PU PV KO KP KQ KR KS UQ Sn PX PY KT KU UR
theorem xw (s:aD):D.bI 0 0 (encStr s)=true:=rfl
theorem Mz (t:me):D.bI 0 0 (gy t)=true:=rfl
mutual
theorem jg : ∀ x,D.bI 0 0 (bx x)=true
 | ⟨op,n,name,kids⟩=>by simp [bx,D.bI,D.ok,Tag.ok,MA kids]
theorem MA : ∀ l,D.ig 0 0 (qf l)=true
 | []=>rfl
 | x::l=>by simp [qf,D.ig,jg x,MA l]
end
theorem F0 (a:Ar):D.bI 0 0 (dh a)=true:=by simp [dh,D.bI,D.ok,Tag.ok,fy jg]
mutual
theorem kq : ∀ x,D.bI 0 0 (a7 x)=true
 | ⟨id,kind,labels,name,proc,x,has,args,aY,aM⟩=>by simp [a7,D.bI,D.ok,Tag.ok,F1 aY,F1 aM,fy xw,fy jg,fy F0]
theorem F1 : ∀ l,D.ig 0 0 (oQ l)=true
 | []=>rfl
 | x::l=>by simp [oQ,D.ig,kq x,F1 l]
end
theorem F2 (p:Pm):D.bI 0 0 (fz p)=true:=rfl
theorem uD (p:Pc):D.bI 0 0 (bT p)=true:=by simp [bT,D.bI,D.ok,Tag.ok,fy F2,fy xw,fy kq]
theorem iU (p:Pg):D.bI 0 0 (bP p)=true:=by simp [bP,D.bI,D.ok,Tag.ok,fy xw,fy uD]
theorem PZ (n m:Nat) (x:me):D.fA n m (gy x)=gy x:=fH n m _ (Mz x)
theorem Sp (n m:Nat) (x:Ex):D.fA n m (bx x)=bx x:=fH n m _ (jg x)
theorem Sq (n m:Nat) (x:Ar):D.fA n m (dh x)=dh x:=fH n m _ (F0 x)
theorem Sr (n m:Nat) (x:Sm):D.fA n m (a7 x)=a7 x:=fH n m _ (kq x)
theorem Ss (n m:Nat) (x:Pm):D.fA n m (fz x)=fz x:=fH n m _ (F2 x)
theorem Sv (n m:Nat) (x:Pc):D.fA n m (bT x)=bT x:=fH n m _ (uD x)
theorem Sw (n m:Nat) (x:Pg):D.fA n m (bP x)=bP x:=fH n m _ (iU x)
attribute [go_sem] PZ Sp Sq Sr Ss Sv Sw
theorem fc (l:List aD):D.ig 0 0 (l.map encStr)=true:=fy xw l
theorem MB (l:List Ex):D.ig 0 0 (l.map bx)=true:=fy jg l
theorem A0 (l:List Ar):D.ig 0 0 (l.map dh)=true:=fy F0 l
theorem nh (l:List Sm):D.ig 0 0 (l.map a7)=true:=fy kq l
theorem Sx (l:List Pm):D.ig 0 0 (l.map fz)=true:=fy F2 l
theorem A1 (l:List Pc):D.ig 0 0 (l.map bT)=true:=fy uD l
theorem B1 (n m:Nat) (l:List aD):D.ie n m (l.map encStr)=l.map encStr:=jZ xw n m l
theorem P0 (n m:Nat) (l:List me):D.ie n m (l.map gy)=l.map gy:=jZ Mz n m l
theorem Sy (n m:Nat) (l:List Ex):D.ie n m (l.map bx)=l.map bx:=jZ jg n m l
theorem Sz (n m:Nat) (l:List Ar):D.ie n m (l.map dh)=l.map dh:=jZ F0 n m l
theorem SA (n m:Nat) (l:List Sm):D.ie n m (l.map a7)=l.map a7:=jZ kq n m l
theorem SB (n m:Nat) (l:List Pm):D.ie n m (l.map fz)=l.map fz:=jZ F2 n m l
theorem MC (n m:Nat) (l:List Pc):D.ie n m (l.map bT)=l.map bT:=jZ uD n m l
theorem P3 (x:Ex) (r:List D):bx x++r = .int .i64 x.op:: .int .i64 x.n:: .str x.name:: .slice .shared 4 (x.kids.map bx)::r:=by rw [fq];rfl
theorem NY (d:D) (x:Ex):d::bx x = [d, .int .i64 x.op, .int .i64 x.n, .str x.name, .slice .shared 4 (x.kids.map bx)]:=by rw [fq]
attribute [go_sem] P3 NY
theorem SC:((0:Nat):Int)=0:=nd rfl
theorem SD:((1:Nat):Int)=1:=nd rfl
theorem SE:((2:Nat):Int)=2:=nd rfl
attribute [go_sem] SC SD SE DP List.length_append List.map_append encStr mM Xr BX DQ B1 P0 Sy Sz SA SB MC
theorem mx (a b:Nat):(if(b:Int) > (a:Int)then(b:Int)else(a:Int))=((max a b:Nat):Int):=by split <;> omega
theorem dk {x:Int} (h1 : -9223372036854775808≤x) (h2:x<9223372036854775808):IntKind.wrap .i64 x=x:=by
 rw [IntKind.wrap_i64];omega
@[go_sem] theorem aF {n:Nat} (h:n<4611686018427387904):IntKind.wrap .i64 ((n:Int)+1)=((n+1:Nat):Int):=by
 rw [dk] <;> omega
def inc (n:Nat):Option Nat:=if n<4611686018427387904 then some (n+1)else none
def US (n:Int):Option Int:=if -4611686018427387904<n∧n<4611686018427387904 then some (n+1)else none
@[go_sem] theorem TO {n:Nat} (h:n+1<4611686018427387904):IntKind.wrap .i64 ((n:Int)+1)=((n+1:Nat):Int):=by
 rw [dk] <;> omega
@[go_sem] theorem TP {n:Nat} (h:n<4611686018427387904):IntKind.wrap .i64 ((n:Int)+2)=((n+2:Nat):Int):=by
 rw [dk] <;> omega
def P4 {α:Type} (l:List α) (i:Nat):Option α:=if i<4611686018427387904 then l[i]? else none
def push {α:Type} (k:Nat) (l:List α) (x:α):Option (List α):=if(l.length+1)*k≤bt then some (l++ [x])else none
end Go.Abs

/-! Mir -/

namespace Go.Abs
mutual
def Ex.size:Ex→Nat
 | ⟨_,_,_,kids⟩=>1+Ex.aO kids
def Ex.aO:List Ex→Nat
 | []=>0
 | x::l=>1+x.size+Ex.aO l
end
mutual
def Ex.depth:Ex→Nat
 | ⟨_,_,_,kids⟩=>Ex.mf kids+1
def Ex.mf:List Ex→Nat
 | []=>0
 | x::l=>max x.depth (Ex.mf l)
end
def P5 (x:Ex):Option Int:=if x.size<4611686018427387904 then some (x.depth:Int)else none
theorem Ex.bW {x:Ex} : ∀ {l:List Ex},x∈l→x.size<Ex.aO l
 | y::l,h=>by
  simp only [Ex.aO]
  rcases List.mem_cons.1 h with rfl | h
  ·omega
  ·have:=Ex.bW h;omega
theorem Ex.cH : ∀ (l:List Ex),l.length≤Ex.aO l
 | []=>Nat.le_refl _
 | x::l=>by simp only [Ex.aO,List.length_cons];have:=Ex.cH l;omega
def F3 (t:me):Int×Int:=
 if t.kind != 4 then(0,0)
 else if t.text == [124,124]then(17,1)
 else if t.text == [38,38]then(16,2)
 else if t.text == [61,61]then(14,3)
 else if t.text == [33,61]then(15,3)
 else if t.text == [60]then(10,4)
 else if t.text == [60,61]then(11,4)
 else if t.text == [62]then(12,4)
 else if t.text == [62,61]then(13,4)
 else if t.text == [43]then(8,5)
 else if t.text == [45]then(9,5)
 else if t.text == [42]then(5,6)
 else if t.text == [47]then(6,6)
 else if t.text == [37]then(7,6)
 else(0,0)
structure Rd where
 l:List me
 i:Nat
 code:Int
 B2:Int
 n:Nat
abbrev Rd.good (r:Rd):Bool:=r.code==0
def Rd.qg (r:Rd):Option me:=(P4 r.l r.i).bind fun t=>if decide (0≤t.kind) && decide (t.kind≤4)then some t else none
def Rd.bad (c:Int) (r:Rd):Option Rd:=if r.good then r.qg.bind fun t=>some {r with code:=c,B2:=t.pos}else some r
def Rd.is (text:aD) (r:Rd):Option Bool:=r.qg.bind fun t=>some ((t.kind==3 || t.kind==4) && t.text==text)
def Rd.take (text:aD) (r:Rd):Option (Bool×Rd):=
 if !r.good then some (false,r)else(r.is text).bind fun b=>if !b then some (false,r)else some (true,{r with i:=r.i+1})
def Rd.want (text:aD) (r:Rd):Option Rd:=(r.take text).bind fun p=>if !p.1 then p.2.bad 3 else some p.2
def Rd.name (room:Bool) (r:Rd):Option (aD×Rd):=
 r.qg.bind fun t=>if !r.good || t.kind != 1 then(r.bad 3).bind fun r=>some ([],r)else if !room then(r.bad 4).bind fun r=>some ([],r)else some (t.text,{r with i:=r.i+1})
def Rd.on (r:Rd):Rd:= {r with i:=r.i+1}
mutual
def Rd.one:Nat→Rd→Option (Ex×Rd)
 | 0,_=>none
 | n+1,r=>r.qg.bind fun t=>
  if !r.good then some (mM,r)
  else if t.kind==2 then some (⟨1,t.n,[],[]⟩,{r with i:=r.i+1})
  else if t.kind==1 then some (⟨2,0,t.text,[]⟩,{r with i:=r.i+1})
  else(r.take [40]).bind fun p=>
   if p.1 then(Rd.two n 1 p.2).bind fun x=>(x.2.want [41]).bind fun r=>some (x.1,r)
   else(p.2.take [45]).bind fun p=>
    if p.1 then(Rd.one n p.2).bind fun x=>some (⟨3,0,[],[x.1]⟩,x.2)
    else(p.2.take [33]).bind fun p=>
     if p.1 then(Rd.one n p.2).bind fun x=>some (⟨4,0,[],[x.1]⟩,x.2)
     else(p.2.bad 3).bind fun r=>some (mM,r)
def Rd.two:Nat→Int→Rd→Option (Ex×Rd)
 | 0,_,_=>none
 | n+1,least,r=>(Rd.one n r).bind fun x=>Rd.P6 n least x.1 x.2
def Rd.P6:Nat→Int→Ex→Rd→Option (Ex×Rd)
 | 0,_,_,_=>none
 | n+1,least,x,r=>
  if r.good then r.qg.bind fun t=>
   if decide ((F3 t).2<least) || (F3 t).1==0 then some (x,r)
   else(Rd.two n ((F3 t).2+1) {r with i:=r.i+1}).bind fun y=>Rd.P6 n least ⟨(F3 t).1,0,[],[x,y.1]⟩ y.2
  else some (x,r)
end
def Rd.whole (n:Nat) (r:Rd):Option (Ex×Rd):=
 r.qg.bind fun t=>(Rd.two n 1 r).bind fun x=>
  if x.2.good then(P5 x.1).bind fun d=>if decide (d > 20)then some (x.1,{x.2 with code:=4,B2:=t.pos})else some (x.1,x.2)
  else some (x.1,x.2)
def Rd.names:Nat→List aD→Int→Rd→Option (List aD×Rd)
 | 0,_,_,_=>none
 | n+1,l,P7,r=>
  if r.good then(r.name (decide ((l.length:Int)<P7))).bind fun p=>(push 17 l p.1).bind fun l=>(p.2.take [44]).bind fun q=>
   if !q.1 then(q.2.want [59]).bind fun r=>some (l,r)else Rd.names n l P7 q.2
  else some (l,r)
def Rd.ahead (sign:aD) (r:Rd):Option Bool:=
 if r.good then r.qg.bind fun t=>if t.kind==1 then(P4 r.l (r.i+1)).bind fun u=>some (u.kind==4 && u.text==sign)else some false
 else some false
def Rd.labels:Nat→List aD→Rd→Option (List aD×Rd)
 | 0,_,_=>none
 | n+1,l,r=>(r.ahead [58]).bind fun b=>if b then r.qg.bind fun t=>(push 17 l t.text).bind fun l=>Rd.labels n l {r with i:=r.i+2}else some (l,r)
def Rd.P8 (r:Rd):Option Bool:=
 r.qg.bind fun t=>some (if t.kind==1 then true else if t.kind != 3 then false
  else t.text == [105,102] || t.text == [119,104,105,108,101] || t.text == [98,114,101,97,107] || t.text == [99,111,110,116,105,110,117,101] || t.text == [114,101,116,117,114,110] || t.text == [103,111,116,111] || t.text == [114,101,97,100] || t.text == [112,114,105,110,116])
def Rd.F4 (m:Nat):Nat→List Ar→Rd→Option (List Ar×Rd)
 | 0,_,_=>none
 | n+1,l,r=>
  if r.good then(r.take [114,101,102]).bind fun p=>
   if p.1 then(p.2.name true).bind fun x=>(push 81 l ⟨true,x.1,mM⟩).bind fun l=>(x.2.take [44]).bind fun c=>if !c.1 then some (l,c.2)else Rd.F4 m n l c.2
   else(Rd.whole m p.2).bind fun x=>(push 81 l ⟨false,[],x.1⟩).bind fun l=>(x.2.take [44]).bind fun c=>if !c.1 then some (l,c.2)else Rd.F4 m n l c.2
  else some (l,r)
def Rd.other (sign:aD) (r:Rd):Option Bool:=if r.good then(r.is sign).bind fun b=>some !b else some false
def Rd.call (m:Nat) (name proc:aD) (r:Rd):Option (Sm×Rd):=
 (r.want [40]).bind fun r=>(r.other [41]).bind fun b=>
  if b then(Rd.F4 m m [] r).bind fun q=>(q.2.want [41]).bind fun r=>(r.want [59]).bind fun r=>some (⟨0,4,[],name,proc,mM,false,q.1,[],[]⟩,r)
  else(r.want [41]).bind fun r=>(r.want [59]).bind fun r=>some (⟨0,4,[],name,proc,mM,false,[],[],[]⟩,r)
def Rd.named (m:Nat) (r:Rd):Option (Sm×Rd):=
 (r.name true).bind fun x=>(x.2.is [40]).bind fun b=>
  if b then Rd.call m [] x.1 x.2
  else(x.2.want [61]).bind fun r=>(r.ahead [40]).bind fun b=>
   if b then(r.name true).bind fun y=>Rd.call m x.1 y.1 y.2
   else(Rd.whole m r).bind fun y=>(y.2.want [59]).bind fun r=>some (⟨0,1,[],x.1,[],y.1,false,[],[],[]⟩,r)
def Rd.plain (m:Nat) (word:aD) (r:Rd):Option (Sm×Rd):=
 if word == [98,114,101,97,107]then some (⟨0,7,[],[],[],mM,false,[],[],[]⟩,r)
 else if word == [99,111,110,116,105,110,117,101]then some (⟨0,8,[],[],[],mM,false,[],[],[]⟩,r)
 else if word == [114,101,116,117,114,110]then(r.is [59]).bind fun b=>
  if !b then(Rd.whole m r).bind fun x=>some (⟨0,9,[],[],[],x.1,true,[],[],[]⟩,x.2)else some (⟨0,9,[],[],[],mM,false,[],[],[]⟩,r)
 else if word == [103,111,116,111]then(r.name true).bind fun x=>some (⟨0,10,[],x.1,[],mM,false,[],[],[]⟩,x.2)
 else if word == [114,101,97,100]then(r.name true).bind fun x=>some (⟨0,2,[],x.1,[],mM,false,[],[],[]⟩,x.2)
 else if word == [112,114,105,110,116]then(Rd.whole m r).bind fun x=>some (⟨0,3,[],[],[],x.1,false,[],[],[]⟩,x.2)
 else some (BX,r)
def Rd.head (m:Nat) (r:Rd):Option (Ex×Rd):=(r.want [40]).bind fun r=>(Rd.whole m r).bind fun x=>(x.2.want [41]).bind fun r=>some (x.1,r)
mutual
def Rd.rows (m:Nat):Nat→Int→Bool→Rd→Option ((List Sm×List aD)×Rd)
 | 0,_,_,_=>none
 | n+1,nest,body,r=>Rd.MD m n nest body [] r
def Rd.MD (m:Nat):Nat→Int→Bool→List Sm→Rd→Option ((List Sm×List aD)×Rd)
 | 0,_,_,_,_=>none
 | n+1,nest,body,out,r=>
  if r.good then(Rd.labels m [] r).bind fun l=>(l.2.is [125]).bind fun b=>
   if b && (body || (l.1.length:Int)==0)then some ((out,l.1),{l.2 with i:=l.2.i+1})
   else(Rd.stmt m n nest l.2).bind fun s=>(push 209 out {s.1 with labels:=l.1}).bind fun out=>Rd.MD m n nest body out s.2
  else some (([],[]),r)
def Rd.stmt (m:Nat):Nat→Int→Rd→Option (Sm×Rd)
 | 0,_,_=>none
 | n+1,nest,r=>r.P8.bind fun b=>
  if !b then(r.bad 3).bind fun r=>some (BX,r)
  else(inc r.n).bind fun k=>
   if decide ((k:Int) > 200) || decide (nest > 12)then(({r with n:=k} : Rd).bad 4).bind fun r=>some (BX,r)
   else({r with n:=k} : Rd).qg.bind fun t=>
    if t.kind==1 then Rd.named m {r with n:=k}
    else if t.text == [105,102]then Rd.choice m n nest {r with n:=k,i:=r.i+1}
    else if t.text == [119,104,105,108,101]then(Rd.head m {r with n:=k,i:=r.i+1}).bind fun x=>(Rd.block m n nest x.2).bind fun b=>some (⟨0,6,[],[],[],x.1,false,[],b.1,[]⟩,b.2)
    else(Rd.plain m t.text {r with n:=k,i:=r.i+1}).bind fun s=>(s.2.want [59]).bind fun r=>some (s.1,r)
def Rd.block (m:Nat):Nat→Int→Rd→Option (List Sm×Rd)
 | 0,_,_=>none
 | n+1,nest,r=>(r.want [123]).bind fun r=>(US nest).bind fun k=>(Rd.rows m n k false r).bind fun p=>some (p.1.1,p.2)
def Rd.choice (m:Nat):Nat→Int→Rd→Option (Sm×Rd)
 | 0,_,_=>none
 | n+1,nest,r=>(Rd.head m r).bind fun x=>(Rd.block m n nest x.2).bind fun t=>(t.2.take [101,108,115,101]).bind fun q=>
  if q.1 then(Rd.block m n nest q.2).bind fun e=>some (⟨0,5,[],[],[],x.1,false,[],t.1,e.1⟩,e.2)
  else some (⟨0,5,[],[],[],x.1,false,[],t.1,[]⟩,q.2)
end
def Rd.params:Nat→List Pm→Rd→Option (List Pm×Rd)
 | 0,_,_=>none
 | n+1,l,r=>
  if r.good then(r.take [114,101,102]).bind fun q=>(q.2.name (decide ((l.length:Int)<8))).bind fun x=>(push 25 l ⟨x.1,q.1⟩).bind fun l=>(x.2.take [44]).bind fun c=>
   if !c.1 then some (l,c.2)else Rd.params n l c.2
  else some (l,r)
def Rd.vars (m:Nat):Nat→List aD→Rd→Option (List aD×Rd)
 | 0,_,_=>none
 | n+1,l,r=>(r.take [118,97,114]).bind fun q=>if q.1 then(Rd.names m l 16 q.2).bind fun x=>Rd.vars m n x.1 x.2 else some (l,q.2)
def Rd.ME (m:Nat) (name:aD) (ps:List Pm) (r:Rd):Option (Pc×Rd):=
 (Rd.vars m m [] r).bind fun v=>(Rd.rows m m 1 true v.2).bind fun b=>some (⟨name,ps,v.1,b.1.1,b.1.2⟩,b.2)
def Rd.proc (m:Nat) (r:Rd):Option (Pc×Rd):=
 (r.name true).bind fun x=>(x.2.want [40]).bind fun r=>(r.other [41]).bind fun b=>
  if b then(Rd.params m [] r).bind fun q=>(q.2.want [41]).bind fun r=>(r.want [123]).bind fun r=>Rd.ME m x.1 q.1 r
  else(r.want [41]).bind fun r=>(r.want [123]).bind fun r=>Rd.ME m x.1 [] r
def Rd.globals (m:Nat):Nat→List aD→Rd→Option (List aD×Rd)
 | 0,_,_=>none
 | n+1,l,r=>(r.take [103,108,111,98,97,108]).bind fun q=>if q.1 then(Rd.names m l 16 q.2).bind fun x=>Rd.globals m n x.1 x.2 else some (l,q.2)
def Rd.P9 (r:Rd):Option Bool:=if r.good then r.is [112,114,111,99]else some false
def Rd.H7 (r:Rd):Option Bool:=if r.good then r.qg.bind fun t=>some (t.kind != 0)else some false
def Rd.procs (m:Nat):Nat→List Pc→Rd→Option (List Pc×Rd)
 | 0,_,_=>none
 | n+1,l,r=>r.P9.bind fun b=>
  if b then
   if(l.length:Int)==16 then(r.bad 4).bind fun r=>some (l,r)
   else(Rd.proc m {r with i:=r.i+1}).bind fun x=>(push 113 l x.1).bind fun l=>Rd.procs m n l x.2
  else r.H7.bind fun b=>if b then(r.bad 3).bind fun r=>some (l,r)else some (l,r)
def Rd.program (m:Nat) (r:Rd):Option (Pg×Rd):=(Rd.globals m m [] r).bind fun g=>(Rd.procs m m [] g.2).bind fun q=>some (⟨g.1,q.1⟩,q.2)
mutual
def Ex.beq:Ex→Ex→Bool
 | ⟨op,n,name,kids⟩,⟨Xs,n',F5,MF⟩=>if op != Xs || n != n' || !(name==F5) || (kids.length:Int) != (MF.length:Int)then false else Ex.lZ kids MF
def Ex.lZ:List Ex→List Ex→Bool
 | [],_=>true
 | _::_,[]=>true
 | x::l,y::l'=>if !Ex.beq x y then false else Ex.lZ l l'
end
end Go.Abs

/-! MirTree -/

namespace Go.Abs
def Ar.aO:List Ar→Nat
 | []=>0
 | a::l=>1+a.x.size+Ar.aO l
mutual
def Sm.size:Sm→Nat
 | ⟨_,_,labels,_,_,x,_,args,aY,aM⟩=>1+labels.length+x.size+Ar.aO args+Sm.aO aY+Sm.aO aM
def Sm.aO:List Sm→Nat
 | []=>0
 | s::l=>1+s.size+Sm.aO l
end
def Pc.size (f:Pc):Nat:=1+f.params.length+f.vars.length+f.fin.length+Sm.aO f.body
def Pc.aO:List Pc→Nat
 | []=>0
 | f::l=>1+f.size+Pc.aO l
def Pg.size (p:Pg):Nat:=1+p.globals.length+Pc.aO p.procs
mutual
def Sm.num (b:Bool) (n:Nat):Sm→Sm×Nat
 | ⟨id,kind,labels,name,proc,x,has,args,aY,aM⟩=>
  (⟨if b then((n+1:Nat):Int)else id,kind,labels,name,proc,x,has,args,(Sm.pb b (n+1) aY).1,(Sm.pb b (Sm.pb b (n+1) aY).2 aM).1⟩,(Sm.pb b (Sm.pb b (n+1) aY).2 aM).2)
def Sm.pb (b:Bool) (n:Nat):List Sm→List Sm×Nat
 | []=>([],n)
 | s::l=>((Sm.num b n s).1::(Sm.pb b (Sm.num b n s).2 l).1,(Sm.pb b (Sm.num b n s).2 l).2)
end
def Pc.pb (n:Nat):List Pc→List Pc
 | []=> []
 | f::l=> {f with body:=(Sm.pb true n f.body).1}::Pc.pb (Sm.pb true n f.body).2 l
def Pg.number (p:Pg):Pg:= {p with procs:=Pc.pb 0 p.procs}
def Pg.NZ (p:Pg):Option Pg:=if p.size<1073741824 then some p.number else none
theorem Sm.cH : ∀ (l:List Sm),l.length≤Sm.aO l
 | []=>Nat.le_refl _
 | x::l=>by simp only [Sm.aO,List.length_cons];have:=Sm.cH l;omega
theorem Ar.cH : ∀ (l:List Ar),l.length≤Ar.aO l
 | []=>Nat.le_refl _
 | x::l=>by simp only [Ar.aO,List.length_cons];have:=Ar.cH l;omega
theorem Pc.cH : ∀ (l:List Pc),l.length≤Pc.aO l
 | []=>Nat.le_refl _
 | x::l=>by simp only [Pc.aO,List.length_cons];have:=Pc.cH l;omega
theorem Ar.bW {x:Ar} : ∀ {l:List Ar},x∈l→x.x.size<Ar.aO l
 | y::l,h=>by
  simp only [Ar.aO]
  rcases List.mem_cons.1 h with rfl | h
  ·omega
  ·have:=Ar.bW h;omega
theorem Sm.bW {x:Sm} : ∀ {l:List Sm},x∈l→x.size<Sm.aO l
 | y::l,h=>by
  simp only [Sm.aO]
  rcases List.mem_cons.1 h with rfl | h
  ·omega
  ·have:=Sm.bW h;omega
theorem Pc.bW {x:Pc} : ∀ {l:List Pc},x∈l→x.size<Pc.aO l
 | y::l,h=>by
  simp only [Pc.aO]
  rcases List.mem_cons.1 h with rfl | h
  ·omega
  ·have:=Pc.bW h;omega
end Go.Abs

/-! MirFlat -/

namespace Go.Abs
structure Im where
 s:Sm
 proc:Int
 up:Int
 next:Int
 loop:Int
mutual
def Sm.gI:Sm→Nat
 | ⟨_,_,_,_,_,_,_,_,aY,aM⟩=>1+Sm.gm aY+Sm.gm aM
def Sm.gm:List Sm→Nat
 | []=>0
 | s::l=>s.gI+Sm.gm l
end
mutual
def Im.one (proc up next loop:Int) (out:List Im):Sm→List Im
 | ⟨id,kind,labels,name,pc,x,has,args,aY,aM⟩=>
  Im.rows proc ((out.length:Int)+1) (if kind==6 then(out.length:Int)+1 else next) (if kind==6 then(out.length:Int)+1 else loop)
   (Im.rows proc ((out.length:Int)+1) (if kind==6 then(out.length:Int)+1 else next) (if kind==6 then(out.length:Int)+1 else loop) (out++ [⟨⟨id,kind,labels,name,pc,x,has,args,aY,aM⟩,proc,up,next,loop⟩]) aY) aM
def Im.rows (proc up next loop:Int) (out:List Im):List Sm→List Im
 | []=>out
 | s::l=>Im.rows proc up next loop (Im.one proc up (if l.length=0 then next else(out.length:Int)+1+(s.gI:Int)) loop out s) l
end
theorem Im.Qa (proc up next loop:Int) (out:List Im) (s:Sm):Im.one proc up next loop out s =
 Im.rows proc ((out.length:Int)+1) (if s.kind==6 then(out.length:Int)+1 else next) (if s.kind==6 then(out.length:Int)+1 else loop)
  (Im.rows proc ((out.length:Int)+1) (if s.kind==6 then(out.length:Int)+1 else next) (if s.kind==6 then(out.length:Int)+1 else loop) (out++ [⟨s,proc,up,next,loop⟩]) s.aY) s.aM:=by
 cases s;simp only [Im.one]
mutual
theorem N0 (proc up next loop:Int) (out:List Im) : ∀ s:Sm,(Im.one proc up next loop out s).length=out.length+s.gI
 | ⟨id,kind,labels,name,pc,x,has,args,aY,aM⟩=>by
  simp only [Im.one,Sm.gI]
  rw [e8,e8]
  simp only [List.length_append,List.length_cons,List.length_nil];omega
theorem e8 (proc up next loop:Int) (out:List Im) : ∀ l:List Sm,(Im.rows proc up next loop out l).length=out.length+Sm.gm l
 | []=>rfl
 | s::l=>by
  simp only [Im.rows,Sm.gm]
  rw [e8,N0];omega
end
mutual
theorem wB : ∀ s:Sm,s.gI≤s.size
 | ⟨_,_,labels,_,_,x,_,args,aY,aM⟩=>by
  have:=lA aY;have:=lA aM
  simp only [Sm.gI,Sm.size];omega
theorem lA : ∀ l:List Sm,Sm.gm l≤Sm.aO l
 | []=>Nat.le_refl _
 | s::l=>by
  have:=wB s;have:=lA l
  simp only [Sm.gm,Sm.aO];omega
end
structure Sh where
 L:List Im
 lo:List Int
 hi:List Int
def Sh.go (i:Nat) (h:Sh):List Pc→Sh
 | []=>h
 | f::l=>Sh.go (i+1) ⟨Im.rows i 0 (-1) 0 h.L f.body,h.lo++ [(h.L.length:Int)+1],h.hi++ [((Im.rows i 0 (-1) 0 h.L f.body).length:Int)+1]⟩ l
def Pg.ef (p:Pg):Sh:=Sh.go 0 ⟨[],[],[]⟩ p.procs
end Go.Abs

/-! Nums -/

namespace Go.Abs
def N1:Nat:=3
def oR:Nat:=4
def Jm:Nat:=5
def Gz:Nat:=6
def MG:Nat:=7
def rr:Nat:=8
def kL:Nat:=9
def RK:Nat:=10
def OC:Nat:=11
def TQ:Nat:=12
def pP:Nat:=13
def OD:Nat:=14
def OE:Nat:=15
def ld:Nat:=16
def pd:Nat:=17
def kM:Nat:=18
def jj:Nat:=19
def ry:Nat:=20
def sN:Nat:=21
def rz:Nat:=22
def pQ:Nat:=23
def sO:Nat:=24
def rA:Nat:=25
def gf:Nat:=26
def eK:Nat:=27
def il:Nat:=28
def sP:Nat:=29
def fT:Nat:=30
def kN:Nat:=31
def kr:Nat:=32
def rB:Nat:=33
def eC:Nat:=34
def lf:Nat:=35
def bL:Nat:=36
def jw:Nat:=37
def mn:Nat:=38
def pe:Nat:=39
def rC:Nat:=40
def pf:Nat:=41
def jR:Nat:=42
def ni:Nat:=43
def fZ:Nat:=44
def gq:Nat:=45
def nj:Nat:=46
def nk:Nat:=47
def lN:Nat:=48
def rD:Nat:=49
def j5:Nat:=50
def ku:Nat:=51
def oA:Nat:=52
def nn:Nat:=53
def iE:Nat:=54
def pR:Nat:=55
def gD:Nat:=56
def j6:Nat:=57
def kv:Nat:=58
def gP:Nat:=59
def gE:Nat:=60
def ix:Nat:=61
def qh:Nat:=62
def fe:Nat:=63
def lg:Nat:=64
def eH:Nat:=65
def iZ:Nat:=66
def np:Nat:=67
def xx:Nat:=68
def MH:Nat:=69
def qi:Nat:=70
def qj:Nat:=71
def lO:Nat:=72
def jG:Nat:=73
def nq:Nat:=74
def uE:Nat:=75
def sQ:Nat:=76
def pg:Nat:=77
def jH:Nat:=78
def lP:Nat:=79
def fK:Nat:=80
def uF:Nat:=81
def wV:Nat:=82
def uG:Nat:=83
def vF:Nat:=84
def vt:Nat:=85
def rR:Nat:=86
def Jn:Nat:=87
def tP:Nat:=88
def wC:Nat:=89
def Jo:Nat:=90
def Jp:Nat:=91
def ga:Nat:=92
def rE:Nat:=93
def lB:Nat:=94
def nr:Nat:=95
def ph:Nat:=96
def mg:Nat:=97
def wW:Nat:=98
def CX:Nat:=99
def Dr:Nat:=100
def tQ:Nat:=101
def yl:Nat:=102
def H9:Nat:=103
def rF:Nat:=104
def rG:Nat:=105
def ym:Nat:=106
end Go.Abs

/-! Codes0 -/

namespace Go.Abs
abbrev AI.o (t:Nat) (a:AO):AI:= .op (some t) none a
abbrev AI.g (t c:Nat) (b:Bool) (a:AO):AI:= .op (some t) (some (c,b)) a
abbrev AI.c (t f:Nat) (l:List X):AI:= .call (some t) none f l
abbrev AI.d (t c:Nat) (b:Bool) (f:Nat) (l:List X):AI:= .call (some t) (some (c,b)) f l
abbrev AI.m (t:Nat) (x:X):AI:= .op (some t) none (.mv x)
abbrev bS:X:= .s 0
abbrev bo:X:= .s 1
abbrev du:X:= .s 2
abbrev cv:X:= .s 3
abbrev eg:X:= .s 4
abbrev bN:X:= .s 5
abbrev df:X:= .s 6
abbrev cb:X:= .s 7
abbrev cz:X:= .s 8
abbrev dn:X:= .s 9
abbrev cD:X:= .s 10
abbrev cA:X:= .s 11
abbrev cG:X:= .s 12
abbrev cV:X:= .s 13
abbrev cO:X:= .s 14
abbrev dg:X:= .s 15
abbrev cP:X:= .s 16
abbrev dv:X:= .s 17
abbrev dL:X:= .s 18
abbrev dU:X:= .s 19
abbrev dX:X:= .s 20
abbrev dV:X:= .s 21
abbrev ej:X:= .s 22
abbrev ek:X:= .s 23
abbrev eO:X:= .s 24
abbrev eQ:X:= .s 25
abbrev e9:X:= .s 26
abbrev fh:X:= .s 27
abbrev fO:X:= .s 28
abbrev fP:X:= .s 29
abbrev gn:X:= .s 30
abbrev gb:X:= .s 31
abbrev gF:X:= .s 32
abbrev gp:X:= .s 33
abbrev iy:X:= .s 34
abbrev gQ:X:= .s 35
abbrev iV:X:= .s 36
abbrev jI:X:= .s 37
abbrev kx:X:= .s 38
abbrev jJ:X:= .s 39
abbrev lC:X:= .s 40
abbrev kX:X:= .s 41
abbrev l5:X:= .s 42
abbrev l6:X:= .s 43
abbrev l7:X:= .s 44
abbrev nu:X:= .s 45
abbrev nw:X:= .s 46
abbrev n8:X:= .s 47
abbrev n9:X:= .s 48
abbrev ny:X:= .s 49
abbrev oa:X:= .s 50
abbrev mC:X:= .s 51
abbrev oc:X:= .s 52
abbrev od:X:= .s 53
abbrev oe:X:= .s 54
abbrev pj:X:= .s 55
abbrev pk:X:= .s 56
abbrev po:X:= .s 57
abbrev pw:X:= .s 58
abbrev mD:X:= .s 59
abbrev rH:X:= .s 60
abbrev uH:X:= .s 61
abbrev sR:X:= .s 62
abbrev uI:X:= .s 63
abbrev rI:X:= .s 64
abbrev wD:X:= .s 65
abbrev yE:X:= .s 66
abbrev wE:X:= .s 67
abbrev wF:X:= .s 68
abbrev yF:X:= .s 69
abbrev yG:X:= .s 70
abbrev F6:X:= .s 71
abbrev B3:X:= .s 72
abbrev KV:X:= .s 73
abbrev KW:X:= .s 74
abbrev KX:X:= .s 75
abbrev F7:X:= .s 76
abbrev KY:X:= .s 77
abbrev B4:X:= .s 78
abbrev Qb:X:= .s 79
abbrev Qc:X:= .s 80
abbrev Qd:X:= .s 81
abbrev Qe:X:= .s 82
abbrev Qf:X:= .s 83
abbrev Qg:X:= .s 84
abbrev Qh:X:= .s 85
abbrev Qi:X:= .s 86
abbrev Qj:X:= .s 87
abbrev Qk:X:= .s 88
abbrev Ql:X:= .s 89
abbrev Qm:X:= .s 90
abbrev Qn:X:= .s 91
abbrev Qo:X:= .s 92
abbrev UT:X:= .s 93
abbrev UU:X:= .s 94
abbrev UW:X:= .s 95
abbrev Xt:AC:= .cond cG (.seq (.run [.o 6 (.mv (.k (.bool false)))]) .ret) .skip
abbrev Xu:AC:= .cond dg (.seq (.run [.o 6 (.mv (.k (.bool true)))]) .ret) .skip
abbrev Xv:AC:= .cond eQ (.seq (.run [.o 6 (.mv (.k (.bool true)))]) .ret) .skip
abbrev Xw:AC:= .cond l5 (.seq (.run [.o 6 (.mv (.k (.bool true)))]) .ret) .skip
abbrev Xx:AC:= .cond n9 (.seq (.run [.o 6 (.mv (.k (.bool false)))]) .ret) .skip
abbrev Xy:AC:= .par [.o 49 (.ay cz 10), .o 50 (.load ny false 1), .m 51 du, .o 52 (.ay cz 10), .o 53 (.load oc false 1), .o 54 (.len od), .c 55 pP [mC,oe], .o 56 (.bX oa pj 6), .o 57 (.load pk true 6), .o 10 (.alloc [(.bool false),(.str []),(.int .i64 0),(.int .i64 0),(.str []),(.slice .full 0 [])]), .op none none (.store cD po 6)] [(2,0),(3,0),(4,0),(5,0),(6,0),(9,0),(0,0),(1,2),(7,0),(8,1),(10,0)]
abbrev Xz:AC:= .seq (.run [.o 61 (.ay cD 0), .o 62 (.load uH false 1), .o 63 (.un .not sR), .m 64 uI, .g 65 64 false (.load cv true 2), .g 66 64 false (.load dn true 13), .d 67 64 false pQ [wD,yE], .d 68 64 false jj [wE], .g 69 64 false (.mv cb),(.g 70 64 false (.build [(.int .i64 0),(.int .i64 0)] [(0,(1,(.k (.int .i64 8)))),(1,(1,yF))])), .g 71 64 false (.eqs false [0,0] wF yG), .o 72 (.pick rI (.k (.bool true)) F6), .m 6 B3]) .ret
abbrev XA:AC:= .seq (.seq (.run [.o 43 (.load cv true 2), .o 44 (.load dn true 13), .c 45 pQ [l6,l7], .c 46 jj [nu], .o 47 (.rT nw 0 false 1), .o 48 (.bin .neq n8 (.k (.int .i64 0)))]) Xx) (.seq Xy (.seq (.run [.o 58 (.ay cD 1), .o 59 (.load pw false 1), .o 60 (.ay dn 3), .op none none (.store rH mD 1)]) Xz))
abbrev XB:AC:= .seq (.seq (.run [.m 35 cb, .o 36 (.bin .eql gQ (.k (.int .i64 0))), .m 37 iV, .g 38 37 false (.ay cz 10), .g 39 37 false (.load kx false 1), .g 40 37 false (.len jJ), .g 41 37 false (.bin .eql lC (.k (.int .i64 0))), .o 42 (.pick jI (.k (.bool true)) kX)]) Xw) XA
abbrev XC:AC:= .seq (.run [.o 33 (.load cz true 13), .o 9 (.alloc [(.int .i64 0),(.int .i64 0),(.slice .full 0 []),(.str []),(.str []),(.int .i64 0),(.int .i64 0),(.str []),(.slice .full 0 []),(.bool false),(.slice .full 0 []),(.slice .full 0 []),(.slice .full 0 [])]), .op none none (.store dn gp 13)]) (.seq (.run [.o 34 (.ay dn 3), .op none none (.store iy (.k (.str [])) 1)]) XB)
abbrev XD:AC:= .seq (.seq (.run [.o 16 (.load cv true 2), .c 17 kM [cP], .o 18 (.rT dv 0 false 1), .o 19 (.bin .neq dL (.k (.int .i64 0))), .m 20 dU, .g 21 20 false (.load cv true 2), .d 22 20 false jj [dV], .g 23 20 false (.rT ej 0 false 1), .g 24 20 false (.bin .neq ek (.k (.int .i64 0))), .o 25 (.pick dX (.k (.bool true)) eO)]) Xv) (.seq (.run [.o 26 (.load cv true 2), .c 27 sN [e9,(.k (.int .i64 4))], .m 28 bo, .c 29 ry [fh,fO], .m 7 fP]) (.seq (.run [.o 30 (.load cv true 2), .m 31 cb, .c 32 rz [gn,gb], .o 8 (.alloc [(.int .i64 0),(.int .i64 0),(.slice .full 0 []),(.str []),(.str []),(.int .i64 0),(.int .i64 0),(.str []),(.slice .full 0 []),(.bool false),(.slice .full 0 []),(.slice .full 0 []),(.slice .full 0 [])]), .op none none (.store cz gF 13)]) XC))
abbrev XE:AC:= .seq (.run [.o 3 (.box bS), .o 6 (.mv (.k (.bool false)))]) (.seq (.seq (.run [.c 11 pd [], .o 12 (.un .not cA)]) Xt) (.seq (.seq (.run [.o 13 (.load cv true 2), .c 14 rr [cV], .o 15 (.un .not cO)]) Xu) XD))
abbrev XF:AC:= .par [.o 26 (.ay bN 4), .o 27 (.load e9 false 1), .o 28 (.ay bN 2), .o 29 (.load fO false 1), .o 30 (.ay bN 0), .o 31 (.load gn false 1), .m 32 cv, .c 33 eK [gb,gF], .c 34 gf [fP,gp], .c 35 gf [fh,iy], .m 3 gQ] [(4,0),(5,0),(6,0),(7,0),(2,0),(3,1),(8,0),(0,0),(1,2),(9,0),(10,0)]
abbrev XG:AC:= .seq (.seq (.run [.m 36 df, .o 37 (.ay bN 1), .o 38 (.load jI false 1), .o 39 (.len kx), .o 40 (.bin .lss iV jJ), .m 41 lC, .g 42 41 true (.mv cv), .g 43 41 true (.bin .leq l5 (.k (.int .i64 20000))), .o 44 (.pick kX l6 (.k (.bool false)))]) (.cond l7 .skip (.exit 2))) (.seq (.block 3 (.run [.o 47 (.ay bN 1), .o 48 (.load n8 false 1), .m 49 df, .o 50 (.bX n9 ny 2), .o 51 (.ay oa 0), .o 52 (.load mC false 1), .m 53 cv, .c 54 eK [oc,od], .m 3 oe])) (.run [.m 45 df, .o 46 (.bin .add nu (.k (.int .i64 1))), .m 6 nw]))
abbrev XH:AC:= .seq (.seq (.run [.o 6 (.mv (.k (.int .i64 0)))]) (.block 2 (.loop XG))) (.run [.o 55 (.ay bN 3), .o 56 (.load pj false 1), .m 57 cv, .c 58 il [pk,po], .m 3 pw])
abbrev XI:AC:= .seq (.block 1 (.seq (.run [.o 21 (.ay bo 1), .o 22 (.load dV false 1), .m 23 eg, .o 24 (.bX ej ek 5), .o 25 (.load eO true 5), .o 5 (.alloc [(.str []),(.slice .full 0 []),(.slice .full 0 []),(.slice .full 0 []),(.slice .full 0 [])]), .op none none (.store bN eQ 5)]) (.seq XF XH))) (.run [.m 19 eg, .o 20 (.bin .add dU (.k (.int .i64 1))), .m 4 dX])
abbrev XJ:AC:= .seq (.seq (.run [.m 10 eg, .o 11 (.ay bo 1), .o 12 (.load cA false 1), .o 13 (.len cG), .o 14 (.bin .lss cD cV), .m 15 cO, .g 16 15 true (.mv cv), .g 17 15 true (.bin .leq cP (.k (.int .i64 20000))), .o 18 (.pick dg dv (.k (.bool false)))]) (.cond dL .skip (.exit 0))) XI
abbrev XK:AC:= .seq (.seq (.run [.o 4 (.mv (.k (.int .i64 0)))]) (.block 0 (.loop XJ))) (.seq (.run [.m 59 cv, .o 60 (.bin .leq mD (.k (.int .i64 20000))), .m 2 rH]) .ret)
abbrev XL:AC:= .seq (.run [.o 1 (.box bS), .o 2 (.mv (.k (.bool false)))]) (.seq (.run [.o 7 (.ay bo 0), .o 8 (.load cb false 1), .c 9 gf [cz,(.k (.int .i64 0))], .m 3 dn]) XK)
abbrev XM:AC:= .seq (.run [(.o 16 (.build [(.int .i64 0),(.int .i64 0)] [(0,(1,(.k (.int .i64 1))))])), .op none none (.store du cP 2)]) .ret
abbrev XN:AC:= .seq (.block 1 (.seq (.run [.o 22 (.bX dL dX 5), .o 23 (.load ej true 5), .o 5 (.alloc [(.str []),(.slice .full 0 []),(.slice .full 0 []),(.slice .full 0 []),(.slice .full 0 [])]), .op none none (.store bN ek 5)]) (.run [.m 24 cv, .o 25 (.ay bN 0), .o 26 (.load eQ false 1), .o 27 (.c7 [(.str [])] 1 1 [(0,e9)]), .o 28 (.app 1 16 eO fh), .m 3 fO]))) (.run [.o 29 (.bin .add dX (.k (.int .i64 1))), .m 20 fP])
abbrev XO:AC:= .block 0 (.loop (.seq (.run [.o 21 (.bin .lss dX dU)]) (.seq (.cond dV .skip (.exit 0)) XN)))
abbrev XP:AC:= .seq (.run [(.o 53 (.build [(.int .i64 0),(.int .i64 0)] [(0,(1,(.k (.int .i64 5))))])), .op none none (.store du od 2)]) .ret
abbrev XQ:AC:= .seq (.run [(.o 73 (.build [(.int .i64 0),(.int .i64 0)] [(0,(1,(.k (.int .i64 5))))])), .op none none (.store du KV 2)]) .ret
abbrev XR:AC:= .seq (.run [.o 89 (.ay cG 0), .o 90 (.ay Ql 0), .o 91 (.load Qm false 1),(.o 92 (.build [(.int .i64 0),(.int .i64 0)] [(0,(1,(.k (.int .i64 5)))),(1,(1,Qn))])), .op none none (.store du Qo 2)]) .ret
abbrev XS:AC:= .seq (.block 5 (.seq (.run [.o 80 (.bX F7 B4 17), .o 81 (.load Qc true 17), .o 12 (.alloc [(.int .i64 0),(.int .i64 0),(.slice .full 0 []),(.str []),(.str []),(.int .i64 0),(.int .i64 0),(.str []),(.slice .full 0 []),(.bool false),(.slice .full 0 []),(.slice .full 0 []),(.slice .full 0 []),(.int .i64 0),(.int .i64 0),(.int .i64 0),(.int .i64 0)]), .op none none (.store cG Qd 17)]) (.seq (.run [.o 82 (.load bo true 2), .o 83 (.load dn true 5), .m 84 cv, .o 85 (.ay cG 0), .o 86 (.load Qh true 13), .c 87 mn [Qe,Qf,Qg,Qi], .o 88 (.un .not Qj)]) (.cond Qk XR .skip)))) (.run [.o 93 (.bin .add B4 (.k (.int .i64 1))), .m 78 UT])
abbrev XT:AC:= .block 4 (.loop (.seq (.run [.o 79 (.bin .lss B4 KY)]) (.seq (.cond Qb .skip (.exit 4)) XS)))
abbrev XU:AC:= .seq (.seq (.run [.m 66 cD, .c 67 kN [yE], .m 68 wE, .g 69 68 false (.mv cD), .g 70 68 false (.pH 35 [bo]), .d 71 68 false eC [yF,yG], .o 72 (.pick wF (.k (.bool true)) F6)]) (.cond B3 XQ .skip)) (.seq (.run [.m 74 cb, .m 75 cz, .c 76 jw [KW,KX], .o 77 (.len F7), .o 78 (.mv (.k (.int .i64 0)))]) XT)
abbrev XV:AC:= .seq (.block 3 (.seq (.run [.m 61 mD, .o 62 (.bX po mD 5), .o 63 (.load sR true 5), .o 9 (.alloc [(.str []),(.slice .full 0 []),(.slice .full 0 []),(.slice .full 0 []),(.slice .full 0 [])]), .m 8 uH, .op none none (.store dn uI 5)]) (.seq (.run [.o 64 (.load dn true 5), .c 65 rB [rI], .m 10 wD]) XU))) (.run [.o 94 (.bin .add mD (.k (.int .i64 1))), .m 59 UU])
abbrev XW:AC:= .block 2 (.loop (.seq (.run [.o 60 (.bin .lss mD pw)]) (.seq (.cond rH .skip (.exit 2)) XV)))
abbrev XX:AC:= .seq (.seq (.run [.o 56 (.ay bo 1), .o 57 (.load pk false 1), .o 58 (.len po), .o 59 (.mv (.k (.int .i64 0)))]) XW) (.seq (.run [.o 95 (.build [(.int .i64 0),(.int .i64 0)] []), .op none none (.store du UW 2)]) .ret)
abbrev XY:AC:= .seq (.seq (.run [.o 32 (.ay bo 0), .o 33 (.load gF false 1), .c 34 kN [gp], .m 35 iy, .g 36 35 false (.mv cv), .d 37 35 false kN [iV], .o 38 (.pick gQ (.k (.bool true)) jI), .m 39 kx, .g 40 39 false (.mv df), .g 41 39 false (.bin .lss lC (.k (.int .i64 0))), .o 42 (.pick jJ (.k (.bool true)) kX), .m 43 l5, .g 44 43 false (.ay bo 1), .g 45 43 false (.load l7 false 1), .g 46 43 false (.mv df), .g 47 43 false (.bX nu nw 5), .g 48 43 false (.ay n8 1), .g 49 43 false (.load n9 false 1), .g 50 43 false (.len ny), .g 51 43 false (.bin .gtr oa (.k (.int .i64 0))), .o 52 (.pick l6 (.k (.bool true)) mC)]) (.cond oc XP .skip)) (.seq (.run [.o 54 (.load bo true 2), .c 55 kr [oe], .m 7 pj]) XX)
abbrev XZ:AC:= .seq (.seq (.run [.o 17 (.ay bo 1), .o 18 (.load dv false 1), .o 19 (.len dL), .o 20 (.mv (.k (.int .i64 0)))]) XO) (.seq (.run [.m 30 cv,(.c 31 fT [gn,(.k (.str [109,97,105,110]))]), .m 6 gb]) XY)
abbrev X0:AC:= .seq (.seq (.run [.o 13 (.load bo true 2), .c 14 sP [cV], .o 15 (.un .not cO)]) (.cond dg XM .skip)) (.seq (.run [.o 3 (.mv (.k (.slice .full 0 [])))]) XZ)
abbrev X1:AC:= .seq (.run [.o 1 (.box bS), .o 2 (.alloc [(.int .i64 0),(.int .i64 0)])]) X0
abbrev X2:AC:= .cond df (.seq (.run [.o 4 (.mv (.k (.int .i64 0)))]) .ret) .skip
abbrev X3:AC:= .seq (.seq (.run [.m 10 bS, .o 11 (.bin .lss cD (.k (.int .i64 0)))]) (.cond cA (.seq (.run [.m 12 bS, .m 13 bo, .o 14 (.bin .add cG cV), .m 4 cO]) .ret) .skip)) (.seq (.run [.m 15 bS, .m 4 dg]) .ret)
abbrev X4:AC:= .seq (.seq (.run [.m 5 bo, .o 6 (.bin .lss bN (.k (.int .i64 1)))]) X2) (.seq (.run [.m 7 bS, .m 8 bo, .o 9 (.bin .rem cb cz), .m 0 dn]) X3)
abbrev X5:AC:= .seq (.run [.o 4 (.mv (.k (.int .i64 0)))]) X4
abbrev X6:AC:= .cond cP (.seq (.run [.o 4 (.mv (.k (.slice .full 0 [])))]) .ret) .skip
abbrev X7:AC:= .seq (.run [.o 43 (.bX jJ kX 1), .o 44 (.load l6 false 1), .m 12 l7]) (.seq (.run [.o 45 (.ay du 0), .o 46 (.load nu false 1), .m 47 cG, .c 48 bL [nw,n8]]) (.cond n9 (.run [.m 49 df, .m 50 cG, .o 51 (.c7 [(.str [])] 1 1 [(0,oa)]), .o 52 (.app 1 16 ny mC), .m 6 oc]) .skip))
abbrev X8:AC:= .seq (.cond l5 .skip (.exit 4)) (.seq (.block 5 X7) (.run [.o 53 (.bin .add kX (.k (.int .i64 1))), .m 41 od]))
abbrev X9:AC:= .seq (.run [.o 37 (.ay cD 0), .o 38 (.load jI true 13), .c 39 ni [kx], .o 40 (.len jJ), .o 41 (.mv (.k (.int .i64 0)))]) (.block 4 (.loop (.seq (.run [.o 42 (.bin .lss kX lC)]) X8)))
abbrev Ya:AC:= .seq (.block 3 (.seq (.run [.o 35 (.bX gb gp 17), .o 36 (.load gQ true 17), .o 10 (.alloc [(.int .i64 0),(.int .i64 0),(.slice .full 0 []),(.str []),(.str []),(.int .i64 0),(.int .i64 0),(.str []),(.slice .full 0 []),(.bool false),(.slice .full 0 []),(.slice .full 0 []),(.slice .full 0 []),(.int .i64 0),(.int .i64 0),(.int .i64 0),(.int .i64 0)]), .op none none (.store cD iV 17)]) X9)) (.run [.o 54 (.bin .add gp (.k (.int .i64 1))), .m 33 oe])
abbrev Yb:AC:= .block 2 (.loop (.seq (.run [.o 34 (.bin .lss gp gF)]) (.seq (.cond iy .skip (.exit 2)) Ya)))
abbrev Yc:AC:= .seq (.run [.o 25 (.bX dV ek 1), .o 26 (.load eQ false 1), .m 8 e9]) (.seq (.run [.m 27 bN, .m 28 bN, .m 29 cz, .c 30 jR [fO,fP], .c 31 jw [fh,gn], .o 32 (.len gb), .o 33 (.mv (.k (.int .i64 0)))]) Yb)
abbrev Yd:AC:= .seq (.cond eO .skip (.exit 0)) (.seq (.block 1 Yc) (.run [.o 55 (.bin .add ek (.k (.int .i64 1))), .m 23 pj]))
abbrev Ye:AC:= .seq (.run [.m 19 bN, .m 20 bo, .c 21 rC [dU,dX], .o 22 (.len dV), .o 23 (.mv (.k (.int .i64 0)))]) (.block 0 (.loop (.seq (.run [.o 24 (.bin .lss ek ej)]) Yd)))
abbrev Yf:AC:= .seq (.run [.o 17 (.load du true 2), .c 18 kr [dv], .m 5 dL]) (.seq (.run [.o 6 (.mv (.k (.slice .full 0 [])))]) (.seq Ye (.seq (.run [.m 56 df, .c 57 fZ [pk]]) (.seq (.run [.m 58 df, .c 59 gq [pw], .m 4 mD]) .ret))))
abbrev Yg:AC:= .seq (.run [.o 2 (.box bS), .o 4 (.mv (.k (.slice .full 0 [])))]) (.seq (.seq (.run [.o 13 (.load du true 2), .m 14 bo, .c 15 pe [cV,cO], .o 16 (.un .not dg)]) X6) Yf)
abbrev Yh:AC:= .seq (.run [.o 14 (.load bo true 2), .o 15 (.load du true 13), .c 16 nj [cO,dg], .m 17 cP, .g 18 17 true (.load bo true 2), .g 19 17 true (.load cv true 13), .d 20 17 true nj [dL,dU], .g 21 17 true (.un .not dX), .o 22 (.pick dv dV (.k (.bool false))), .m 23 ej, .g 24 23 true (.build [(.slice .full 0 []),(.slice .full 0 [])] []), .d 25 23 true jj [eO],(.g 26 23 true (.build [(.int .i64 0),(.int .i64 0)] [(0,(1,(.k (.int .i64 1))))])), .g 27 23 true (.eqs false [0,0] eQ e9), .o 28 (.pick ek fh (.k (.bool false))), .m 0 fO]) .ret
abbrev Yi:AC:= .seq (.run [.o 12 (.load du true 13), .o 3 (.alloc [(.int .i64 0),(.int .i64 0),(.slice .full 0 []),(.str []),(.str []),(.int .i64 0),(.int .i64 0),(.str []),(.slice .full 0 []),(.bool false),(.slice .full 0 []),(.slice .full 0 []),(.slice .full 0 [])]), .op none none (.store cv cG 13)]) (.seq (.run [.o 13 (.ay cv 3), .op none none (.store cV (.k (.str [118])) 1)]) Yh)
abbrev Yj:AC:= .seq (.run [.c 4 rA [], .o 1 (.alloc [(.slice .full 0 []),(.slice .full 0 [])]), .op none none (.store bo eg 2)]) (.seq (.run [.o 5 (.ay bo 1), .o 6 (.load bN false 1), .o 7 (.bX df (.k (.int .i64 0)) 5), .o 8 (.ay cb 3), .o 9 (.load cz false 1), .o 10 (.bX dn (.k (.int .i64 1)) 13), .o 11 (.load cD true 13), .o 2 (.alloc [(.int .i64 0),(.int .i64 0),(.slice .full 0 []),(.str []),(.str []),(.int .i64 0),(.int .i64 0),(.str []),(.slice .full 0 []),(.bool false),(.slice .full 0 []),(.slice .full 0 []),(.slice .full 0 [])]), .op none none (.store du cA 13)]) Yi)
abbrev Yk:AC:= .seq (.run [.o 0 (.mv (.k (.bool false)))]) Yj
abbrev Yl:AC:= .seq (.run [(.o 9 (.build [(.int .i64 0),(.int .i64 0)] [(0,(1,(.k (.int .i64 1))))])), .op none none (.store du dn 2)]) .ret
abbrev Ym:AC:= .seq (.run [.o 31 (.ay eg 0), .o 32 (.ay gb 0), .o 33 (.load gF false 1),(.o 34 (.build [(.int .i64 0),(.int .i64 0)] [(0,(1,(.k (.int .i64 6)))),(1,(1,gp))])), .op none none (.store du iy 2)]) .ret
abbrev Yn:AC:= .seq (.run [.o 18 (.bX cO cP 17), .o 19 (.load dL true 17), .o 4 (.alloc [(.int .i64 0),(.int .i64 0),(.slice .full 0 []),(.str []),(.str []),(.int .i64 0),(.int .i64 0),(.str []),(.slice .full 0 []),(.bool false),(.slice .full 0 []),(.slice .full 0 []),(.slice .full 0 []),(.int .i64 0),(.int .i64 0),(.int .i64 0),(.int .i64 0)]), .op none none (.store eg dU 17)]) (.seq (.run [.o 20 (.ay eg 0), .o 21 (.ay dX 1), .o 22 (.load dV false 1), .o 23 (.bin .eql ej (.k (.int .i64 4))), .m 24 ek, .g 25 24 true (.load bo true 2), .g 26 24 true (.ay eg 0), .g 27 24 true (.load e9 true 13), .d 28 24 true nk [eQ,fh], .g 29 24 true (.un .not fO), .o 30 (.pick eO fP (.k (.bool false)))]) (.cond gn Ym .skip))
abbrev Yo:AC:= .seq (.cond dv .skip (.exit 0)) (.seq (.block 1 Yn) (.run [.o 35 (.bin .add cP (.k (.int .i64 1))), .m 16 gQ]))
abbrev Yp:AC:= .seq (.run [.o 10 (.load bo true 2), .c 11 kr [cD], .o 12 (.fU cA), .o 13 (.ay cG 2), .o 14 (.load cV false 1), .o 15 (.len cO), .o 16 (.mv (.k (.int .i64 0)))]) (.block 0 (.loop (.seq (.run [.o 17 (.bin .lss cP dg)]) Yo)))
abbrev Yq:AC:= .seq (.seq (.run [.o 5 (.load bo true 2), .c 6 kL [bN], .o 7 (.rT df 0 false 1), .o 8 (.bin .neq cb (.k (.int .i64 0)))]) (.cond cz Yl .skip)) (.seq Yp (.seq (.run [.o 36 (.build [(.int .i64 0),(.int .i64 0)] []), .op none none (.store du iV 2)]) .ret))
abbrev Yr:AC:= .seq (.run [.o 1 (.box bS), .o 2 (.alloc [(.int .i64 0),(.int .i64 0)])]) Yq
abbrev Ys:AC:= .seq (.run [(.o 12 (.build [(.int .i64 0),(.int .i64 0)] [(0,(1,(.k (.int .i64 1))))])), .op none none (.store du cG 2)]) .ret
abbrev Yt:AC:= .par [.m 21 cv, .o 22 (.ay bN 0), .o 23 (.load ej false 1), .o 24 (.load bo true 2), .o 25 (.ay bN 0), .o 26 (.load eQ false 1), .c 27 ld [eO,e9], .op none none (.sB dV ek fh)] [(3,0),(4,0),(5,0),(6,0),(0,0),(1,0),(2,1),(7,0)]
abbrev Yu:AC:= .seq (.block 1 (.seq (.run [.o 19 (.bX dg dv 5), .o 20 (.load dU true 5), .o 5 (.alloc [(.str []),(.slice .full 0 []),(.slice .full 0 []),(.slice .full 0 []),(.slice .full 0 [])]), .op none none (.store bN dX 5)]) Yt)) (.run [.o 28 (.bin .add dv (.k (.int .i64 1))), .m 17 fO])
abbrev Yv:AC:= .block 0 (.loop (.seq (.run [.o 18 (.bin .lss dv cP)]) (.seq (.cond dL .skip (.exit 0)) Yu)))
abbrev Yw:AC:= .seq (.run [.o 54 (.ay cb 0), .o 55 (.ay oe 0), .o 56 (.load pj false 1),(.o 57 (.build [(.int .i64 0),(.int .i64 0)] [(0,(1,(.k (.int .i64 8)))),(1,(1,pk))])), .op none none (.store du po 2)]) .ret
abbrev Yx:AC:= .seq (.run [.o 37 (.bX gp gQ 17), .o 38 (.load jI true 17), .o 7 (.alloc [(.int .i64 0),(.int .i64 0),(.slice .full 0 []),(.str []),(.str []),(.int .i64 0),(.int .i64 0),(.str []),(.slice .full 0 []),(.bool false),(.slice .full 0 []),(.slice .full 0 []),(.slice .full 0 []),(.int .i64 0),(.int .i64 0),(.int .i64 0),(.int .i64 0)]), .op none none (.store cb kx 17)]) (.seq (.run [.o 39 (.ay cb 0), .o 40 (.ay jJ 1), .o 41 (.load lC false 1), .o 42 (.bin .eql kX (.k (.int .i64 4))), .m 43 l5, .g 44 43 true (.ay cb 0), .g 45 43 true (.load l7 true 13), .g 46 43 true (.mv cv), .g 47 43 true (.ay cb 0), .g 48 43 true (.ay n8 4), .g 49 43 true (.load n9 false 1), .g 50 43 true (.qy nw ny (.slice .full 0 [])), .d 51 43 true lN [nu,oa], .g 52 43 true (.un .not mC), .o 53 (.pick l6 oc (.k (.bool false)))]) (.cond od Yw .skip))
abbrev Yy:AC:= .seq (.cond iV .skip (.exit 2)) (.seq (.block 3 Yx) (.run [.o 58 (.bin .add gQ (.k (.int .i64 1))), .m 35 pw]))
abbrev Yz:AC:= .seq (.run [.o 29 (.load bo true 2), .c 30 kr [fP], .o 31 (.fU gn), .o 32 (.ay gb 2), .o 33 (.load gF false 1), .o 34 (.len gp), .o 35 (.mv (.k (.int .i64 0)))]) (.block 2 (.loop (.seq (.run [.o 36 (.bin .lss gQ iy)]) Yy)))
abbrev YA:AC:= .seq (.seq (.run [.o 14 (.ay bo 1), .o 15 (.load cO false 1), .o 16 (.len dg), .o 17 (.mv (.k (.int .i64 0)))]) Yv) (.seq Yz (.seq (.run [.o 59 (.build [(.int .i64 0),(.int .i64 0)] []), .op none none (.store du mD 2)]) .ret))
abbrev YB:AC:= .seq (.seq (.run [.o 8 (.load bo true 2), .c 9 kM [cz], .o 10 (.rT dn 0 false 1), .o 11 (.bin .neq cD (.k (.int .i64 0)))]) (.cond cA Ys .skip)) (.seq (.run [.op (some 13) none .pI, .m 3 cV]) YA)
abbrev YC:AC:= .seq (.run [.o 1 (.box bS), .o 2 (.alloc [(.int .i64 0),(.int .i64 0)])]) YB
abbrev YD:AC:= .cond cb (.seq (.run [.o 4 (.mv (.k (.int .i64 0)))]) .ret) .skip
abbrev YE:AC:= .seq (.seq (.run [.m 5 bS, .o 6 (.len bN), .o 7 (.bin .eql df (.k (.int .i64 0)))]) YD) (.seq (.run [.m 8 bS, .m 9 bo, .m 10 bS, .o 11 (.len cD), .c 12 pP [dn,cA], .o 13 (.bX cz cG 1), .o 14 (.load cV false 1), .m 4 cO]) .ret)
abbrev YF:AC:= .seq (.run [.o 4 (.mv (.k (.int .i64 0)))]) YE
abbrev YG:AC:= .seq (.run [.o 13 (.bX dn cA 16), .o 14 (.load cV true 16), .o 7 (.alloc [(.int .i64 0),(.int .i64 0),(.slice .full 0 []),(.str []),(.str []),(.int .i64 0),(.int .i64 0),(.str []),(.slice .full 0 []),(.bool false),(.slice .full 0 []),(.slice .full 0 []),(.slice .full 0 []),(.int .i64 0),(.int .i64 0),(.bool false)]), .op none none (.store cb cO 16)]) (.seq (.run [.m 15 bo, .o 16 (.bin .eql dg (.k (.int .i64 0))), .m 17 cP, .g 18 17 false (.ay cb 0), .g 19 17 false (.ay dL 1), .g 20 17 false (.load dU false 1), .g 21 17 false (.mv bo), .g 22 17 false (.bin .eql dX dV), .o 23 (.pick dv (.k (.bool true)) ej)]) (.cond ek (.run [.m 24 bN, .o 25 (.ay cb 0), .o 26 (.ay eQ 0), .o 27 (.load e9 false 1), .o 28 (.c7 [(.int .i64 0)] 1 1 [(0,fh)]), .o 29 (.app 1 8 eO fO), .m 5 fP]) .skip))
abbrev YH:AC:= .seq (.cond cG .skip (.exit 0)) (.seq (.block 1 YG) (.run [.o 30 (.bin .add cA (.k (.int .i64 1))), .m 11 gn]))
abbrev YI:AC:= .seq (.run [.o 8 (.load du true 2), .c 9 sO [cz], .o 10 (.len dn), .o 11 (.mv (.k (.int .i64 0)))]) (.block 0 (.loop (.seq (.run [.o 12 (.bin .lss cA cD)]) YH)))
abbrev YJ:AC:= .seq (.run [.o 2 (.box bS), .o 4 (.mv (.k (.slice .full 0 [])))]) (.seq (.run [.o 5 (.mv (.k (.slice .full 0 [])))]) (.seq YI (.seq (.run [.m 31 bN, .m 4 gb]) .ret)))
abbrev YK:AC:= .seq (.run [.o 2 (.box bS), .o 4 (.alloc [(.int .i64 0),(.int .i64 0),(.slice .full 0 []),(.str []),(.str []),(.int .i64 0),(.int .i64 0),(.str []),(.slice .full 0 []),(.bool false),(.slice .full 0 []),(.slice .full 0 []),(.slice .full 0 [])])]) (.seq (.run [.o 9 (.load du true 2), .m 10 bo, .c 11 rD [dn,cD], .m 8 cA, .o 12 (.ext cz 0), .o 13 (.ext cz 1), .o 14 (.ext cz 2), .o 5 (.alloc [(.int .i64 0),(.int .i64 0),(.slice .full 0 []),(.str []),(.str []),(.int .i64 0),(.int .i64 0),(.str []),(.slice .full 0 []),(.bool false),(.slice .full 0 []),(.slice .full 0 []),(.slice .full 0 []),(.int .i64 0),(.int .i64 0),(.bool false)]), .op none none (.store bN cG 16), .m 6 cV, .m 7 cO]) (.seq (.run [.o 15 (.ay bN 0), .o 16 (.load dg true 13), .op none none (.store eg cP 13)]) .ret))
abbrev YL:AC:= .par [.o 20 (.ay cb 0), .o 21 (.load dX false 1), .o 22 (.ay cb 2), .o 23 (.load ej false 1), .c 24 j5 [ek], .o 25 (.ay cb 4), .o 26 (.load eQ false 1), .c 27 j5 [e9], .o 28 (.ay cb 3), .o 29 (.load fO false 1), .o 30 (.load cv true 13), .c 31 ku [fP,gn], .o 32 (.build [(.str []),(.slice .full 0 []),(.slice .full 0 []),(.slice .full 0 []),(.slice .full 0 [])] [(0,(1,dV)),(2,(1,eO)),(4,(1,fh)),(3,(1,gb))]), .o 8 (.alloc [(.str []),(.slice .full 0 []),(.slice .full 0 []),(.slice .full 0 []),(.slice .full 0 [])]), .op none none (.store cz gF 5)] [(2,0),(3,0),(4,0),(5,0),(6,1),(7,0),(8,0),(9,2),(10,2),(11,0),(13,0),(0,0),(1,4),(12,0),(14,0)]
abbrev YM:AC:= .seq (.run [.o 18 (.bX cO cP 5), .o 19 (.load dL true 5), .o 7 (.alloc [(.str []),(.slice .full 0 []),(.slice .full 0 []),(.slice .full 0 []),(.slice .full 0 [])]), .op none none (.store cb dU 5)]) (.seq YL (.seq (.run [.o 33 (.ay cz 1), .o 34 (.load gp false 1), .o 35 (.ay cb 1), .o 36 (.load gQ false 1), .o 37 (.app 2 24 iy iV), .o 38 (.ay cz 1), .op none none (.store kx jI 1)]) (.run [.o 39 (.ay bN 1), .o 40 (.load jJ false 1), .o 41 (.load cz true 5), .o 42 (.c7 [(.str []),(.slice .full 0 []),(.slice .full 0 []),(.slice .full 0 []),(.slice .full 0 [])] 5 1 [(0,kX)]), .o 43 (.app 5 112 lC l5), .o 44 (.ay bN 1), .op none none (.store l7 l6 1)])))
abbrev YN:AC:= .seq (.cond dv .skip (.exit 0)) (.seq (.block 1 YM) (.run [.o 45 (.bin .add cP (.k (.int .i64 1))), .m 16 nu]))
abbrev YO:AC:= .seq (.run [.o 13 (.ay du 1), .o 14 (.load cV false 1), .o 15 (.len cO), .o 16 (.mv (.k (.int .i64 0)))]) (.block 0 (.loop (.seq (.run [.o 17 (.bin .lss cP dg)]) YN)))
abbrev YP:AC:= .seq (.run [.o 2 (.box bS), .o 3 (.box bo), .o 4 (.alloc [(.slice .full 0 []),(.slice .full 0 [])])]) (.seq (.run [.o 9 (.ay du 0), .o 10 (.load dn false 1), .c 11 j5 [cD], .o 12 (.build [(.slice .full 0 []),(.slice .full 0 [])] [(0,(1,cA))]), .o 5 (.alloc [(.slice .full 0 []),(.slice .full 0 [])]), .op none none (.store bN cG 2)]) (.seq YO (.seq (.run [.o 46 (.load bN true 2), .op none none (.store eg nw 2)]) .ret)))
abbrev YQ:AC:= .seq (.run [.m 13 cv, .o 14 (.load bN true 5), .c 15 oA [cO], .o 16 (.app 16 232 cV dg), .m 3 cP]) (.seq (.run [.m 17 cv, .o 18 (.len dv), .o 19 (.bin .gtr dL (.k (.int .i64 200)))]) (.cond dU (.seq (.run [.m 20 cv, .m 2 dX]) .ret) .skip))
abbrev YR:AC:= .seq (.block 1 (.seq (.run [.o 11 (.bX cb dn 5), .o 12 (.load cA true 5), .o 5 (.alloc [(.str []),(.slice .full 0 []),(.slice .full 0 []),(.slice .full 0 []),(.slice .full 0 [])]), .op none none (.store bN cG 5)]) YQ)) (.run [.o 21 (.bin .add dn (.k (.int .i64 1))), .m 9 dV])
abbrev YS:AC:= .block 0 (.loop (.seq (.run [.o 10 (.bin .lss dn cz)]) (.seq (.cond cD .skip (.exit 0)) YR)))
abbrev YT:AC:= .seq (.seq (.run [.o 6 (.ay bo 1), .o 7 (.load df false 1), .o 8 (.len cb), .o 9 (.mv (.k (.int .i64 0)))]) YS) (.seq (.run [.m 22 cv, .m 2 ej]) .ret)
abbrev YU:AC:= .seq (.run [.o 1 (.box bS), .o 2 (.mv (.k (.slice .full 0 [])))]) (.seq (.run [.o 3 (.mv (.k (.slice .full 0 [])))]) YT)
abbrev YV:AC:= .run [(.o 3 (.c7 [(.str [])] 1 1 [(0,(.k (.str [118])))])), .c 4 nn [(.k (.int .i64 2))],(.o 5 (.build [(.int .i64 0),(.int .i64 0),(.slice .full 0 []),(.str []),(.str []),(.int .i64 0),(.int .i64 0),(.str []),(.slice .full 0 []),(.bool false),(.slice .full 0 []),(.slice .full 0 []),(.slice .full 0 [])] [(0,(1,(.k (.int .i64 1)))),(1,(1,(.k (.int .i64 1)))),(3,(1,(.k (.str [118])))),(5,(4,eg))])), .c 6 nn [(.k (.int .i64 3))], .o 7 (.build [(.bool false),(.str []),(.int .i64 0),(.int .i64 0),(.str []),(.slice .full 0 [])] [(2,(4,df))]),(.o 8 (.build [(.bool false),(.str []),(.int .i64 0),(.int .i64 0),(.str []),(.slice .full 0 [])] [(0,(1,(.k (.bool true)))),(1,(1,(.k (.str [118]))))])), .o 9 (.c7 [(.bool false),(.str []),(.int .i64 0),(.int .i64 0),(.str []),(.slice .full 0 [])] 6 2 [(0,cb),(1,cz)]),(.o 10 (.build [(.int .i64 0),(.int .i64 0),(.slice .full 0 []),(.str []),(.str []),(.int .i64 0),(.int .i64 0),(.str []),(.slice .full 0 []),(.bool false),(.slice .full 0 []),(.slice .full 0 []),(.slice .full 0 [])] [(0,(1,(.k (.int .i64 2)))),(1,(1,(.k (.int .i64 4)))),(3,(1,(.k (.str [103])))),(4,(1,(.k (.str [112])))),(10,(1,dn))])),(.c 11 iE [(.k (.str [118]))]),(.o 12 (.build [(.int .i64 0),(.int .i64 0),(.slice .full 0 []),(.str []),(.str []),(.int .i64 0),(.int .i64 0),(.str []),(.slice .full 0 []),(.bool false),(.slice .full 0 []),(.slice .full 0 []),(.slice .full 0 [])] [(0,(1,(.k (.int .i64 3)))),(1,(1,(.k (.int .i64 3)))),(5,(4,cA))])),(.c 13 iE [(.k (.str [103]))]),(.o 14 (.build [(.int .i64 0),(.int .i64 0),(.slice .full 0 []),(.str []),(.str []),(.int .i64 0),(.int .i64 0),(.str []),(.slice .full 0 []),(.bool false),(.slice .full 0 []),(.slice .full 0 []),(.slice .full 0 [])] [(0,(1,(.k (.int .i64 4)))),(1,(1,(.k (.int .i64 3)))),(5,(4,cV))])), .o 15 (.c7 [(.int .i64 0),(.int .i64 0),(.slice .full 0 []),(.str []),(.str []),(.int .i64 0),(.int .i64 0),(.str []),(.slice .full 0 []),(.bool false),(.slice .full 0 []),(.slice .full 0 []),(.slice .full 0 [])] 13 4 [(0,bN),(1,cD),(2,cG),(3,cO)]),(.o 16 (.build [(.str []),(.slice .full 0 []),(.slice .full 0 []),(.slice .full 0 []),(.slice .full 0 [])] [(0,(1,(.k (.str [109,97,105,110])))),(2,(1,cv)),(3,(1,dg))])), .o 1 (.alloc [(.str []),(.slice .full 0 []),(.slice .full 0 []),(.slice .full 0 []),(.slice .full 0 [])]), .op none none (.store bo cP 5)]
abbrev YW:AC:= .run [(.o 17 (.build [(.str []),(.bool false)] [(0,(1,(.k (.str [120]))))])),(.o 18 (.build [(.str []),(.bool false)] [(0,(1,(.k (.str [121])))),(1,(1,(.k (.bool true))))])), .o 19 (.c7 [(.str []),(.bool false)] 2 2 [(0,dv),(1,dL)]),(.o 20 (.c7 [(.str [])] 1 1 [(0,(.k (.str [101])))])),(.c 21 iE [(.k (.str [121]))]),(.c 22 iE [(.k (.str [120]))]), .c 23 pR [(.k (.int .i64 8)),dV,ej],(.o 24 (.build [(.int .i64 0),(.int .i64 0),(.slice .full 0 []),(.str []),(.str []),(.int .i64 0),(.int .i64 0),(.str []),(.slice .full 0 []),(.bool false),(.slice .full 0 []),(.slice .full 0 []),(.slice .full 0 [])] [(0,(1,(.k (.int .i64 5)))),(1,(1,(.k (.int .i64 1)))),(3,(1,(.k (.str [121])))),(5,(4,ek))])),(.c 25 iE [(.k (.str [121]))]), .c 26 nn [(.k (.int .i64 9))], .c 27 pR [(.k (.int .i64 12)),eQ,e9],(.o 28 (.build [(.int .i64 0),(.int .i64 0),(.slice .full 0 []),(.str []),(.str []),(.int .i64 0),(.int .i64 0),(.str []),(.slice .full 0 []),(.bool false),(.slice .full 0 []),(.slice .full 0 []),(.slice .full 0 [])] [(0,(1,(.k (.int .i64 7)))),(1,(1,(.k (.int .i64 10)))),(3,(1,(.k (.str [101]))))])), .o 29 (.c7 [(.int .i64 0),(.int .i64 0),(.slice .full 0 []),(.str []),(.str []),(.int .i64 0),(.int .i64 0),(.str []),(.slice .full 0 []),(.bool false),(.slice .full 0 []),(.slice .full 0 []),(.slice .full 0 [])] 13 1 [(0,fO)]),(.o 30 (.build [(.int .i64 0),(.int .i64 0),(.slice .full 0 []),(.str []),(.str []),(.int .i64 0),(.int .i64 0),(.str []),(.slice .full 0 []),(.bool false),(.slice .full 0 []),(.slice .full 0 []),(.slice .full 0 [])] [(0,(1,(.k (.int .i64 6)))),(1,(1,(.k (.int .i64 5)))),(5,(4,fh)),(11,(1,fP))])),(.c 31 iE [(.k (.str [121]))]),(.o 32 (.build [(.int .i64 0),(.int .i64 0),(.slice .full 0 []),(.str []),(.str []),(.int .i64 0),(.int .i64 0),(.str []),(.slice .full 0 []),(.bool false),(.slice .full 0 []),(.slice .full 0 []),(.slice .full 0 [])] [(0,(1,(.k (.int .i64 8)))),(1,(1,(.k (.int .i64 9)))),(9,(1,(.k (.bool true)))),(5,(4,gb))])), .o 33 (.c7 [(.int .i64 0),(.int .i64 0),(.slice .full 0 []),(.str []),(.str []),(.int .i64 0),(.int .i64 0),(.str []),(.slice .full 0 []),(.bool false),(.slice .full 0 []),(.slice .full 0 []),(.slice .full 0 [])] 13 3 [(0,eO),(1,gn),(2,gF)]),(.o 34 (.build [(.str []),(.slice .full 0 []),(.slice .full 0 []),(.slice .full 0 []),(.slice .full 0 [])] [(0,(1,(.k (.str [112])))),(1,(1,dU)),(4,(1,dX)),(3,(1,gp))])), .o 2 (.alloc [(.str []),(.slice .full 0 []),(.slice .full 0 []),(.slice .full 0 []),(.slice .full 0 [])]), .op none none (.store du iy 5)]
abbrev YX:AC:= .seq (.run [(.o 35 (.c7 [(.str [])] 1 1 [(0,(.k (.str [103])))])), .o 36 (.load bo true 5), .o 37 (.load du true 5), .o 38 (.c7 [(.str []),(.slice .full 0 []),(.slice .full 0 []),(.slice .full 0 []),(.slice .full 0 [])] 5 2 [(0,iV),(1,jI)]), .o 39 (.build [(.slice .full 0 []),(.slice .full 0 [])] [(0,(1,gQ)),(1,(1,kx))]), .op none none (.store bS jJ 2)]) .ret
abbrev YY:AC:= .seq (.run [.o 0 (.alloc [(.slice .full 0 []),(.slice .full 0 [])])]) (.seq YV (.seq YW YX))
abbrev YZ:AC:= .seq (.seq (.run [.m 6 bN, .m 7 bS, .o 8 (.len cb), .o 9 (.bin .lss df cz), .m 10 dn, .g 11 10 true (.mv bo), .g 12 10 true (.bin .leq cA (.k (.int .i64 20000))), .o 13 (.pick cD cG (.k (.bool false)))]) (.cond cV .skip (.exit 0))) (.seq (.block 1 (.run [.m 16 bS, .m 17 bN, .o 18 (.bX cP dv 1), .o 19 (.load dL false 1), .m 20 bo, .c 21 eK [dU,dX], .m 1 dV])) (.run [.m 14 bN, .o 15 (.bin .add cO (.k (.int .i64 1))), .m 5 dg]))
abbrev Y0:AC:= .seq (.seq (.run [.o 5 (.mv (.k (.int .i64 0)))]) (.block 0 (.loop YZ))) (.seq (.run [.m 22 bo, .m 4 ej]) .ret)
abbrev Y1:AC:= .seq (.run [.o 4 (.mv (.k (.int .i64 0)))]) Y0
abbrev Y2:AC:= .cond cV (.seq (.run [.o 4 (.mv (.k (.int .i64 20001)))]) .ret) .skip
abbrev Y3:AC:= .seq (.seq (.run [.m 5 bo, .o 6 (.bin .gtr bN (.k (.int .i64 20000))), .m 7 df, .g 8 7 false (.mv bS), .g 9 7 false (.p7 cz), .g 10 7 false (.mv bo), .g 11 7 false (.bin .sub (.k (.int .i64 20000)) cD), .g 12 7 false (.bin .geq dn cA), .o 13 (.pick cb (.k (.bool true)) cG)]) Y2) (.seq (.run [.m 14 bo, .o 15 (.bin .add cO (.k (.int .i64 1))), .m 16 bS, .o 17 (.p7 cP), .o 18 (.bin .add dg dv), .m 4 dL]) .ret)
abbrev Y4:AC:= .seq (.run [.o 4 (.mv (.k (.int .i64 0)))]) Y3
abbrev Y5:AC:= .par [.o 22 (.ay df 4), .o 23 (.load ej false 1), .o 24 (.ay df 3), .o 25 (.load eO false 1), .o 26 (.ay df 2), .o 27 (.load e9 false 1), .o 28 (.ay df 5), .o 29 (.load fO true 4), .m 30 bo, .c 31 gD [fP,gn], .c 32 gf [fh,gb], .c 33 eK [eQ,gF], .c 34 eK [ek,gp], .m 1 iy] [(6,0),(7,0),(8,0),(9,0),(4,0),(5,1),(10,0),(2,0),(3,2),(11,0),(0,0),(1,3),(12,0),(13,0)]
abbrev Y6:AC:= .par [.o 46 (.ay df 10), .o 47 (.load nw false 1), .m 48 cb, .o 49 (.bX n8 n9 6), .o 50 (.ay ny 1), .o 51 (.load oa false 1), .o 52 (.ay df 10), .o 53 (.load oc false 1), .m 54 cb, .o 55 (.bX od oe 6), .o 56 (.ay pj 2), .o 57 (.load pk true 4), .m 58 bo, .c 59 gD [po,pw], .c 60 eK [mC,mD], .m 1 rH] [(6,0),(7,0),(8,0),(9,0),(10,0),(11,0),(12,0),(13,0),(0,0),(1,1),(2,0),(3,0),(4,0),(5,1),(14,0),(15,0)]
abbrev Y7:AC:= .seq (.seq (.run [.m 35 cb, .o 36 (.ay df 10), .o 37 (.load iV false 1), .o 38 (.len jI), .o 39 (.bin .lss gQ kx), .m 40 jJ, .g 41 40 true (.mv bo), .g 42 40 true (.bin .leq kX (.k (.int .i64 20000))), .o 43 (.pick lC l5 (.k (.bool false)))]) (.cond l6 .skip (.exit 2))) (.seq (.block 3 Y6) (.run [.m 44 cb, .o 45 (.bin .add l7 (.k (.int .i64 1))), .m 7 nu]))
abbrev Y8:AC:= .par [.o 61 (.ay df 12), .o 62 (.load uH false 1), .o 63 (.ay df 11), .o 64 (.load uI false 1), .m 65 bo, .c 66 il [rI,wD], .c 67 il [sR,yE], .m 1 wE] [(2,0),(3,0),(4,0),(5,0),(0,0),(1,1),(6,0),(7,0)]
abbrev Y9:AC:= .seq (.seq (.run [.o 7 (.mv (.k (.int .i64 0)))]) (.block 2 (.loop Y7))) Y8
abbrev Za:AC:= .seq (.block 1 (.seq (.run [.m 18 bS, .m 19 bN, .o 20 (.bX dL dU 13), .o 21 (.load dX true 13), .o 6 (.alloc [(.int .i64 0),(.int .i64 0),(.slice .full 0 []),(.str []),(.str []),(.int .i64 0),(.int .i64 0),(.str []),(.slice .full 0 []),(.bool false),(.slice .full 0 []),(.slice .full 0 []),(.slice .full 0 [])]), .op none none (.store df dV 13)]) (.seq Y5 Y9))) (.run [.m 16 bN, .o 17 (.bin .add cP (.k (.int .i64 1))), .m 5 dv])
abbrev Zb:AC:= .seq (.seq (.run [.m 8 bN, .m 9 bS, .o 10 (.len dn), .o 11 (.bin .lss cz cD), .m 12 cA, .g 13 12 true (.mv bo), .g 14 12 true (.bin .leq cV (.k (.int .i64 20000))), .o 15 (.pick cG cO (.k (.bool false)))]) (.cond dg .skip (.exit 0))) Za
abbrev Zc:AC:= .seq (.seq (.run [.o 5 (.mv (.k (.int .i64 0)))]) (.block 0 (.loop Zb))) (.seq (.run [.m 68 bo, .m 4 wF]) .ret)
abbrev Zd:AC:= .seq (.run [.o 4 (.mv (.k (.int .i64 0)))]) Zc
abbrev Ze:AC:= .cond ek (.seq (.run [.o 2 (.mv (.k (.bool false)))]) .ret) .skip
abbrev Zf:AC:= .run [.o 33 (.ay bN 1), .o 34 (.load gp false 1), .o 35 (.len iy), .o 36 (.bin .gtr gQ (.k (.int .i64 8))), .m 37 iV, .g 38 37 false (.ay bN 2), .g 39 37 false (.load kx false 1), .g 40 37 false (.len jJ), .g 41 37 false (.bin .gtr lC (.k (.int .i64 16))), .o 42 (.pick jI (.k (.bool true)) kX), .m 43 l5, .g 44 43 false (.ay bN 0), .g 45 43 false (.load l7 false 1), .d 46 43 false kv [nu], .g 47 43 false (.un .not nw), .o 48 (.pick l6 (.k (.bool true)) n8), .m 49 n9, .g 50 49 false (.ay bN 2), .g 51 49 false (.load oa false 1), .d 52 49 false j6 [mC], .g 53 49 false (.un .not oc), .o 54 (.pick ny (.k (.bool true)) od), .m 55 oe, .g 56 55 false (.ay bN 4), .g 57 55 false (.load pk false 1), .d 58 55 false j6 [po], .g 59 55 false (.un .not pw), .o 60 (.pick pj (.k (.bool true)) mD)]
abbrev Zg:AC:= .cond rH (.seq (.run [.o 2 (.mv (.k (.bool false)))]) .ret) .skip
abbrev Zh:AC:= .cond F6 (.seq (.run [.o 2 (.mv (.k (.bool false)))]) .ret) .skip
abbrev Zi:AC:= .seq (.block 3 (.seq (.run [.o 66 (.bX sR rI 2), .o 67 (.load yE true 2), .o 7 (.alloc [(.str []),(.bool false)]), .op none none (.store cb wE 2)]) (.seq (.run [.o 68 (.ay cb 0), .o 69 (.load wF false 1), .c 70 kv [yF], .o 71 (.un .not yG)]) Zh))) (.run [.o 72 (.bin .add rI (.k (.int .i64 1))), .m 64 B3])
abbrev Zj:AC:= .block 2 (.loop (.seq (.run [.o 65 (.bin .lss rI uI)]) (.seq (.cond wD .skip (.exit 2)) Zi)))
abbrev Zk:AC:= .cond KY (.seq (.run [.o 2 (.mv (.k (.bool false)))]) .ret) .skip
abbrev Zl:AC:= .seq (.seq (.run [.o 61 (.ay bN 1), .o 62 (.load uH false 1), .o 63 (.len sR), .o 64 (.mv (.k (.int .i64 0)))]) Zj) (.seq (.run [.m 73 cv, .o 74 (.ay bN 3), .o 75 (.load KW false 1), .c 76 gP [KV,KX,(.k (.int .i64 1))], .o 77 (.un .not F7)]) Zk)
abbrev Zm:AC:= .seq (.block 1 (.seq (.run [.o 31 (.bX fh fP 5), .o 32 (.load gb true 5), .o 5 (.alloc [(.str []),(.slice .full 0 []),(.slice .full 0 []),(.slice .full 0 []),(.slice .full 0 [])]), .op none none (.store bN gF 5)]) (.seq (.seq Zf Zg) Zl))) (.run [.o 78 (.bin .add fP (.k (.int .i64 1))), .m 29 B4])
abbrev Zn:AC:= .block 0 (.loop (.seq (.run [.o 30 (.bin .lss fP fO)]) (.seq (.cond gn .skip (.exit 0)) Zm)))
abbrev Zo:AC:= .seq (.seq (.run [.o 26 (.ay bo 1), .o 27 (.load e9 false 1), .o 28 (.len fh), .o 29 (.mv (.k (.int .i64 0)))]) Zn) (.seq (.run [.o 2 (.mv (.k (.bool true)))]) .ret)
abbrev Zp:AC:= .seq (.seq (.run [.o 8 (.ay bo 0), .o 9 (.load cz false 1), .o 10 (.len dn), .o 11 (.bin .gtr cD (.k (.int .i64 16))), .m 12 cA, .g 13 12 false (.ay bo 1), .g 14 12 false (.load cV false 1), .g 15 12 false (.len cO), .g 16 12 false (.bin .gtr dg (.k (.int .i64 16))), .o 17 (.pick cG (.k (.bool true)) cP), .m 18 dv, .g 19 18 false (.ay bo 0), .g 20 18 false (.load dU false 1), .d 21 18 false j6 [dX], .g 22 18 false (.un .not dV), .o 23 (.pick dL (.k (.bool true)) ej)]) Ze) (.seq (.run [.o 24 (.build [(.int .i64 0)] []), .o 25 (.box eO), .m 3 eQ]) Zo)
abbrev Zq:AC:= .seq (.run [.o 1 (.box bS), .o 2 (.mv (.k (.bool false)))]) Zp
abbrev Zr:AC:= .block 1 (.seq (.run [.m 10 cz, .m 5 cD]) (.seq (.run [.m 11 bo, .m 12 bS, .m 13 bN, .o 14 (.bX cG cV 1), .o 15 (.load cO false 1), .o 16 (.bin .eql cA dg)]) (.cond cP (.seq (.run [.m 17 bN, .m 4 dv]) .ret) .skip)))
abbrev Zs:AC:= .seq (.cond dn .skip (.exit 0)) (.seq Zr (.run [.o 18 (.bin .add cz (.k (.int .i64 1))), .m 8 dL]))
abbrev Zt:AC:= .seq (.run [.m 6 bS, .o 7 (.len df), .o 8 (.mv (.k (.int .i64 0)))]) (.block 0 (.loop (.seq (.run [.o 9 (.bin .lss cz cb)]) Zs)))
abbrev Zu:AC:= .seq (.run [(.o 4 (.mv (.k (.int .i64 (-1)))))]) .ret
abbrev Zv:AC:= .seq (.run [.o 4 (.mv (.k (.int .i64 0)))]) (.seq Zt Zu)
abbrev Zw:AC:= .cond cP (.seq (.run [.o 2 (.mv (.k (.bool true)))]) .ret) .skip
abbrev Zx:AC:= .block 1 (.seq (.run [.m 9 cb, .o 10 (.bX bN cb 1), .o 11 (.load cD false 1), .m 3 dn, .m 4 cA]) (.seq (.run [.m 12 bS, .m 13 cv, .o 14 (.A8 1 cG none (some cV)), .m 15 eg, .c 16 bL [cO,dg]]) Zw))
abbrev Zy:AC:= .seq (.cond cz .skip (.exit 0)) (.seq Zx (.run [.o 17 (.bin .add cb (.k (.int .i64 1))), .m 7 dv]))
abbrev Zz:AC:= .seq (.run [.m 5 bS, .o 6 (.len bN), .o 7 (.mv (.k (.int .i64 0)))]) (.block 0 (.loop (.seq (.run [.o 8 (.bin .lss cb df)]) Zy)))
abbrev ZA:AC:= .seq Zz (.seq (.run [.o 2 (.mv (.k (.bool false)))]) .ret)
abbrev ZB:AC:= .seq (.run [.o 2 (.mv (.k (.bool false)))]) ZA
end Go.Abs

/-! Have0 -/

namespace Go.Abs
open Go.Proofs
theorem eR:Has Try.prog oR 73 [(6,none)] XE:=⟨Try.f4,by kernel_rfl,by kernel_rfl⟩
theorem Aw:Has Try.prog rr 61 [(2,none)] XL:=⟨Try.f8,by kernel_rfl,by kernel_rfl⟩
theorem qP:Has Try.prog kL 96 [(2,(some (true,2)))] X1:=⟨Try.f9,by kernel_rfl,by kernel_rfl⟩
theorem uJ:Has Try.prog pP 16 [(4,none)] X5:=⟨Try.f13,by kernel_rfl,by kernel_rfl⟩
theorem pF:Has Try.prog ld 60 [(4,none)] Yg:=⟨Try.f16,by kernel_rfl,by kernel_rfl⟩
theorem xy:Has Try.prog pd 29 [(0,none)] Yk:=⟨Try.f17,by kernel_rfl,by kernel_rfl⟩
theorem qQ:Has Try.prog kM 37 [(2,(some (true,2)))] Yr:=⟨Try.f18,by kernel_rfl,by kernel_rfl⟩
theorem qR:Has Try.prog jj 60 [(2,(some (true,2)))] YC:=⟨Try.f19,by kernel_rfl,by kernel_rfl⟩
theorem tv:Has Try.prog ry 15 [(4,none)] YF:=⟨Try.f20,by kernel_rfl,by kernel_rfl⟩
theorem B5:Has Try.prog sN 32 [(4,none)] YJ:=⟨Try.f21,by kernel_rfl,by kernel_rfl⟩
theorem tw:Has Try.prog rz 17 [(4,(some (true,13)))] YK:=⟨Try.f22,by kernel_rfl,by kernel_rfl⟩
theorem B6:Has Try.prog pQ 47 [(4,(some (true,2)))] YP:=⟨Try.f23,by kernel_rfl,by kernel_rfl⟩
theorem B7:Has Try.prog sO 23 [(2,none)] YU:=⟨Try.f24,by kernel_rfl,by kernel_rfl⟩
theorem Ax:Has Try.prog rA 40 [(0,(some (true,2)))] YY:=⟨Try.f25,by kernel_rfl,by kernel_rfl⟩
theorem tL:Has Try.prog gf 23 [(4,none)] Y1:=⟨Try.f26,by kernel_rfl,by kernel_rfl⟩
theorem lD:Has Try.prog eK 19 [(4,none)] Y4:=⟨Try.f27,by kernel_rfl,by kernel_rfl⟩
theorem nU:Has Try.prog il 69 [(4,none)] Zd:=⟨Try.f28,by kernel_rfl,by kernel_rfl⟩
theorem B8:Has Try.prog sP 79 [(2,none)] Zq:=⟨Try.f29,by kernel_rfl,by kernel_rfl⟩
theorem qw:Has Try.prog fT 19 [(4,none)] Zv:=⟨Try.f30,by kernel_rfl,by kernel_rfl⟩
theorem xA:Has Try.prog kN 18 [(2,none)] ZB:=⟨Try.f31,by kernel_rfl,by kernel_rfl⟩
end Go.Abs

/-! Codes1 -/

namespace Go.Abs
abbrev ZC:AC:= .par [.m 17 cv, .m 18 cv, .o 19 (.fU dL), .o 20 (.ay dU 3), .o 21 (.load dX false 1), .m 22 cv, .o 23 (.fU ej), .o 24 (.ay ek 2), .o 25 (.load eO false 1), .o 26 (.len eQ), .o 27 (.bin .add e9 (.k (.int .i64 1))), .o 28 (.c7 [(.int .i64 0)] 1 1 [(0,fh)]), .o 29 (.app 1 8 dV fO), .o 30 (.fU dv), .o 31 (.ay gn 3), .op none none (.store gb fP 1)] [(1,0),(2,0),(3,0),(4,0),(5,0),(6,0),(7,0),(8,0),(9,0),(10,0),(11,0),(12,0),(0,0),(13,0),(14,0),(15,0)]
abbrev ZD:AC:= .par [.m 38 cv, .m 39 cv, .o 40 (.fU jJ), .o 41 (.ay lC 4), .o 42 (.load kX false 1), .m 43 cv, .o 44 (.fU l6), .o 45 (.ay l7 2), .o 46 (.load nu false 1), .o 47 (.len nw), .o 48 (.bin .add n8 (.k (.int .i64 1))), .o 49 (.c7 [(.int .i64 0)] 1 1 [(0,n9)]), .o 50 (.app 1 8 l5 ny), .o 51 (.fU kx), .o 52 (.ay mC 4), .op none none (.store oc oa 1)] [(1,0),(2,0),(3,0),(4,0),(5,0),(6,0),(7,0),(8,0),(9,0),(10,0),(11,0),(12,0),(0,0),(13,0),(14,0),(15,0)]
abbrev ZE:AC:= .seq (.run [.m 32 cv, .o 33 (.ay bN 3), .o 34 (.load gp false 1), .m 35 eg,(.o 36 (.build [(.int .i64 0),(.int .i64 0),(.slice .full 0 []),(.str []),(.str []),(.int .i64 0),(.int .i64 0),(.str []),(.slice .full 0 []),(.bool false),(.slice .full 0 []),(.slice .full 0 []),(.slice .full 0 []),(.int .i64 0),(.int .i64 0),(.int .i64 0),(.int .i64 0)] [(13,(1,gQ)),(15,(1,(.k (.int .i64 (-1)))))])), .c 37 gE [gF,iy,iV]]) ZD
abbrev ZF:AC:= .seq (.block 1 (.seq (.run [.m 14 cG, .o 15 (.bX cD cG 5), .o 16 (.load dg true 5), .o 5 (.alloc [(.str []),(.slice .full 0 []),(.slice .full 0 []),(.slice .full 0 []),(.slice .full 0 [])]), .m 4 cO, .op none none (.store bN cP 5)]) (.seq ZC ZE))) (.run [.o 53 (.bin .add cG (.k (.int .i64 1))), .m 12 od])
abbrev ZG:AC:= .block 0 (.loop (.seq (.run [.o 13 (.bin .lss cG cA)]) (.seq (.cond cV .skip (.exit 0)) ZF)))
abbrev ZH:AC:= .seq (.seq (.run [.o 9 (.ay bo 1), .o 10 (.load dn false 1), .o 11 (.len cD), .o 12 (.mv (.k (.int .i64 0)))]) ZG) (.seq (.run [.m 54 cv, .m 2 oe]) .ret)
abbrev ZI:AC:= .seq (.run [.o 1 (.box bS), .o 2 (.mv (.k .ei))]) (.seq (.run [.o 6 (.load bo true 2), .o 7 (.build [(.slice .full 0 []),(.slice .full 0 []),(.slice .full 0 []),(.slice .full 0 []),(.slice .full 0 [])] [(0,(2,df))]), .o 8 (.box cb), .m 3 cz]) ZH)
abbrev ZJ:AC:= .seq (.block 1 (.seq (.run [.o 11 (.bX cb dn 2), .o 12 (.load cA true 2), .o 5 (.alloc [(.str []),(.bool false)]), .op none none (.store bN cG 2)]) (.run [.m 13 cv, .o 14 (.ay bN 0), .o 15 (.load cO false 1), .o 16 (.c7 [(.str [])] 1 1 [(0,dg)]), .o 17 (.app 1 16 cV cP), .m 3 dv]))) (.run [.o 18 (.bin .add dn (.k (.int .i64 1))), .m 9 dL])
abbrev ZK:AC:= .block 0 (.loop (.seq (.run [.o 10 (.bin .lss dn cz)]) (.seq (.cond cD .skip (.exit 0)) ZJ)))
abbrev ZL:AC:= .seq (.seq (.run [.o 6 (.ay bo 1), .o 7 (.load df false 1), .o 8 (.len cb), .o 9 (.mv (.k (.int .i64 0)))]) ZK) (.seq (.run [.m 19 cv, .o 20 (.ay bo 2), .o 21 (.load dX false 1), .o 22 (.app 1 16 dU dV), .m 2 ej]) .ret)
abbrev ZM:AC:= .seq (.run [.o 1 (.box bS), .o 2 (.mv (.k (.slice .full 0 [])))]) (.seq (.run [.o 3 (.mv (.k (.slice .full 0 [])))]) ZL)
abbrev ZN:AC:= .seq (.run [.o 4 (.mv (.k (.bool false)))]) (.seq (.run [.m 5 bS, .m 6 bo, .c 7 ix [bN,df], .o 8 (.bin .geq cb (.k (.int .i64 0))), .m 4 cz]) .ret)
abbrev ZO:AC:= .seq (.run [.o 3 (.mv (.k (.bool false)))]) (.seq (.run [.o 4 (.ay bo 0), .o 5 (.load eg false 1), .m 6 bS, .c 7 bL [bN,df], .m 3 cb]) .ret)
abbrev ZP:AC:= .seq (.run [.o 4 (.mv (.k (.bool false)))]) (.seq (.run [.m 5 bS, .m 6 bo, .c 7 fT [bN,df], .o 8 (.bin .geq cb (.k (.int .i64 0))), .m 4 cz]) .ret)
abbrev ZQ:AC:= .par [.m 5 bS, .o 6 (.fU bN), .o 7 (.ay df 2), .o 8 (.load cb false 1), .m 9 bS, .o 10 (.fU dn), .o 11 (.ay cD 3), .o 12 (.load cA false 1), .m 13 bo, .o 14 (.bX cG cV 1), .o 15 (.load cO false 1), .o 16 (.bin .sub dg (.k (.int .i64 1))), .m 17 bS, .o 18 (.fU dv), .o 19 (.ay dL 4), .o 20 (.load dU false 1), .m 21 bo, .o 22 (.bX dX dV 1), .o 23 (.load ej false 1), .o 24 (.bin .sub ek (.k (.int .i64 1))), .o 25 (.A8 17 cz (some cP) (some eO)), .m 4 eQ] [(0,0),(1,0),(2,0),(3,0),(4,0),(5,0),(6,0),(7,0),(8,0),(9,0),(10,0),(11,0),(12,0),(13,0),(14,0),(15,0),(16,0),(17,0),(18,0),(19,0),(20,0),(21,0)]
abbrev ZR:AC:= .seq (.run [.o 4 (.mv (.k (.slice .full 0 [])))]) (.seq ZQ .ret)
abbrev ZS:AC:= .cond ej (.seq (.run [.o 8 (.mv (.k (.bool false)))]) .ret) .skip
abbrev ZT:AC:= .seq (.run [.o 16 (.bX cG cO 1), .o 17 (.load cP false 1), .m 10 dv]) (.seq (.run [.o 18 (.load eg true 2), .o 19 (.load bN true 5), .m 20 cD, .c 21 qh [dL,dU,dX], .o 22 (.bin .eql dV (.k (.int .i64 0)))]) ZS)
abbrev ZU:AC:= .seq (.cond dg .skip (.exit 0)) (.seq (.block 1 ZT) (.run [.o 23 (.bin .add cO (.k (.int .i64 1))), .m 14 ek]))
abbrev ZV:AC:= .seq (.run [.o 11 (.load cb true 13), .c 12 ni [cA], .o 13 (.len cG), .o 14 (.mv (.k (.int .i64 0)))]) (.block 0 (.loop (.seq (.run [.o 15 (.bin .lss cO cV)]) ZU)))
abbrev ZW:AC:= .seq ZV (.seq (.run [.o 24 (.ay cb 1), .o 25 (.load eO false 1), .o 26 (.bin .neq eQ (.k (.int .i64 4))), .m 27 e9, .g 28 27 false (.ay cb 4), .g 29 27 false (.load fO false 1), .g 30 27 false (.bin .neq fP (.k (.str [109,97,105,110]))), .g 31 27 false (.mv gn), .g 32 31 true (.mv du), .g 33 31 true (.ay cb 4), .g 34 31 true (.load gp false 1), .d 35 31 true bL [gF,iy], .g 36 27 false (.pick gb gQ (.k (.bool false))), .o 37 (.pick fh (.k (.bool true)) iV), .m 8 jI]) .ret)
abbrev ZX:AC:= .seq (.run [.o 4 (.box bS), .o 5 (.box bo), .o 7 (.box cv), .o 8 (.mv (.k (.bool false)))]) ZW
abbrev ZY:AC:= .seq (.run [.o 2 (.box bS), .o 3 (.box bo), .o 4 (.mv (.k (.bool false)))]) (.seq (.run [.o 5 (.load du true 2), .c 6 kL [bN], .o 7 (.rT df 0 false 1), .o 8 (.bin .eql cb (.k (.int .i64 0))), .m 9 cz, .g 10 9 true (.ay du 1), .g 11 9 true (.load cD false 1), .g 12 9 true (.pH 64 [cv]), .d 13 9 true fe [cA,cG], .o 14 (.pick dn cV (.k (.bool false))), .m 4 cO]) .ret)
abbrev ZZ:AC:= .seq (.run [.o 26 (.bX ej eO 1), .o 27 (.load e9 false 1), .m 8 fh]) (.seq (.run [.m 28 bN, .m 29 cz, .c 30 bL [fO,fP], .o 31 (.un .not gn)]) (.cond gb (.run [.m 32 bN, .m 33 cz, .o 34 (.c7 [(.str [])] 1 1 [(0,gp)]), .o 35 (.app 1 16 gF iy), .m 5 gQ]) .skip))
abbrev Z0:AC:= .seq (.cond eQ .skip (.exit 2)) (.seq (.block 3 ZZ) (.run [.o 36 (.bin .add eO (.k (.int .i64 1))), .m 24 iV]))
abbrev Z1:AC:= .seq (.run [.m 17 bS, .m 18 bN, .m 19 df, .o 20 (.bX dL dU 1), .o 21 (.load dX false 1), .c 22 pf [dv,dV], .o 23 (.len ej), .o 24 (.mv (.k (.int .i64 0)))]) (.block 2 (.loop (.seq (.run [.o 25 (.bin .lss eO ek)]) Z0)))
abbrev Z2:AC:= .seq (.seq (.run [.m 11 df, .m 12 bN, .o 13 (.len cG), .o 14 (.bin .lss cA cV)]) (.cond cO .skip (.exit 0))) (.seq (.block 1 Z1) (.run [.m 15 df, .o 16 (.bin .add dg (.k (.int .i64 1))), .m 6 cP]))
abbrev TR:AC:= .seq (.run [.m 39 bN, .m 4 jJ]) .ret
abbrev Z3:AC:= .seq (.seq (.run [.o 6 (.mv (.k (.int .i64 0)))]) (.block 0 (.loop Z2))) (.seq (.run [.m 37 bN, .c 38 fZ [jI]]) TR)
abbrev Z4:AC:= .seq (.run [.o 4 (.mv (.k (.slice .full 0 [])))]) (.seq (.run [.m 9 bo, .o 10 (.c7 [(.str [])] 1 1 [(0,dn)]), .m 5 cD]) Z3)
abbrev Z5:AC:= .seq (.run [.o 16 (.bX cG cO 17), .o 17 (.load cP true 17), .o 7 (.alloc [(.int .i64 0),(.int .i64 0),(.slice .full 0 []),(.str []),(.str []),(.int .i64 0),(.int .i64 0),(.str []),(.slice .full 0 []),(.bool false),(.slice .full 0 []),(.slice .full 0 []),(.slice .full 0 []),(.int .i64 0),(.int .i64 0),(.int .i64 0),(.int .i64 0)]), .op none none (.store cb dv 17)]) (.seq (.run [.o 18 (.ay cb 0), .o 19 (.ay dL 1), .o 20 (.load dU false 1), .o 21 (.bin .eql dX (.k (.int .i64 4)))]) (.cond dV (.run [.m 22 bN, .o 23 (.ay cb 0), .o 24 (.ay ek 4), .o 25 (.load eO false 1), .o 26 (.c7 [(.str [])] 1 1 [(0,eQ)]), .o 27 (.app 1 16 ej e9), .m 5 fh]) .skip))
abbrev Z6:AC:= .seq (.cond dg .skip (.exit 0)) (.seq (.block 1 Z5) (.run [.o 28 (.bin .add cO (.k (.int .i64 1))), .m 14 fO]))
abbrev Z7:AC:= .seq (.run [.m 8 bS, .m 9 bS, .m 10 bo, .c 11 jR [dn,cD], .c 12 jw [cz,cA], .o 13 (.len cG), .o 14 (.mv (.k (.int .i64 0)))]) (.block 0 (.loop (.seq (.run [.o 15 (.bin .lss cO cV)]) Z6)))
abbrev Z8:AC:= .seq (.run [.o 4 (.mv (.k (.slice .full 0 [])))]) (.seq (.run [.o 5 (.mv (.k (.slice .full 0 [])))]) (.seq Z7 (.seq (.run [.m 29 bN, .c 30 fZ [fP]]) (.seq (.run [.m 31 bN, .c 32 gq [gb], .m 4 gF]) .ret))))
abbrev Z9:AC:= .seq (.run [.o 3 (.box bo), .o 4 (.mv (.k (.int .i64 0)))]) (.seq (.run [.m 5 bS, .o 6 (.fU bN), .o 7 (.ay df 0), .o 8 (.ay cb 1), .o 9 (.load cz false 1), .o 10 (.pH 66 [cv]), .c 11 eH [dn,cD], .m 4 cA]) .ret)
abbrev QL3:AC:= .seq (.seq (.run [.o 31 (.ay bN 0), .o 32 (.load gb false 1)]) (.cond gF (.run [.m 33 cv, .o 34 (.ay bN 1), .o 35 (.load iy false 1), .o 36 (.c7 [(.str [])] 1 1 [(0,gQ)]), .o 37 (.app 1 16 gp iV), .m 3 jI]) .skip)) (.run [.m 38 cv, .o 39 (.ay bN 2), .o 40 (.load jJ true 4), .c 41 np [lC], .o 42 (.app 1 16 kx kX), .m 3 l5])
abbrev QL7:AC:= .seq (.block 1 (.seq (.run [.o 29 (.bX eQ fh 6), .o 30 (.load fP true 6), .o 5 (.alloc [(.bool false),(.str []),(.int .i64 0),(.int .i64 0),(.str []),(.slice .full 0 [])]), .op none none (.store bN gn 6)]) QL3)) (.run [.o 43 (.bin .add fh (.k (.int .i64 1))), .m 27 l6])
abbrev QLB:AC:= .block 0 (.loop (.seq (.run [.o 28 (.bin .lss fh e9)]) (.seq (.cond fO .skip (.exit 0)) QL7)))
abbrev QLF:AC:= .seq (.seq (.run [.o 24 (.ay bo 10), .o 25 (.load eO false 1), .o 26 (.len eQ), .o 27 (.mv (.k (.int .i64 0)))]) QLB) (.seq (.run [.m 44 cv, .m 2 l7]) .ret)
abbrev QLH:AC:= .seq (.seq (.run [.o 6 (.ay bo 1), .o 7 (.load df false 1), .o 8 (.bin .neq cb (.k (.int .i64 10))), .m 9 cz, .g 10 9 true (.ay bo 3), .g 11 9 true (.load cD false 1), .g 12 9 true (.bin .neq cA (.k (.str []))), .o 13 (.pick dn cG (.k (.bool false)))]) (.cond cV (.run [.m 14 cv, .o 15 (.ay bo 3), .o 16 (.load dg false 1), .o 17 (.c7 [(.str [])] 1 1 [(0,cP)]), .o 18 (.app 1 16 cO dv), .m 3 dL]) .skip)) (.seq (.run [.m 19 cv, .o 20 (.ay bo 5), .o 21 (.load dX true 4), .c 22 np [dV], .o 23 (.app 1 16 dU ej), .m 3 ek]) QLF)
abbrev QLJ:AC:= .seq (.run [.o 1 (.box bS), .o 2 (.mv (.k (.slice .full 0 [])))]) (.seq (.run [.o 3 (.mv (.k (.slice .full 0 [])))]) QLH)
abbrev QLO:AC:= .cond cO (.seq (.run [.o 4 (.mv (.k (.bool false)))]) .ret) .skip
abbrev QLQ:AC:= .par [.o 15 (.load cv true 13), .o 16 (.load du true 2), .o 17 (.ay cv 4), .o 18 (.load dv false 1), .c 19 ld [cP,dL], .c 20 lN [dg,dU], .m 4 dX] [(1,0),(2,0),(3,0),(4,0),(0,1),(5,0),(6,0)]
abbrev QLS:AC:= .seq (.seq (.run [.o 5 (.load du true 2), .c 6 kM [bN], .o 7 (.rT df 0 false 1), .o 8 (.bin .neq cb (.k (.int .i64 0))), .m 9 cz, .g 10 9 false (.load du true 2), .g 11 9 false (.load cv true 13), .d 12 9 false qi [cD,cA], .g 13 9 false (.un .not cG), .o 14 (.pick dn (.k (.bool true)) cV)]) QLO) (.seq QLQ .ret)
abbrev QLT:AC:= .seq (.run [.o 2 (.box bS), .o 3 (.box bo), .o 4 (.mv (.k (.bool false)))]) QLS
abbrev QLY:AC:= .cond dn (.seq (.run [.o 4 (.mv (.k (.bool false)))]) .ret) .skip
abbrev QM9:AC:= .seq (.run [.o 15 (.bX cA cV 5), .o 16 (.load dg true 5), .o 6 (.alloc [(.str []),(.slice .full 0 []),(.slice .full 0 []),(.slice .full 0 []),(.slice .full 0 [])]), .op none none (.store df cP 5)]) (.seq (.run [.o 17 (.ay df 0), .o 18 (.load dv false 1), .o 19 (.ay cv 4), .o 20 (.load dU false 1), .o 21 (.bin .eql dL dX)]) (.cond dV (.seq (.run [.o 22 (.ay df 1), .o 23 (.load ej false 1), .o 24 (.ay cv 10), .o 25 (.load eO false 1), .c 26 qj [ek,eQ], .m 4 e9]) .ret) .skip))
abbrev QMD:AC:= .seq (.cond cO .skip (.exit 0)) (.seq (.block 1 QM9) (.run [.o 27 (.bin .add cV (.k (.int .i64 1))), .m 13 fh]))
abbrev QMH:AC:= .seq (.run [.o 10 (.ay du 1), .o 11 (.load cD false 1), .o 12 (.len cA), .o 13 (.mv (.k (.int .i64 0)))]) (.block 0 (.loop (.seq (.run [.o 14 (.bin .lss cV cG)]) QMD)))
abbrev QMK:AC:= .seq QMH (.seq (.run [.o 4 (.mv (.k (.bool false)))]) .ret)
abbrev QML:AC:= .seq (.seq (.run [.o 7 (.ay cv 1), .o 8 (.load cb false 1), .o 9 (.bin .neq cz (.k (.int .i64 4)))]) QLY) QMK
abbrev QMM:AC:= .seq (.run [.o 2 (.box bS), .o 3 (.box bo), .o 4 (.mv (.k (.bool false)))]) QML
abbrev QMZ:AC:= .cond iy (.seq (.run [.o 4 (.mv (.k (.bool false)))]) .ret) .skip
abbrev QN2:AC:= .seq (.seq (.run [.m 18 bN, .o 19 (.ay cb 1), .o 20 (.load dU false 1), .c 21 bL [dL,dX], .m 22 dV, .g 23 22 false (.ay cb 1), .g 24 22 false (.load ek false 1), .g 25 22 false (.ay du 3), .g 26 22 false (.load eQ false 1), .g 27 22 false (.bin .eql eO e9), .o 28 (.pick ej (.k (.bool true)) fh), .m 29 fO, .g 30 29 false (.mv bo), .g 31 29 false (.ay cb 1), .g 32 29 false (.load gb false 1), .d 33 29 false bL [gn,gF], .o 34 (.pick fP (.k (.bool true)) gp)]) QMZ) (.run [.m 35 bN, .o 36 (.ay cb 1), .o 37 (.load iV false 1), .o 38 (.c7 [(.str [])] 1 1 [(0,jI)]), .o 39 (.app 1 16 gQ kx), .m 5 jJ])
abbrev QN5:AC:= .block 1 (.seq (.run [.o 13 (.bX dn cA 6), .o 14 (.load cV true 6), .o 7 (.alloc [(.bool false),(.str []),(.int .i64 0),(.int .i64 0),(.str []),(.slice .full 0 [])]), .op none none (.store cb cO 6)]) (.seq (.seq (.run [.o 15 (.ay cb 0), .o 16 (.load dg false 1), .o 17 (.un .not cP)]) (.cond dv (.exit 1) .skip)) QN2))
abbrev QN8:AC:= .seq (.cond cG .skip (.exit 0)) (.seq QN5 (.run [.o 40 (.bin .add cA (.k (.int .i64 1))), .m 11 lC]))
abbrev QNC:AC:= .seq (.run [.o 8 (.ay du 10), .o 9 (.load cz false 1), .o 10 (.len dn), .o 11 (.mv (.k (.int .i64 0)))]) (.block 0 (.loop (.seq (.run [.o 12 (.bin .lss cA cD)]) QN8)))
abbrev QNF:AC:= .seq QNC (.seq (.run [.o 4 (.mv (.k (.bool true)))]) .ret)
abbrev QNH:AC:= .seq (.run [.o 2 (.box bS), .o 4 (.mv (.k (.bool false)))]) (.seq (.run [.o 5 (.mv (.k (.slice .full 0 [])))]) QNF)
abbrev QNS:AC:= .par [.o 30 (.load cD true 16), .o 31 (.ay cz 0), .o 32 (.load gb false 1), .op none none (.store eg gn 16), .m 5 gF, .o 6 (.mv (.k (.bool true)))] [(0,0),(3,0),(1,0),(2,1),(4,0),(5,0)]
abbrev QNZ:AC:= .seq (.block 3 (.seq (.run [.o 23 (.bX dU dV 16), .o 24 (.load ek true 16), .o 10 (.alloc [(.int .i64 0),(.int .i64 0),(.slice .full 0 []),(.str []),(.str []),(.int .i64 0),(.int .i64 0),(.str []),(.slice .full 0 []),(.bool false),(.slice .full 0 []),(.slice .full 0 []),(.slice .full 0 []),(.int .i64 0),(.int .i64 0),(.bool false)]), .op none none (.store cD eO 16)]) (.seq (.run [.o 25 (.ay cD 0), .o 26 (.ay eQ 0), .o 27 (.load e9 false 1), .m 28 bo, .o 29 (.bin .eql fh fO)]) (.cond fP (.seq QNS .ret) .skip)))) (.run [.o 33 (.bin .add dV (.k (.int .i64 1))), .m 21 gp])
abbrev QO3:AC:= .block 2 (.loop (.seq (.run [.o 22 (.bin .lss dV dX)]) (.seq (.cond ej .skip (.exit 2)) QNZ)))
abbrev QO5:AC:= .seq (.run [.o 16 (.bX cG cO 5), .o 17 (.load cP true 5), .o 8 (.alloc [(.str []),(.slice .full 0 []),(.slice .full 0 []),(.slice .full 0 []),(.slice .full 0 [])]), .op none none (.store cz dv 5)]) (.seq (.run [.o 18 (.load cz true 5), .c 19 oA [dL], .o 20 (.len dU), .o 21 (.mv (.k (.int .i64 0)))]) QO3)
abbrev QO9:AC:= .seq (.cond dg .skip (.exit 0)) (.seq (.block 1 QO5) (.run [.o 34 (.bin .add cO (.k (.int .i64 1))), .m 14 iy]))
abbrev QOD:AC:= .seq (.run [.o 11 (.ay du 1), .o 12 (.load cA false 1), .o 13 (.len cG), .o 14 (.mv (.k (.int .i64 0)))]) (.block 0 (.loop (.seq (.run [.o 15 (.bin .lss cO cV)]) QO9)))
abbrev QOG:AC:= .seq QOD (.seq (.run [.o 35 (.build [(.int .i64 0),(.int .i64 0),(.slice .full 0 []),(.str []),(.str []),(.int .i64 0),(.int .i64 0),(.str []),(.slice .full 0 []),(.bool false),(.slice .full 0 []),(.slice .full 0 []),(.slice .full 0 []),(.int .i64 0),(.int .i64 0),(.bool false)] []), .op none none (.store eg gQ 16), .o 5 (.mv (.k (.str []))), .o 6 (.mv (.k (.bool false)))]) .ret)
abbrev QOH:AC:= .seq (.run [.o 2 (.box bS), .o 4 (.alloc [(.int .i64 0),(.int .i64 0),(.slice .full 0 []),(.str []),(.str []),(.int .i64 0),(.int .i64 0),(.str []),(.slice .full 0 []),(.bool false),(.slice .full 0 []),(.slice .full 0 []),(.slice .full 0 []),(.int .i64 0),(.int .i64 0),(.bool false)]), .o 5 (.mv (.k (.str []))), .o 6 (.mv (.k (.bool false)))]) QOG
abbrev QON:AC:= .seq (.run [.o 2 (.mv (.k (.slice .full 0 [])))]) (.seq (.run [.o 3 (.mv (.k (.slice .full 0 [])))]) (.seq (.run [.m 4 cv, .m 5 bS, .o 6 (.app 1 16 eg bN), .m 2 df]) .ret))
abbrev QOZ:AC:= .par [.o 24 (.ay cb 11), .o 25 (.load eO false 1), .o 26 (.load cv true 13), .c 27 ku [eQ,e9], .o 28 (.ay cb 12), .o 29 (.load fO false 1), .o 30 (.load cv true 13), .c 31 ku [fP,gn], .o 32 (.ay cz 11), .op none none (.store gF fh 1), .o 33 (.ay cz 12), .op none none (.store gp gb 1)] [(0,0),(1,0),(2,0),(3,0),(4,0),(5,1),(6,1),(7,0),(8,0),(9,0),(10,0),(11,0)]
abbrev QP3:AC:= .seq (.run [.o 15 (.load cb true 13), .c 16 lO [dg], .o 8 (.alloc [(.int .i64 0),(.int .i64 0),(.slice .full 0 []),(.str []),(.str []),(.int .i64 0),(.int .i64 0),(.str []),(.slice .full 0 []),(.bool false),(.slice .full 0 []),(.slice .full 0 []),(.slice .full 0 [])]), .op none none (.store cz cP 13)]) (.seq (.seq (.run [.o 17 (.ay cb 0), .o 18 (.load dv false 1), .o 19 (.ay cv 0), .o 20 (.load dU false 1), .o 21 (.bin .eql dL dX)]) (.cond dV (.run [.o 22 (.load cv true 13), .c 23 lO [ej], .op none none (.store cz ek 13)]) .skip)) (.seq QOZ (.run [.m 34 bN, .o 35 (.load cz true 13), .o 36 (.c7 [(.int .i64 0),(.int .i64 0),(.slice .full 0 []),(.str []),(.str []),(.int .i64 0),(.int .i64 0),(.str []),(.slice .full 0 []),(.bool false),(.slice .full 0 []),(.slice .full 0 []),(.slice .full 0 [])] 13 1 [(0,gQ)]), .o 37 (.app 13 208 iy iV), .m 5 jI])))
abbrev QP7:AC:= .seq (.block 1 (.seq (.run [.o 13 (.bX dn cA 13), .o 14 (.load cV true 13), .o 7 (.alloc [(.int .i64 0),(.int .i64 0),(.slice .full 0 []),(.str []),(.str []),(.int .i64 0),(.int .i64 0),(.str []),(.slice .full 0 []),(.bool false),(.slice .full 0 []),(.slice .full 0 []),(.slice .full 0 [])]), .op none none (.store cb cO 13)]) QP3)) (.run [.o 38 (.bin .add cA (.k (.int .i64 1))), .m 11 kx])
abbrev QPB:AC:= .block 0 (.loop (.seq (.run [.o 12 (.bin .lss cA cD)]) (.seq (.cond cG .skip (.exit 0)) QP7)))
abbrev QPF:AC:= .seq (.seq (.run [.m 9 bS, .o 10 (.len dn), .o 11 (.mv (.k (.int .i64 0)))]) QPB) (.seq (.run [.m 39 bN, .m 4 jJ]) .ret)
abbrev QPH:AC:= .seq (.run [.o 3 (.box bo), .o 4 (.mv (.k (.slice .full 0 [])))]) (.seq (.run [.o 5 (.mv (.k (.slice .full 0 [])))]) QPF)
abbrev QPL:AC:= .seq (.run [.o 1 (.box bS), .o 2 (.mv (.k (.slice .full 0 [])))]) (.seq (.run [.o 3 (.ay bo 3), .o 4 (.load cv false 1),(.c 5 jG [eg,(.k (.int .i64 1)),(.k (.int .i64 0)),(.k (.bool false)),(.k (.slice .full 0 []))]), .m 2 bN]) .ret)
abbrev QPO:AC:= .seq (.run [.m 3 bS,(.o 4 (.build [(.int .i64 0),(.int .i64 0),(.str []),(.slice .full 0 [])] [(0,(1,(.k (.int .i64 1)))),(1,(1,cv))])), .op none none (.store du eg 4)]) .ret
abbrev QPP:AC:= .seq (.run [.o 2 (.alloc [(.int .i64 0),(.int .i64 0),(.str []),(.slice .full 0 [])])]) QPO
abbrev QPS:AC:= .seq (.run [.m 3 bS,(.o 4 (.build [(.int .i64 0),(.int .i64 0),(.str []),(.slice .full 0 [])] [(0,(1,(.k (.int .i64 2)))),(2,(1,cv))])), .op none none (.store du eg 4)]) .ret
abbrev QPT:AC:= .seq (.run [.o 2 (.alloc [(.int .i64 0),(.int .i64 0),(.str []),(.slice .full 0 [])])]) QPS
abbrev QPX:AC:= .seq (.run [.o 4 (.box bo), .o 5 (.box du), .o 6 (.alloc [(.int .i64 0),(.int .i64 0),(.str []),(.slice .full 0 [])])]) (.seq (.run [.m 7 bS, .o 8 (.load eg true 4), .o 9 (.load bN true 4), .o 10 (.c7 [(.int .i64 0),(.int .i64 0),(.str []),(.slice .full 0 [])] 4 2 [(0,cz),(1,dn)]), .o 11 (.build [(.int .i64 0),(.int .i64 0),(.str []),(.slice .full 0 [])] [(0,(1,cb)),(3,(1,cD))]), .op none none (.store df cA 4)]) .ret)
abbrev QQ8:AC:= .seq (.seq (.run [.m 10 bN, .o 11 (.ay du 3), .o 12 (.load cA false 1), .o 13 (.len cG), .o 14 (.bin .lss cD cV), .m 15 cO, .g 16 15 true (.mv bo), .g 17 15 true (.bin .leq cP (.k (.int .i64 20000))), .o 18 (.pick dg dv (.k (.bool false)))]) (.cond dL .skip (.exit 0))) (.seq (.block 1 (.run [.o 21 (.ay du 3), .o 22 (.load dV false 1), .m 23 bN, .o 24 (.bX ej ek 4), .o 25 (.load eO true 4), .m 26 bo, .c 27 gD [eQ,e9], .m 1 fh])) (.run [.m 19 bN, .o 20 (.bin .add dU (.k (.int .i64 1))), .m 5 dX]))
abbrev QQE:AC:= .seq (.seq (.run [.o 5 (.mv (.k (.int .i64 0)))]) (.block 0 (.loop QQ8))) (.seq (.run [.m 28 bo, .m 4 fO]) .ret)
abbrev QQG:AC:= .seq (.run [.o 2 (.box bS), .o 4 (.mv (.k (.int .i64 0)))]) (.seq (.run [.o 6 (.ay du 2), .o 7 (.load df false 1), .m 8 bo, .c 9 eK [cb,cz], .m 1 dn]) QQE)
abbrev QQP:AC:= .cond cV (.seq (.run [.o 2 (.mv (.k (.bool false)))]) .ret) .skip
abbrev QQU:AC:= .seq (.block 1 (.seq (.run [.o 9 (.bX bN cb 1), .o 10 (.load dn false 1), .m 4 cD]) (.seq (.run [.m 11 eg, .c 12 kv [cA], .o 13 (.un .not cG)]) QQP))) (.run [.o 14 (.bin .add cb (.k (.int .i64 1))), .m 7 cO])
abbrev QQY:AC:= .block 0 (.loop (.seq (.run [.o 8 (.bin .lss cb df)]) (.seq (.cond cz .skip (.exit 0)) QQU)))
abbrev QR2:AC:= .seq (.seq (.run [.m 5 bS, .o 6 (.len bN), .o 7 (.mv (.k (.int .i64 0)))]) QQY) (.seq (.run [.o 2 (.mv (.k (.bool true)))]) .ret)
abbrev QR3:AC:= .seq (.run [.o 2 (.mv (.k (.bool false)))]) QR2
abbrev QR8:AC:= .cond cP (.seq (.run [.o 2 (.mv (.k (.bool false)))]) .ret) .skip
abbrev QRC:AC:= .seq (.seq (.run [.m 3 bS, .o 4 (.p7 cv), .o 5 (.bin .lss eg (.k (.int .i64 1))), .m 6 bN, .g 7 6 false (.mv bS), .g 8 6 false (.p7 cb), .g 9 6 false (.bin .gtr cz (.k (.int .i64 8))), .o 10 (.pick df (.k (.bool true)) dn), .m 11 cD, .g 12 11 false (.mv bS), .g 13 11 false (.tU cG (.k (.int .i64 0))), .d 14 11 false nq [cV], .g 15 11 false (.un .not cO), .o 16 (.pick cA (.k (.bool true)) dg)]) QR8) (.seq (.run [.m 17 bS, .c 18 uE [dv,(.k (.int .i64 0))], .m 19 bS, .o 20 (.p7 dU), .o 21 (.bin .eql dL dX), .m 22 dV, .g 23 22 true (.mv bS), .d 24 22 true sQ [ek], .g 25 22 true (.un .not eO), .o 26 (.pick ej eQ (.k (.bool false))), .m 2 e9]) .ret)
abbrev QRD:AC:= .seq (.run [.o 2 (.mv (.k (.bool false)))]) QRC
abbrev QRI:AC:= .cond dg (.seq (.run [.o 6 (.mv (.k (.bool false)))]) .ret) .skip
abbrev QRP:AC:= .par [.m 29 bS, .o 30 (.fU fP), .o 31 (.ay gn 0), .o 32 (.load gb false 1), .o 33 (.bin .gtr gF (.k (.int .i64 200))), .m 34 gp, .g 35 34 false (.ay cz 0), .g 36 34 false (.load gQ false 1), .g 37 34 false (.mv bS), .g 38 34 false (.fU jI), .g 39 34 false (.ay kx 0), .g 40 34 false (.load jJ false 1), .g 41 34 false (.bin .neq iV lC), .o 42 (.pick iy (.k (.bool true)) kX), .m 43 l5, .g 44 43 false (.ay cz 2), .g 45 43 false (.load l7 false 1), .d 46 43 false j6 [nu], .g 47 43 false (.un .not nw), .o 48 (.pick l6 (.k (.bool true)) n8), .m 49 n9, .g 50 49 false (.load cz true 13), .d 51 49 false pg [oa], .g 52 49 false (.un .not mC), .o 53 (.pick ny (.k (.bool true)) oc)] [(0,0),(1,0),(2,0),(3,0),(4,0),(5,0),(6,0),(7,0),(8,0),(9,0),(10,0),(11,0),(12,0),(13,0),(14,0),(15,0),(16,0),(17,0),(18,0),(19,0),(20,0),(21,0),(22,0),(23,0),(24,0)]
abbrev QRS:AC:= .cond od (.seq (.run [.o 6 (.mv (.k (.bool false)))]) .ret) .skip
abbrev QRX:AC:= .cond yF (.seq (.run [.o 6 (.mv (.k (.bool false)))]) .ret) .skip
abbrev QRZ:AC:= .seq (.seq QRP QRS) (.seq (.run [.m 54 bS, .o 55 (.ay cz 11), .o 56 (.load pj false 1), .m 57 du, .o 58 (.bin .add po (.k (.int .i64 1))), .c 59 gP [oe,pk,pw], .o 60 (.un .not mD), .m 61 rH, .g 62 61 false (.mv bS), .g 63 61 false (.ay cz 12), .g 64 61 false (.load uI false 1), .g 65 61 false (.mv du), .g 66 61 false (.bin .add wD (.k (.int .i64 1))), .d 67 61 false gP [sR,rI,yE], .g 68 61 false (.un .not wE), .o 69 (.pick uH (.k (.bool true)) wF)]) QRX)
abbrev QS1:AC:= .seq (.run [.o 20 (.bX cP dL 13), .o 21 (.load dX true 13), .o 8 (.alloc [(.int .i64 0),(.int .i64 0),(.slice .full 0 []),(.str []),(.str []),(.int .i64 0),(.int .i64 0),(.str []),(.slice .full 0 []),(.bool false),(.slice .full 0 []),(.slice .full 0 []),(.slice .full 0 [])]), .op none none (.store cz dV 13)]) (.seq (.run [.m 22 bS, .o 23 (.fU ej), .o 24 (.ay ek 0), .o 25 (.load eO false 1), .o 26 (.bin .add eQ (.k (.int .i64 1))), .o 27 (.fU ej), .o 28 (.ay fh 0), .op none none (.store fO e9 1)]) QRZ)
abbrev QS5:AC:= .seq (.cond dU .skip (.exit 0)) (.seq (.block 1 QS1) (.run [.o 70 (.bin .add dL (.k (.int .i64 1))), .m 18 yG]))
abbrev QS9:AC:= .seq (.run [.m 16 bo, .o 17 (.len cP), .o 18 (.mv (.k (.int .i64 0)))]) (.block 0 (.loop (.seq (.run [.o 19 (.bin .lss dL dv)]) QS5)))
abbrev QSC:AC:= .seq QS9 (.seq (.run [.o 6 (.mv (.k (.bool true)))]) .ret)
abbrev QSD:AC:= .seq (.seq (.run [.m 9 du, .o 10 (.bin .gtr dn (.k (.int .i64 12))), .m 11 cD, .g 12 11 true (.mv bo), .g 13 11 true (.len cG), .g 14 11 true (.bin .gtr cV (.k (.int .i64 0))), .o 15 (.pick cA cO (.k (.bool false)))]) QRI) QSC
abbrev QSE:AC:= .seq (.run [.o 6 (.mv (.k (.bool false)))]) QSD
abbrev QSR:AC:= .par [.m 37 bS, .m 38 bS, .o 39 (.fU kx), .o 40 (.ay jJ 2), .o 41 (.load lC false 1), .o 42 (.load dn true 17), .o 43 (.c7 [(.int .i64 0),(.int .i64 0),(.slice .full 0 []),(.str []),(.str []),(.int .i64 0),(.int .i64 0),(.str []),(.slice .full 0 []),(.bool false),(.slice .full 0 []),(.slice .full 0 []),(.slice .full 0 []),(.int .i64 0),(.int .i64 0),(.int .i64 0),(.int .i64 0)] 17 1 [(0,l5)]), .o 44 (.app 17 240 kX l6), .o 45 (.fU jI), .o 46 (.ay nu 2), .op none none (.store nw l7 1)] [(1,0),(2,0),(3,0),(4,0),(5,0),(6,0),(7,0),(0,0),(8,0),(9,0),(10,0)]
abbrev QSS:AC:= .run [.o 47 (.ay bN 13), .o 48 (.load n8 false 1), .m 49 cz, .o 50 (.ay dn 15), .o 51 (.load oa false 1), .o 52 (.ay bN 16), .o 53 (.load oc false 1), .o 54 (.build [(.int .i64 0),(.int .i64 0),(.slice .full 0 []),(.str []),(.str []),(.int .i64 0),(.int .i64 0),(.str []),(.slice .full 0 []),(.bool false),(.slice .full 0 []),(.slice .full 0 []),(.slice .full 0 []),(.int .i64 0),(.int .i64 0),(.int .i64 0),(.int .i64 0)] [(13,(1,n9)),(14,(1,ny)),(15,(1,mC)),(16,(1,od))]), .o 10 (.alloc [(.int .i64 0),(.int .i64 0),(.slice .full 0 []),(.str []),(.str []),(.int .i64 0),(.int .i64 0),(.str []),(.slice .full 0 []),(.bool false),(.slice .full 0 []),(.slice .full 0 []),(.slice .full 0 []),(.int .i64 0),(.int .i64 0),(.int .i64 0),(.int .i64 0)]), .op none none (.store cD oe 17)]
abbrev QT0:AC:= .seq (.seq (.run [.o 55 (.ay cb 1), .o 56 (.load pj false 1), .o 57 (.bin .eql pk (.k (.int .i64 6)))]) (.cond po (.run [.m 58 cz, .m 59 cz, .o 60 (.ay cD 15), .op none none (.store rH pw 1), .o 61 (.ay cD 16), .op none none (.store uH mD 1)]) .skip)) (.seq (.run [.m 62 bS, .o 63 (.ay cb 11), .o 64 (.load uI false 1), .o 65 (.load cD true 17), .c 66 gE [sR,rI,wD]]) (.run [.m 67 bS, .o 68 (.ay cb 12), .o 69 (.load wF false 1), .o 70 (.load cD true 17), .c 71 gE [wE,yF,yG]]))
abbrev QT3:AC:= .seq (.seq (.run [.m 27 df, .o 28 (.bin .add fh (.k (.int .i64 1))), .m 29 bo, .o 30 (.len fP), .o 31 (.bin .lss fO gn)]) (.cond gb (.run [.m 32 cz, .o 33 (.load cb true 13), .c 34 jH [gp], .o 35 (.bin .add gF iy), .o 36 (.ay dn 15), .op none none (.store iV gQ 1)]) .skip)) (.seq QSR (.seq QSS QT0))
abbrev QT7:AC:= .seq (.run [.m 15 cV, .o 16 (.bX cA cV 13), .o 17 (.load cP true 13), .o 7 (.alloc [(.int .i64 0),(.int .i64 0),(.slice .full 0 []),(.str []),(.str []),(.int .i64 0),(.int .i64 0),(.str []),(.slice .full 0 []),(.bool false),(.slice .full 0 []),(.slice .full 0 []),(.slice .full 0 [])]), .m 6 dg, .op none none (.store cb dv 13)]) (.seq (.run [.m 18 bS, .o 19 (.fU dL), .o 20 (.ay dU 2), .o 21 (.load dX false 1), .o 22 (.len dV), .o 23 (.bin .add ej (.k (.int .i64 1))), .m 8 ek]) (.seq (.run [.o 24 (.load bN true 17), .o 9 (.alloc [(.int .i64 0),(.int .i64 0),(.slice .full 0 []),(.str []),(.str []),(.int .i64 0),(.int .i64 0),(.str []),(.slice .full 0 []),(.bool false),(.slice .full 0 []),(.slice .full 0 []),(.slice .full 0 []),(.int .i64 0),(.int .i64 0),(.int .i64 0),(.int .i64 0)]), .op none none (.store dn eO 17)]) (.seq (.run [.o 25 (.load cb true 13), .o 26 (.ay dn 0), .op none none (.store e9 eQ 13)]) QT3)))
abbrev QTB:AC:= .seq (.cond cO .skip (.exit 0)) (.seq (.block 1 QT7) (.run [.o 72 (.bin .add cV (.k (.int .i64 1))), .m 13 B3]))
abbrev QTF:AC:= .seq (.run [.m 11 bo, .o 12 (.len cA), .o 13 (.mv (.k (.int .i64 0)))]) (.block 0 (.loop (.seq (.run [.o 14 (.bin .lss cV cG)]) QTB)))
abbrev QTG:AC:= .seq (.run [.o 5 (.box du)]) QTF
abbrev QTS:AC:= .block 1 (.seq (.run [.m 10 cz, .m 5 cD]) (.seq (.run [.m 11 bo, .m 12 bS, .m 13 bN, .o 14 (.bX cG cV 1), .o 15 (.load cO false 1),(.fX (some 16) none 11 [dg])]) (.cond cP (.seq (.run [.m 17 bN, .m 4 dv]) .ret) .skip)))
abbrev QTV:AC:= .seq (.cond dn .skip (.exit 0)) (.seq QTS (.run [.o 18 (.bin .add cz (.k (.int .i64 1))), .m 8 dL]))
abbrev QTZ:AC:= .seq (.run [.m 6 bS, .o 7 (.len df), .o 8 (.mv (.k (.int .i64 0)))]) (.block 0 (.loop (.seq (.run [.o 9 (.bin .lss cz cb)]) QTV)))
abbrev QU1:AC:= .seq (.run [(.o 4 (.mv (.k (.int .i64 (-1)))))]) .ret
abbrev QU3:AC:= .seq (.run [.o 4 (.mv (.k (.int .i64 0)))]) (.seq QTZ QU1)
abbrev QUC:AC:= .cond ek (.seq (.run [.o 6 (.mv (.k (.int .i64 3)))]) .ret) .skip
abbrev QUH:AC:= .cond fh (.seq (.run [.o 6 (.mv (.k (.int .i64 2)))]) .ret) .skip
abbrev QUJ:AC:= .seq (.seq (.run [.o 16 (.ay cz 0), .o 17 (.load cP false 1), .m 18 du, .o 19 (.bin .eql dv dL), .m 20 dU, .g 21 20 true (.ay cz 1), .g 22 20 true (.load dV false 1), .o 23 (.pick dX ej (.k (.bool false)))]) QUC) (.seq (.run [.o 24 (.ay cz 0), .o 25 (.load eO false 1), .m 26 du, .o 27 (.bin .eql eQ e9)]) QUH)
abbrev QUN:AC:= .seq (.block 1 (.seq (.run [.o 14 (.bX cD cG 2), .o 15 (.load cO true 2), .o 8 (.alloc [(.str []),(.bool false)]), .op none none (.store cz dg 2)]) QUJ)) (.run [.o 28 (.bin .add cG (.k (.int .i64 1))), .m 12 fO])
abbrev QUR:AC:= .block 0 (.loop (.seq (.run [.o 13 (.bin .lss cG cA)]) (.seq (.cond cV .skip (.exit 0)) QUN)))
abbrev QUW:AC:= .cond gF (.seq (.run [.o 6 (.mv (.k (.int .i64 4)))]) .ret) .skip
abbrev QV1:AC:= .cond iV (.seq (.run [.o 6 (.mv (.k (.int .i64 1)))]) .ret) .skip
abbrev QV5:AC:= .seq (.seq (.run [.o 33 (.ay cv 0), .o 34 (.load gp false 1), .m 35 du, .c 36 bL [iy,gQ]]) QV1) (.seq (.run [.o 6 (.mv (.k (.int .i64 0)))]) .ret)
abbrev QV7:AC:= .seq (.seq (.run [.o 9 (.ay eg 1), .o 10 (.load dn false 1), .o 11 (.len cD), .o 12 (.mv (.k (.int .i64 0)))]) QUR) (.seq (.seq (.run [.o 29 (.ay eg 2), .o 30 (.load fP false 1), .m 31 du, .c 32 bL [gn,gb]]) QUW) QV5)
abbrev QV8:AC:= .seq (.run [.o 3 (.box bS), .o 4 (.box bo), .o 6 (.mv (.k (.int .i64 0)))]) QV7
abbrev QVC:AC:= .seq (.run [.o 4 (.mv (.k (.bool false)))]) (.seq (.run [.m 5 bS, .m 6 bo, .c 7 eH [bN,df], .o 8 (.bin .geq cb (.k (.int .i64 0))), .m 4 cz]) .ret)
abbrev QVG:AC:= .seq (.run [.o 2 (.box bS), .o 3 (.mv (.k (.bool false)))]) (.seq (.run [.o 4 (.ay du 0), .o 5 (.load eg false 1), .o 6 (.load bo false 1), .o 7 (.bin .eql bN df), .m 3 cb]) .ret)
abbrev QVS:AC:= .block 1 (.seq (.run [.m 10 cz, .m 5 cD]) (.seq (.run [.m 11 bo, .m 12 bS, .m 13 bN, .o 14 (.bX cG cV 5), .o 15 (.load cO true 5),(.fX (some 16) none 11 [dg])]) (.cond cP (.seq (.run [.m 17 bN, .m 4 dv]) .ret) .skip)))
abbrev QVV:AC:= .seq (.cond dn .skip (.exit 0)) (.seq QVS (.run [.o 18 (.bin .add cz (.k (.int .i64 1))), .m 8 dL]))
abbrev QVZ:AC:= .seq (.run [.m 6 bS, .o 7 (.len df), .o 8 (.mv (.k (.int .i64 0)))]) (.block 0 (.loop (.seq (.run [.o 9 (.bin .lss cz cb)]) QVV)))
abbrev QW1:AC:= .seq (.run [(.o 4 (.mv (.k (.int .i64 (-1)))))]) .ret
abbrev QW3:AC:= .seq (.run [.o 4 (.mv (.k (.int .i64 0)))]) (.seq QVZ QW1)
abbrev QW7:AC:= .seq (.run [.o 2 (.box bS), .o 3 (.mv (.k (.bool false)))]) (.seq (.run [.o 4 (.ay du 0), .o 5 (.load eg false 1), .o 6 (.load bo false 1), .o 7 (.bin .eql bN df), .m 3 cb]) .ret)
abbrev QWC:AC:= .cond bN (.seq (.run [.o 2 (.mv (.k (.slice .full 0 [])))]) .ret) .skip
abbrev QWG:AC:= .seq (.seq (.run [.o 3 (.load bo true 4), .c 4 lP [cv], .o 5 (.un .not eg)]) QWC) (.seq (.run [.o 6 (.load bo true 4),(.c 7 fK [df,(.k (.slice .full 0 []))]), .m 2 cb]) .ret)
abbrev QWH:AC:= .seq (.run [.o 1 (.box bS), .o 2 (.mv (.k (.slice .full 0 [])))]) QWG
abbrev QWL:AC:= .seq (.run [.o 2 (.box bS), .o 3 (.box bo), .o 4 (.mv (.k (.bool false)))]) (.seq (.run [.o 5 (.load du true 2), .c 6 kL [bN], .o 7 (.rT df 0 false 1), .o 8 (.bin .eql cb (.k (.int .i64 0))), .m 9 cz, .g 10 9 true (.load du true 2), .g 11 9 true (.load cv true 13), .d 12 9 true nk [cD,cA], .o 13 (.pick dn cG (.k (.bool false))), .m 4 cV]) .ret)
abbrev QWQ:AC:= .cond cA (.seq (.run [.o 4 (.mv (.k (.bool false)))]) .ret) .skip
abbrev QWW:AC:= .par [.o 19 (.ay df 1), .o 20 (.load dU false 1), .m 21 bo, .m 22 bN, .o 23 (.bX dV ej 6), .o 24 (.ay ek 0), .o 25 (.load eO false 1), .o 26 (.zh true dX eQ)] [(0,0),(1,0),(2,0),(3,0),(4,0),(5,0),(6,0),(7,0)]
abbrev QWZ:AC:= .cond e9 (.seq (.run [.o 4 (.mv (.k (.bool false)))]) .ret) .skip
abbrev QX4:AC:= .seq (.block 1 (.seq (.run [.m 16 cO, .o 17 (.bX cG cO 2), .o 18 (.load dv true 2), .o 6 (.alloc [(.str []),(.bool false)]), .m 5 cP, .op none none (.store df dL 2)]) (.seq QWW QWZ))) (.run [.o 27 (.bin .add cO (.k (.int .i64 1))), .m 14 fh])
abbrev QX8:AC:= .block 0 (.loop (.seq (.run [.o 15 (.bin .lss cO cV)]) (.seq (.cond dg .skip (.exit 0)) QX4)))
abbrev QXC:AC:= .seq (.seq (.run [.m 12 bS, .o 13 (.len cG), .o 14 (.mv (.k (.int .i64 0)))]) QX8) (.seq (.run [.o 4 (.mv (.k (.bool true)))]) .ret)
abbrev QXE:AC:= .seq (.run [.o 4 (.mv (.k (.bool false)))]) (.seq (.seq (.run [.m 7 bS, .o 8 (.len cb), .m 9 bo, .o 10 (.len dn), .o 11 (.bin .neq cz cD)]) QWQ) QXC)
abbrev QXG:AC:= .par [.o 6 (.ay bo 0), .o 7 (.load df false 1), .o 8 (.ay bo 1), .o 9 (.load cz false 1), .o 10 (.ay bo 2), .o 11 (.load cD false 1), .c 12 j5 [cA], .o 13 (.ay bo 3), .o 14 (.load cV false 1), .o 15 (.ay bo 4), .o 16 (.load dg false 1), .o 17 (.ay bo 5), .o 18 (.load dv true 4), .c 19 ga [dL], .o 20 (.ay bo 9), .o 21 (.load dX false 1), .o 22 (.build [(.int .i64 0),(.int .i64 0),(.slice .full 0 []),(.str []),(.str []),(.int .i64 0),(.int .i64 0),(.str []),(.slice .full 0 []),(.bool false),(.slice .full 0 []),(.slice .full 0 []),(.slice .full 0 [])] [(0,(1,cb)),(1,(1,dn)),(2,(1,cG)),(3,(1,cO)),(4,(1,cP)),(5,(4,dU)),(9,(1,dV))]), .o 3 (.alloc [(.int .i64 0),(.int .i64 0),(.slice .full 0 []),(.str []),(.str []),(.int .i64 0),(.int .i64 0),(.str []),(.slice .full 0 []),(.bool false),(.slice .full 0 []),(.slice .full 0 []),(.slice .full 0 [])]), .op none none (.store cv ej 13)] [(4,0),(5,0),(6,0),(11,0),(12,1),(13,0),(17,0),(0,0),(1,3),(2,0),(3,3),(7,0),(8,3),(9,0),(10,3),(14,0),(15,3),(16,0),(18,0)]
abbrev QXL:AC:= .par [.o 30 (.ay cv 10), .o 31 (.load gn false 1), .o 32 (.ay bN 0), .o 33 (.load gF false 1), .o 34 (.ay bN 1), .o 35 (.load iy false 1), .o 36 (.ay bN 2), .o 37 (.load iV true 4), .c 38 ga [jI], .o 39 (.build [(.bool false),(.str []),(.int .i64 0),(.int .i64 0),(.str []),(.slice .full 0 [])] [(0,(1,gp)),(1,(1,gQ)),(2,(4,kx))]), .o 40 (.c7 [(.bool false),(.str []),(.int .i64 0),(.int .i64 0),(.str []),(.slice .full 0 [])] 6 1 [(0,jJ)]), .o 41 (.app 6 80 gb lC), .o 42 (.ay cv 10), .op none none (.store l5 kX 1)] [(6,0),(7,0),(8,0),(0,0),(1,1),(2,0),(3,1),(4,0),(5,1),(9,0),(10,0),(11,0),(12,0),(13,0)]
abbrev QXP:AC:= .seq (.block 1 (.seq (.run [.o 28 (.bX eO e9 6), .o 29 (.load fO true 6), .o 5 (.alloc [(.bool false),(.str []),(.int .i64 0),(.int .i64 0),(.str []),(.slice .full 0 [])]), .op none none (.store bN fP 6)]) QXL)) (.run [.o 43 (.bin .add e9 (.k (.int .i64 1))), .m 26 l6])
abbrev QXT:AC:= .block 0 (.loop (.seq (.run [.o 27 (.bin .lss e9 eQ)]) (.seq (.cond fh .skip (.exit 0)) QXP)))
abbrev QXX:AC:= .seq (.seq (.run [.o 23 (.ay bo 10), .o 24 (.load ek false 1), .o 25 (.len eO), .o 26 (.mv (.k (.int .i64 0)))]) QXT) (.seq (.run [.o 44 (.load cv true 13), .op none none (.store du l7 13)]) .ret)
abbrev QXZ:AC:= .seq (.run [.o 1 (.box bS), .o 2 (.alloc [(.int .i64 0),(.int .i64 0),(.slice .full 0 []),(.str []),(.str []),(.int .i64 0),(.int .i64 0),(.str []),(.slice .full 0 []),(.bool false),(.slice .full 0 []),(.slice .full 0 []),(.slice .full 0 [])])]) (.seq QXG QXX)
abbrev QY5:AC:= .run [.m 23 eg, .m 24 bS, .m 25 cA, .o 26 (.bX eO eQ 13), .o 27 (.load e9 true 13), .m 28 bo, .m 29 du, .m 30 cv, .o 31 (.build [(.int .i64 0),(.int .i64 0),(.slice .full 0 []),(.str []),(.str []),(.int .i64 0),(.int .i64 0),(.str []),(.slice .full 0 []),(.bool false),(.slice .full 0 []),(.slice .full 0 []),(.slice .full 0 []),(.int .i64 0),(.int .i64 0),(.bool false)] [(0,(13,fh)),(13,(1,fO)),(14,(1,fP)),(15,(1,gn))]), .o 32 (.c7 [(.int .i64 0),(.int .i64 0),(.slice .full 0 []),(.str []),(.str []),(.int .i64 0),(.int .i64 0),(.str []),(.slice .full 0 []),(.bool false),(.slice .full 0 []),(.slice .full 0 []),(.slice .full 0 []),(.int .i64 0),(.int .i64 0),(.bool false)] 16 1 [(0,gb)]), .o 33 (.app 16 232 ek gF), .m 4 gp]
abbrev QY7:AC:= .par [.m 36 bS, .m 37 cA, .o 38 (.bX iV jI 13), .o 39 (.ay kx 11), .o 40 (.load jJ false 1), .m 41 bo, .o 42 (.bin .add kX (.k (.int .i64 1))), .m 43 bS, .m 44 cA, .o 45 (.bX l6 l7 13), .o 46 (.ay nu 0), .o 47 (.load nw false 1), .m 48 eg, .c 49 jG [lC,l5,n8,(.k (.bool false)),n9], .m 4 ny] [(0,0),(1,0),(2,0),(3,0),(4,0),(5,0),(6,0),(7,0),(8,0),(9,0),(10,0),(11,0),(12,0),(13,0),(14,0)]
abbrev QY8:AC:= .par [.m 50 bS, .m 51 cA, .o 52 (.bX oa mC 13), .o 53 (.ay oc 12), .o 54 (.load od false 1), .m 55 bo, .o 56 (.bin .add pj (.k (.int .i64 1))), .m 57 bS, .m 58 cA, .o 59 (.bX po pw 13), .o 60 (.ay mD 0), .o 61 (.load rH false 1), .m 62 eg, .c 63 jG [oe,pk,uH,(.k (.bool true)),sR], .m 4 uI] [(0,0),(1,0),(2,0),(3,0),(4,0),(5,0),(6,0),(7,0),(8,0),(9,0),(10,0),(11,0),(12,0),(13,0),(14,0)]
abbrev QYC:AC:= .seq QY5 (.seq (.run [.m 34 bo, .o 35 (.bin .leq iy (.k (.int .i64 12)))]) (.cond gQ (.seq QY7 QY8) .skip))
abbrev QYG:AC:= .seq (.seq (.run [.m 12 cA, .m 13 bS, .o 14 (.len cV), .o 15 (.bin .lss cG cO), .m 16 dg, .g 17 16 true (.mv eg), .g 18 16 true (.len dv), .g 19 16 true (.bin .leq dL (.k (.int .i64 200))), .o 20 (.pick cP dU (.k (.bool false)))]) (.cond dX .skip (.exit 0))) (.seq (.block 1 QYC) (.run [.m 21 cA, .o 22 (.bin .add dV (.k (.int .i64 1))), .m 11 ej]))
abbrev QYM:AC:= .seq (.seq (.run [.o 11 (.mv (.k (.int .i64 0)))]) (.block 0 (.loop QYG))) (.seq (.run [.m 64 eg, .m 10 rI]) .ret)
abbrev QYN:AC:= .seq (.run [.o 10 (.mv (.k (.slice .full 0 [])))]) QYM
abbrev QYR:AC:= .seq (.run [.o 2 (.mv (.k (.bool false)))]) (.seq (.run [.m 3 bS, .o 4 (.bin .geq cv (.k (.int .u8 97))), .m 5 eg, .g 6 5 true (.mv bS), .g 7 5 true (.bin .leq df (.k (.int .u8 122))), .o 8 (.pick bN cb (.k (.bool false))), .m 2 cz]) .ret)
abbrev QYY:AC:= .seq (.seq (.run [.m 5 bo, .m 6 bS, .o 7 (.p7 df), .o 8 (.bin .lss bN cb), .m 9 cz, .g 10 9 true (.mv bS), .g 11 9 true (.mv bo), .g 12 9 true (.tU cD cA), .d 13 9 true nq [cG], .g 14 9 true (.mv cV), .g 15 14 false (.mv bS), .g 16 14 false (.mv bo), .g 17 14 false (.tU dg cP), .d 18 14 false rE [dv], .g 19 9 true (.pick cO (.k (.bool true)) dL), .o 20 (.pick dn dU (.k (.bool false)))]) (.cond dX .skip (.exit 0))) (.block 1 (.run [.m 21 bo, .o 22 (.bin .add dV (.k (.int .i64 1))), .m 1 ej]))
abbrev QZ4:AC:= .seq (.run [.o 4 (.mv (.k (.int .i64 0)))]) (.seq (.block 0 (.loop QYY)) (.seq (.run [.m 23 bo, .m 4 ek]) .ret))
abbrev QZL:AC:= .seq (.run [.o 16 (.bin .eql cv (.k (.str [114,101,97,100]))), .m 4 cP]) (.cond eg .skip (.run [.o 17 (.bin .eql cv (.k (.str [112,114,105,110,116]))), .m 4 dv]))
abbrev QZO:AC:= .cond eg .skip (.seq (.run [.o 15 (.bin .eql cv (.k (.str [103,111,116,111]))), .m 4 dg]) (.cond eg .skip QZL))
abbrev QZQ:AC:= .cond eg .skip (.seq (.run [.o 14 (.bin .eql cv (.k (.str [114,101,116,117,114,110]))), .m 4 cO]) QZO)
abbrev QZS:AC:= .cond eg .skip (.seq (.run [.o 13 (.bin .eql cv (.k (.str [99,111,110,116,105,110,117,101]))), .m 4 cV]) QZQ)
abbrev QZU:AC:= .cond eg .skip (.seq (.run [.o 12 (.bin .eql cv (.k (.str [98,114,101,97,107]))), .m 4 cG]) QZS)
abbrev QZW:AC:= .cond eg .skip (.seq (.run [.o 11 (.bin .eql cv (.k (.str [119,104,105,108,101]))), .m 4 cA]) QZU)
abbrev QZY:AC:= .cond eg .skip (.seq (.run [.o 10 (.bin .eql cv (.k (.str [101,108,115,101]))), .m 4 cD]) QZW)
abbrev UX:AC:= .cond eg .skip (.seq (.run [.o 9 (.bin .eql cv (.k (.str [105,102]))), .m 4 dn]) QZY)
abbrev UY:AC:= .cond eg .skip (.seq (.run [.o 8 (.bin .eql cv (.k (.str [114,101,102]))), .m 4 cz]) UX)
abbrev UZ:AC:= .cond eg .skip (.seq (.run [.o 7 (.bin .eql cv (.k (.str [118,97,114]))), .m 4 cb]) UY)
abbrev U0:AC:= .cond eg .skip (.seq (.run [.o 6 (.bin .eql cv (.k (.str [112,114,111,99]))), .m 4 df]) UZ)
abbrev U1:AC:= .cond eg (.seq (.run [.o 2 (.mv (.k (.bool true)))]) .ret) .skip
abbrev U2:AC:= .seq (.seq (.run [.o 5 (.bin .eql cv (.k (.str [103,108,111,98,97,108]))), .m 4 bN]) U0) U1
abbrev U3:AC:= .seq (.seq (.run [.m 3 bS]) (.block 0 U2)) (.seq (.run [.o 2 (.mv (.k (.bool false)))]) .ret)
abbrev U4:AC:= .seq (.run [.o 2 (.mv (.k (.bool false)))]) U3
abbrev U5:AC:= .par [.o 10 (.ay bo 9), .o 11 (.load cD false 1), .o 3 (.mv (.k (.bool false))), .o 4 (.mv (.k (.bool false))), .o 5 (.mv (.k (.bool false))), .m 6 cA, .o 7 (.mv (.k (.bool false))), .o 8 (.mv (.k (.bool false)))] [(0,0),(1,0),(2,0),(3,0),(4,0),(5,0),(6,0),(7,0)]
abbrev U6:AC:= .seq (.run [.o 20 (.bin .eql cP (.k (.int .i64 2))), .m 19 dX]) (.cond dU .skip (.run [.o 21 (.bin .eql cP (.k (.int .i64 10))), .m 19 dV]))
abbrev U7:AC:= .seq (.run [.o 38 (.bin .eql cP (.k (.int .i64 7))), .m 37 kx]) (.cond jI .skip (.run [.o 39 (.bin .eql cP (.k (.int .i64 8))), .m 37 jJ]))
abbrev U8:AC:= .cond jI .skip (.seq (.run [.o 2 (.mv (.k (.bool false)))]) .ret)
abbrev U9:AC:= .seq (.run [.o 34 (.bin .eql cP (.k (.int .i64 9))), .m 33 iy]) (.cond gp (.run [.o 35 (.ay bo 9), .o 36 (.load gQ false 1), .m 5 iV, .o 6 (.mv (.k (.bool false)))]) (.seq U7 U8))
abbrev Va:AC:= .seq (.run [.o 32 (.bin .eql cP (.k (.int .i64 6))), .m 31 gF]) (.cond gb (.run [.o 5 (.mv (.k (.bool true))), .o 7 (.mv (.k (.bool true)))]) U9)
abbrev Vb:AC:= .seq (.run [.o 30 (.bin .eql cP (.k (.int .i64 5))), .m 29 gn]) (.cond fP (.run [.o 5 (.mv (.k (.bool true))), .o 7 (.mv (.k (.bool true))), .o 8 (.mv (.k (.bool true)))]) Va)
abbrev Vc:AC:= .seq (.run [.o 25 (.bin .eql cP (.k (.int .i64 4))), .m 24 eQ]) (.cond eO (.run [.o 26 (.ay bo 3), .o 27 (.load e9 false 1), .o 28 (.bin .neq fh (.k (.str []))), .m 3 fO, .o 4 (.mv (.k (.bool true)))]) Vb)
abbrev Vd:AC:= .seq (.run [.o 23 (.bin .eql cP (.k (.int .i64 3))), .m 22 ek]) (.cond ej (.run [.o 5 (.mv (.k (.bool true)))]) Vc)
abbrev Ve:AC:= .seq U6 (.cond dU (.run [.o 3 (.mv (.k (.bool true)))]) Vd)
abbrev Vf:AC:= .seq (.run [.o 18 (.bin .eql cP (.k (.int .i64 1))), .m 17 dL]) (.cond dv (.run [.o 3 (.mv (.k (.bool true))), .o 5 (.mv (.k (.bool true)))]) Ve)
abbrev Vg:AC:= .run [.m 40 df, .m 41 lC, .g 42 41 false (.mv cb), .g 43 41 false (.un .not l5), .g 44 41 false (.mv l6), .g 45 44 true (.ay bo 11), .g 46 44 true (.load nu false 1), .g 47 44 true (.len nw), .g 48 44 true (.bin .gtr n8 (.k (.int .i64 0))), .g 49 41 false (.pick l7 n9 (.k (.bool false))), .o 50 (.pick kX (.k (.bool true)) ny), .m 51 oa, .g 52 51 false (.mv cz), .g 53 51 false (.un .not oc), .g 54 51 false (.mv od), .g 55 54 true (.ay bo 12), .g 56 54 true (.load pj false 1), .g 57 54 true (.len pk), .g 58 54 true (.bin .gtr po (.k (.int .i64 0))), .g 59 51 false (.pick oe pw (.k (.bool false))), .o 60 (.pick mC (.k (.bool true)) mD), .m 61 rH, .g 62 61 false (.mv dn), .g 63 61 false (.un .not sR), .g 64 61 false (.mv uI), .g 65 64 true (.ay bo 10), .g 66 64 true (.load wD false 1), .g 67 64 true (.len yE), .g 68 64 true (.bin .gtr wE (.k (.int .i64 0))), .g 69 61 false (.pick rI wF (.k (.bool false))), .o 70 (.pick uH (.k (.bool true)) yF)]
abbrev Vh:AC:= .cond yG (.seq (.run [.o 2 (.mv (.k (.bool false)))]) .ret) .skip
abbrev Vi:AC:= .cond Ql (.seq (.run [.o 2 (.mv (.k (.bool false)))]) .ret) .skip
abbrev Qp:AC:= .seq (.seq (.run [.o 71 (.ay bo 3), .o 72 (.load F6 false 1), .m 73 cv, .c 74 lB [B3,KV], .o 75 (.un .not KW), .m 76 KX, .g 77 76 false (.ay bo 4), .g 78 76 false (.load KY false 1), .g 79 76 false (.mv eg), .d 80 76 false lB [B4,Qb], .g 81 76 false (.un .not Qc), .o 82 (.pick F7 (.k (.bool true)) Qd), .m 83 Qe, .g 84 83 false (.ay bo 5), .g 85 83 false (.load Qg true 4), .g 86 83 false (.mv bN), .d 87 83 false nr [Qh,Qi], .g 88 83 false (.un .not Qj), .o 89 (.pick Qf (.k (.bool true)) Qk)]) Vi) (.seq (.run [.o 90 (.ay bo 10), .o 91 (.load Qm false 1), .c 92 ph [Qn], .m 2 Qo]) .ret)
abbrev Qq:AC:= .seq (.seq Vg Vh) Qp
abbrev KZ:AC:= .seq (.seq (.run [.o 15 (.ay bo 1), .o 16 (.load dg false 1)]) (.block 0 Vf)) Qq
abbrev Qr:AC:= .seq (.run [.o 12 (.ay bo 1), .o 13 (.load cG false 1), .o 14 (.bin .eql cV (.k (.int .i64 4))), .m 9 cO]) KZ
abbrev Qs:AC:= .seq U5 Qr
abbrev Vj:AC:= .seq (.run [.o 1 (.box bS), .o 2 (.mv (.k (.bool false)))]) Qs
end Go.Abs

/-! Have1 -/

namespace Go.Abs
open Go.Proofs
theorem B9:Has Try.prog kr 55 [(2,none)] ZI:=⟨Try.f32,by kernel_rfl,by kernel_rfl⟩
theorem Ay:Has Try.prog rB 23 [(2,none)] ZM:=⟨Try.f33,by kernel_rfl,by kernel_rfl⟩
theorem nz:Has Try.prog eC 9 [(4,none)] ZN:=⟨Try.f34,by kernel_rfl,by kernel_rfl⟩
theorem vG:Has Try.prog lf 8 [(3,none)] ZO:=⟨Try.f35,by kernel_rfl,by kernel_rfl⟩
theorem px:Has Try.prog bL 9 [(4,none)] ZP:=⟨Try.f36,by kernel_rfl,by kernel_rfl⟩
theorem vH:Has Try.prog jw 26 [(4,none)] ZR:=⟨Try.f37,by kernel_rfl,by kernel_rfl⟩
theorem xB:Has Try.prog mn 38 [(8,none)] ZX:=⟨Try.f38,by kernel_rfl,by kernel_rfl⟩
theorem qS:Has Try.prog pe 15 [(4,none)] ZY:=⟨Try.f39,by kernel_rfl,by kernel_rfl⟩
theorem Az:Has Try.prog rC 40 [(4,none)] Z4:=⟨Try.f40,by kernel_rfl,by kernel_rfl⟩
theorem xC:Has Try.prog pf 33 [(4,none)] Z8:=⟨Try.f41,by kernel_rfl,by kernel_rfl⟩
theorem tM:Has Try.prog jR 12 [(4,none)] Z9:=⟨Try.f42,by kernel_rfl,by kernel_rfl⟩
theorem yH:Has Try.prog ni 45 [(2,none)] QLJ:=⟨Try.f43,by kernel_rfl,by kernel_rfl⟩
theorem sf:Has Try.prog nj 21 [(4,none)] QLT:=⟨Try.f46,by kernel_rfl,by kernel_rfl⟩
theorem sg:Has Try.prog nk 28 [(4,none)] QMM:=⟨Try.f47,by kernel_rfl,by kernel_rfl⟩
theorem wG:Has Try.prog lN 41 [(4,none)] QNH:=⟨Try.f48,by kernel_rfl,by kernel_rfl⟩
theorem AA:Has Try.prog rD 36 [(4,(some (true,16))),(5,none),(6,none)] QOH:=⟨Try.f49,by kernel_rfl,by kernel_rfl⟩
theorem sh:Has Try.prog j5 7 [(2,none)] QON:=⟨Try.f50,by kernel_rfl,by kernel_rfl⟩
theorem Ca:Has Try.prog ku 40 [(4,none)] QPH:=⟨Try.f51,by kernel_rfl,by kernel_rfl⟩
theorem AB:Has Try.prog oA 6 [(2,none)] QPL:=⟨Try.f52,by kernel_rfl,by kernel_rfl⟩
theorem Cb:Has Try.prog nn 5 [(2,(some (true,4)))] QPP:=⟨Try.f53,by kernel_rfl,by kernel_rfl⟩
theorem AE:Has Try.prog iE 5 [(2,(some (true,4)))] QPT:=⟨Try.f54,by kernel_rfl,by kernel_rfl⟩
theorem Cc:Has Try.prog pR 12 [(6,(some (true,4)))] QPX:=⟨Try.f55,by kernel_rfl,by kernel_rfl⟩
theorem uK:Has Try.prog gD 29 [(4,none)] QQG:=⟨Try.f56,by kernel_rfl,by kernel_rfl⟩
theorem yI:Has Try.prog j6 15 [(2,none)] QR3:=⟨Try.f57,by kernel_rfl,by kernel_rfl⟩
theorem j7:Has Try.prog kv 27 [(2,none)] QRD:=⟨Try.f58,by kernel_rfl,by kernel_rfl⟩
theorem nA:Has Try.prog gP 71 [(6,none)] QSE:=⟨Try.f59,by kernel_rfl,by kernel_rfl⟩
theorem uL:Has Try.prog gE 73 [] QTG:=⟨Try.f60,by kernel_rfl,by kernel_rfl⟩
theorem oS:Has Try.prog ix 19 [(4,none)] QU3:=⟨Try.f61,by kernel_rfl,by kernel_rfl⟩
theorem yJ:Has Try.prog qh 37 [(6,none)] QV8:=⟨Try.f62,by kernel_rfl,by kernel_rfl⟩
theorem mE:Has Try.prog fe 9 [(4,none)] QVC:=⟨Try.f63,by kernel_rfl,by kernel_rfl⟩
theorem vI:Has Try.prog lg 8 [(3,none)] QVG:=⟨Try.f64,by kernel_rfl,by kernel_rfl⟩
theorem nO:Has Try.prog eH 19 [(4,none)] QW3:=⟨Try.f65,by kernel_rfl,by kernel_rfl⟩
theorem si:Has Try.prog iZ 8 [(3,none)] QW7:=⟨Try.f66,by kernel_rfl,by kernel_rfl⟩
theorem sj:Has Try.prog np 8 [(2,none)] QWH:=⟨Try.f67,by kernel_rfl,by kernel_rfl⟩
theorem yK:Has Try.prog qi 14 [(4,none)] QWL:=⟨Try.f70,by kernel_rfl,by kernel_rfl⟩
theorem sk:Has Try.prog qj 28 [(4,none)] QXE:=⟨Try.f71,by kernel_rfl,by kernel_rfl⟩
theorem wH:Has Try.prog lO 45 [(2,(some (true,13)))] QXZ:=⟨Try.f72,by kernel_rfl,by kernel_rfl⟩
theorem tx:Has Try.prog jG 65 [(10,none)] QYN:=⟨Try.f73,by kernel_rfl,by kernel_rfl⟩
theorem yL:Has Try.prog nq 9 [(2,none)] QYR:=⟨Try.f74,by kernel_rfl,by kernel_rfl⟩
theorem Ds:Has Try.prog uE 24 [(4,none)] QZ4:=⟨Try.f75,by kernel_rfl,by kernel_rfl⟩
theorem Cd:Has Try.prog sQ 18 [(2,none)] U4:=⟨Try.f76,by kernel_rfl,by kernel_rfl⟩
theorem xD:Has Try.prog pg 93 [(2,none)] Vj:=⟨Try.f77,by kernel_rfl,by kernel_rfl⟩
end Go.Abs

/-! Codes2 -/

namespace Go.Abs
abbrev Vk:AC:= .seq (.block 1 (.seq (.run [.o 13 (.bX dn cA 13), .o 14 (.load cV true 13), .o 5 (.alloc [(.int .i64 0),(.int .i64 0),(.slice .full 0 []),(.str []),(.str []),(.int .i64 0),(.int .i64 0),(.str []),(.slice .full 0 []),(.bool false),(.slice .full 0 []),(.slice .full 0 []),(.slice .full 0 [])]), .op none none (.store bN cO 13)]) (.run [.m 15 cv, .o 16 (.load bN true 13), .c 17 jH [cP], .o 18 (.bin .add dg dv), .m 3 dL]))) (.run [.o 19 (.bin .add cA (.k (.int .i64 1))), .m 11 dU])
abbrev Vl:AC:= .block 0 (.loop (.seq (.run [.o 12 (.bin .lss cA cD)]) (.seq (.cond cG .skip (.exit 0)) Vk)))
abbrev Vm:AC:= .seq (.block 3 (.seq (.run [.o 25 (.bX dV ek 13), .o 26 (.load eQ true 13), .o 7 (.alloc [(.int .i64 0),(.int .i64 0),(.slice .full 0 []),(.str []),(.str []),(.int .i64 0),(.int .i64 0),(.str []),(.slice .full 0 []),(.bool false),(.slice .full 0 []),(.slice .full 0 []),(.slice .full 0 [])]), .op none none (.store cb e9 13)]) (.run [.m 27 cv, .o 28 (.load cb true 13), .c 29 jH [fO], .o 30 (.bin .add fh fP), .m 3 gn]))) (.run [.o 31 (.bin .add ek (.k (.int .i64 1))), .m 23 gb])
abbrev Vn:AC:= .block 2 (.loop (.seq (.run [.o 24 (.bin .lss ek ej)]) (.seq (.cond eO .skip (.exit 2)) Vm)))
abbrev Vo:AC:= .seq (.seq (.run [.o 20 (.ay bo 12), .o 21 (.load dX false 1), .o 22 (.len dV), .o 23 (.mv (.k (.int .i64 0)))]) Vn) (.seq (.run [.m 32 cv, .m 2 gF]) .ret)
abbrev Vp:AC:= .seq (.seq (.run [.o 8 (.ay bo 11), .o 9 (.load cz false 1), .o 10 (.len dn), .o 11 (.mv (.k (.int .i64 0)))]) Vl) Vo
abbrev Vq:AC:= .seq (.run [.o 1 (.box bS), .o 2 (.mv (.k (.int .i64 0)))]) (.seq (.run [.o 3 (.mv (.k (.int .i64 1)))]) Vp)
abbrev Vr:AC:= .seq (.run [.o 1 (.box bS), .o 2 (.mv (.k (.bool false)))]) (.seq (.run [.o 3 (.load bo true 4), .c 4 mg [cv,(.k (.int .i64 20))], .m 2 eg]) .ret)
abbrev Vs:AC:= .seq (.block 1 (.seq (.run [.o 27 (.bX ek eQ 4), .o 28 (.load fh true 4), .o 6 (.alloc [(.int .i64 0),(.int .i64 0),(.str []),(.slice .full 0 [])]), .op none none (.store df fO 4)]) (.run [.o 29 (.load df true 4), .m 30 bo, .c 31 fK [fP,gn], .m 1 gb]))) (.run [.o 32 (.bin .add eQ (.k (.int .i64 1))), .m 25 gF])
abbrev Vt:AC:= .block 0 (.loop (.seq (.run [.o 26 (.bin .lss eQ eO)]) (.seq (.cond e9 .skip (.exit 0)) Vs)))
abbrev Vu:AC:= .seq (.seq (.run [.o 22 (.ay du 3), .o 23 (.load ej false 1), .o 24 (.len ek), .o 25 (.mv (.k (.int .i64 0)))]) Vt) (.seq (.run [.m 33 bo, .m 4 gp]) .ret)
abbrev Vv:AC:= .seq (.seq (.run [.o 7 (.ay du 0), .o 8 (.load cb false 1), .o 9 (.bin .eql cz (.k (.int .i64 2))), .m 10 dn, .g 11 10 true (.mv bo), .g 12 10 true (.ay du 2), .g 13 10 true (.load cG false 1), .d 14 10 true bL [cA,cV], .g 15 10 true (.un .not cO), .o 16 (.pick cD dg (.k (.bool false)))]) (.cond cP (.run [.m 17 bo, .o 18 (.ay du 2), .o 19 (.load dL false 1), .o 20 (.c7 [(.str [])] 1 1 [(0,dU)]), .o 21 (.app 1 16 dv dX), .m 1 dV]) .skip)) Vu
abbrev Vw:AC:= .seq (.run [.o 2 (.box bS), .o 4 (.mv (.k (.slice .full 0 [])))]) Vv
abbrev Vx:AC:= .par [.o 18 (.ay cv 3), .o 19 (.load dL false 1), .o 20 (.ay bo 3), .o 21 (.load dX false 1), .m 22 eg, .o 23 (.bX dV ej 4), .o 24 (.load ek true 4), .c 25 ga [eO], .o 26 (.c7 [(.int .i64 0),(.int .i64 0),(.str []),(.slice .full 0 [])] 4 1 [(0,eQ)]), .o 27 (.app 4 56 dU e9), .o 28 (.ay cv 3), .op none none (.store fO fh 1)] [(2,0),(3,0),(4,0),(5,0),(6,0),(7,0),(0,0),(1,1),(8,0),(9,0),(10,0),(11,0)]
abbrev Vy:AC:= .seq (.cond cP .skip (.exit 0)) (.seq (.block 1 (.seq (.run [.m 17 dg, .m 4 dv]) Vx)) (.run [.o 29 (.bin .add dg (.k (.int .i64 1))), .m 15 fP]))
abbrev Vz:AC:= .seq (.run [.o 12 (.ay bo 3), .o 13 (.load cG false 1), .o 14 (.len cV), .o 15 (.mv (.k (.int .i64 0)))]) (.block 0 (.loop (.seq (.run [.o 16 (.bin .lss dg cO)]) Vy)))
abbrev VA:AC:= .seq (.run [.o 1 (.box bS), .o 2 (.alloc [(.int .i64 0),(.int .i64 0),(.str []),(.slice .full 0 [])])]) (.seq (.run [.o 5 (.ay bo 0), .o 6 (.load bN false 1), .o 7 (.ay bo 1), .o 8 (.load cb false 1), .o 9 (.ay bo 2), .o 10 (.load dn false 1), .o 11 (.build [(.int .i64 0),(.int .i64 0),(.str []),(.slice .full 0 [])] [(0,(1,df)),(1,(1,cz)),(2,(1,cD))]), .o 3 (.alloc [(.int .i64 0),(.int .i64 0),(.str []),(.slice .full 0 [])]), .op none none (.store cv cA 4)]) (.seq Vz (.seq (.run [.o 30 (.load cv true 4), .op none none (.store du gn 4)]) .ret)))
abbrev VB:AC:= .seq (.run [.o 2 (.mv (.k (.bool false)))]) (.seq (.run [.m 3 bS, .o 4 (.bin .geq cv (.k (.int .u8 48))), .m 5 eg, .g 6 5 true (.mv bS), .g 7 5 true (.bin .leq df (.k (.int .u8 57))), .o 8 (.pick bN cb (.k (.bool false))), .m 2 cz]) .ret)
abbrev VC:AC:= .seq (.run [.o 4 (.mv (.k (.bool false)))]) (.seq (.run [.m 5 bo, .m 6 bN, .g 7 6 true (.mv bS), .d 8 6 true kv [cb], .o 9 (.pick df cz (.k (.bool false))), .m 10 dn, .g 11 10 false (.mv bo), .g 12 10 false (.un .not cA), .g 13 10 false (.mv cG), .g 14 13 true (.mv bS), .g 15 13 true (.bin .eql cO (.k (.str []))), .g 16 10 false (.pick cV dg (.k (.bool false))), .o 17 (.pick cD (.k (.bool true)) cP), .m 4 dv]) .ret)
abbrev VD:AC:= .seq (.run [.o 2 (.box bS), .o 4 (.mv (.k (.bool false)))]) (.seq (.run [.m 5 bo, .m 6 bN, .g 7 6 true (.load du true 4), .d 8 6 true lP [cb], .o 9 (.pick df cz (.k (.bool false))), .m 10 dn, .g 11 10 false (.mv bo), .g 12 10 false (.un .not cA), .g 13 10 false (.mv cG), .g 14 13 true (.load du true 4), .d 15 13 true rF [cO], .g 16 10 false (.pick cV dg (.k (.bool false))), .o 17 (.pick cD (.k (.bool true)) cP), .m 4 dv]) .ret)
abbrev VE:AC:= .cond eQ (.seq (.run [.o 2 (.mv (.k (.bool false)))]) .ret) .skip
abbrev VF:AC:= .seq (.run [.o 9 (.bX bN cb 6), .o 10 (.load dn true 6), .o 4 (.alloc [(.bool false),(.str []),(.int .i64 0),(.int .i64 0),(.str []),(.slice .full 0 [])]), .op none none (.store eg cD 6)]) (.seq (.run [.o 11 (.ay eg 1), .o 12 (.load cA false 1), .o 13 (.ay eg 0), .o 14 (.load cV false 1), .c 15 lB [cG,cO], .o 16 (.un .not dg), .m 17 cP, .g 18 17 false (.ay eg 2), .g 19 17 false (.load dL true 4), .g 20 17 false (.ay eg 0), .g 21 17 false (.load dX false 1), .g 22 17 false (.un .not dV), .d 23 17 false nr [dU,ej], .g 24 17 false (.un .not ek), .o 25 (.pick dv (.k (.bool true)) eO)]) VE)
abbrev VG:AC:= .seq (.cond cz .skip (.exit 0)) (.seq (.block 1 VF) (.run [.o 26 (.bin .add cb (.k (.int .i64 1))), .m 7 e9]))
abbrev VH:AC:= .seq (.run [.m 5 bS, .o 6 (.len bN), .o 7 (.mv (.k (.int .i64 0)))]) (.block 0 (.loop (.seq (.run [.o 8 (.bin .lss cb df)]) VG)))
abbrev VI:AC:= .seq VH (.seq (.run [.o 2 (.mv (.k (.bool true)))]) .ret)
abbrev VJ:AC:= .seq (.run [.o 2 (.mv (.k (.bool false)))]) VI
abbrev VK:AC:= .par [.m 7 bo, .o 8 (.bin .lss cb (.k (.int .i64 1))), .m 9 cz, .g 10 9 false (.ay du 3), .g 11 9 false (.load cD false 1), .g 12 9 false (.len cA), .g 13 9 false (.ay du 0), .g 14 9 false (.load cV false 1), .d 15 9 false rG [cO], .g 16 9 false (.bin .neq cG dg), .o 17 (.pick dn (.k (.bool true)) cP)] [(0,0),(1,0),(2,0),(6,0),(7,0),(8,0),(3,0),(4,1),(5,0),(9,0),(10,0)]
abbrev VL:AC:= .cond dv (.seq (.run [.o 4 (.mv (.k (.bool false)))]) .ret) .skip
abbrev VM:AC:= .cond gn (.seq (.run [.o 32 (.ay du 1), .o 33 (.load gF false 1), .o 34 (.bin .eql gp (.k (.int .i64 0))), .m 35 iy, .g 36 35 true (.ay du 2), .g 37 35 true (.load iV false 1), .d 38 35 true kv [jI], .o 39 (.pick gQ kx (.k (.bool false))), .m 4 jJ]) .ret) .skip
abbrev VN:AC:= .cond dX (.seq (.run [.o 22 (.ay du 1), .o 23 (.load ej false 1), .o 24 (.bin .geq ek (.k (.int .i64 0))), .m 25 eO, .g 26 25 true (.ay du 2), .g 27 25 true (.load e9 false 1), .g 28 25 true (.bin .eql fh (.k (.str []))), .o 29 (.pick eQ fO (.k (.bool false))), .m 4 fP]) .ret) (.seq (.run [.o 31 (.bin .eql dU (.k (.int .i64 2))), .m 30 gb]) VM)
abbrev VO:AC:= .block 0 (.seq (.run [.o 21 (.bin .eql dU (.k (.int .i64 1))), .m 20 dV]) VN)
abbrev VP:AC:= .cond n8 (.seq (.run [.o 4 (.mv (.k (.bool false)))]) .ret) .skip
abbrev VQ:AC:= .cond mD (.seq (.run [.o 4 (.mv (.k (.bool false)))]) .ret) .skip
abbrev VR:AC:= .seq (.run [.o 53 (.bX ny mC 4), .o 54 (.load od true 4), .o 6 (.alloc [(.int .i64 0),(.int .i64 0),(.str []),(.slice .full 0 [])]), .op none none (.store df oe 4)]) (.seq (.run [.o 55 (.load df true 4), .m 56 bo, .o 57 (.bin .sub pk (.k (.int .i64 1))), .c 58 mg [pj,po], .o 59 (.un .not pw)]) VQ)
abbrev VS:AC:= .seq (.cond oc .skip (.exit 1)) (.seq (.block 2 VR) (.run [.o 60 (.bin .add mC (.k (.int .i64 1))), .m 51 rH]))
abbrev VT:AC:= .seq (.run [.o 48 (.ay du 3), .o 49 (.load n9 false 1), .o 50 (.len ny), .o 51 (.mv (.k (.int .i64 0)))]) (.block 1 (.loop (.seq (.run [.o 52 (.bin .lss mC oa)]) VS)))
abbrev VU:AC:= .seq VT (.seq (.run [.o 4 (.mv (.k (.bool true)))]) .ret)
abbrev VV:AC:= .seq (.seq (.run [.o 40 (.ay du 1), .o 41 (.load lC false 1), .o 42 (.bin .neq kX (.k (.int .i64 0))), .m 43 l5, .g 44 43 false (.ay du 2), .g 45 43 false (.load l7 false 1), .g 46 43 false (.bin .neq nu (.k (.str []))), .o 47 (.pick l6 (.k (.bool true)) nw)]) VP) VU
abbrev VW:AC:= .seq (.run [.o 2 (.box bS), .o 4 (.mv (.k (.bool false)))]) (.seq (.seq VK VL) (.seq (.seq (.run [.o 18 (.ay du 0), .o 19 (.load dL false 1)]) VO) VV))
abbrev VX:AC:= .seq (.run [.o 1 (.box bS), .o 2 (.mv (.k (.bool false)))]) (.seq (.run [.o 3 (.ay bo 0), .o 4 (.load cv false 1), .o 5 (.bin .eql eg (.k (.int .i64 0))), .m 6 bN, .g 7 6 true (.ay bo 1), .g 8 6 true (.load cb false 1), .g 9 6 true (.bin .eql cz (.k (.int .i64 0))), .o 10 (.pick df dn (.k (.bool false))), .m 11 cD, .g 12 11 true (.ay bo 2), .g 13 11 true (.load cG false 1), .g 14 11 true (.bin .eql cV (.k (.str []))), .o 15 (.pick cA cO (.k (.bool false))), .m 16 dg, .g 17 16 true (.ay bo 3), .g 18 16 true (.load dv false 1), .g 19 16 true (.len dL), .g 20 16 true (.bin .eql dU (.k (.int .i64 0))), .o 21 (.pick cP dX (.k (.bool false))), .m 2 dV]) .ret)
abbrev VY:AC:= .cond dv (.seq (.run [.o 2 (.mv (.k (.int .i64 2)))]) .ret) .skip
abbrev VZ:AC:= .cond cD (.seq (.run [.o 2 (.mv (.k (.int .i64 1)))]) .ret) (.seq (.run [.m 18 bS, .o 19 (.bin .geq dL (.k (.int .i64 5))), .m 20 dU, .g 21 20 true (.mv bS), .g 22 20 true (.bin .leq dV (.k (.int .i64 17))), .o 23 (.pick dX ej (.k (.bool false))), .m 17 ek]) VY)
abbrev V0:AC:= .cond cv (.seq (.run [.o 2 (.mv (.k (.int .i64 0)))]) .ret) (.seq (.run [.m 11 bS, .o 12 (.bin .eql cA (.k (.int .i64 3))), .m 13 cG, .g 14 13 false (.mv bS), .g 15 13 false (.bin .eql cO (.k (.int .i64 4))), .o 16 (.pick cV (.k (.bool true)) dg), .m 10 cP]) VZ)
abbrev V1:AC:= .block 0 (.seq (.run [.m 4 bS, .o 5 (.bin .eql eg (.k (.int .i64 1))), .m 6 bN, .g 7 6 false (.mv bS), .g 8 6 false (.bin .eql cb (.k (.int .i64 2))), .o 9 (.pick df (.k (.bool true)) cz), .m 3 dn]) V0)
abbrev V2:AC:= .seq (.run [(.o 2 (.mv (.k (.int .i64 (-1)))))]) .ret
abbrev V3:AC:= .seq (.run [.o 2 (.mv (.k (.int .i64 0)))]) (.seq V1 V2)
end Go.Abs

/-! Have2 -/

namespace Go.Abs
open Go.Proofs
theorem AG:Has Try.prog jH 33 [(2,none)] Vq:=⟨Try.f78,by kernel_rfl,by kernel_rfl⟩
theorem wI:Has Try.prog lP 5 [(2,none)] Vr:=⟨Try.f79,by kernel_rfl,by kernel_rfl⟩
theorem nB:Has Try.prog fK 34 [(4,none)] Vw:=⟨Try.f80,by kernel_rfl,by kernel_rfl⟩
theorem vJ:Has Try.prog ga 31 [(2,(some (true,4)))] VA:=⟨Try.f92,by kernel_rfl,by kernel_rfl⟩
theorem AH:Has Try.prog rE 9 [(2,none)] VB:=⟨Try.f93,by kernel_rfl,by kernel_rfl⟩
theorem yM:Has Try.prog lB 18 [(4,none)] VC:=⟨Try.f94,by kernel_rfl,by kernel_rfl⟩
theorem yN:Has Try.prog nr 18 [(4,none)] VD:=⟨Try.f95,by kernel_rfl,by kernel_rfl⟩
theorem xE:Has Try.prog ph 27 [(2,none)] VJ:=⟨Try.f96,by kernel_rfl,by kernel_rfl⟩
theorem tz:Has Try.prog mg 61 [(4,none)] VW:=⟨Try.f97,by kernel_rfl,by kernel_rfl⟩
theorem AJ:Has Try.prog rF 22 [(2,none)] VX:=⟨Try.f104,by kernel_rfl,by kernel_rfl⟩
theorem AL:Has Try.prog rG 24 [(2,none)] V3:=⟨Try.f105,by kernel_rfl,by kernel_rfl⟩
end Go.Abs

/-! Have3 -/



/-! Frz -/

namespace Go.Abs
theorem aI.tT {P:Program} {f:Nat} {args:List D} {s0 s:St} {o off n m:Nat} {row:List D} (h:aI P f args s0 (.ptr o off) s) (ho:s.av[o]? = some row) (hn:s0.av.length≤n) (hno:n≤o) (hm:s0.aw.length≤m) :
 aI P f args s0 (.dc (D.fA n m row) off) (s.cut n m):=by
 intro M0 w0 eZ r0 iY V4 ha
 refine(h M0 w0 eZ r0 iY V4 ha).mono ?_
 rintro en w ⟨M,d,v0,s',rfl,⟨rfl,rfl⟩,e,r,hv⟩
 have rW:=hv.ud
 have mZ:v0 = .pointer (some ⟨M.mu o,off,none⟩):=hv.nZ.1
 have F8:o<s'.av.length:=(List.getElem?_eq_some_iff.1 ho).1
 obtain⟨vs,T,hh,dC,⟨iP,_⟩,mc⟩:=r.obj o row ho
 replace hh:=hh.cells rW
 let M':Map:= {M with G:=fun b q=>if b=M.mu o then vs[q]? else M.G b q}
 have hGo : ∀ q,M.G (M.mu o) q=none:=r.iO o F8
 have le:Le M s' M' s':=⟨fun b q v hq=>by
  show(if b=M.mu o then vs[q]? else M.G b q)=some v
  by_cases hb:b=M.mu o
  ·subst hb;rw [hGo]at hq;cases hq
  ·rw [if_neg hb];exact hq,Nat.le_refl _,fun _ _=>rfl,Nat.le_refl _,fun t n' _ e=>⟨n',e,Nat.le_refl _,fun _=>rfl⟩⟩
 have hD : ∀ q,q<(s'.cut n m).av.length→q<s'.av.length∧q≠o:=fun q h=>by rw [mz]at h;omega
 have qT:w0.heap.size≤M.mu o:=e.mT o (by omega) F8
 have ec:=e.cut hn hm
 have Qt:Le M (s'.cut n m) M' (s'.cut n m):=⟨le.G,Nat.le_refl _,fun _ _=>rfl,Nat.le_refl _,fun t n' _ e=>⟨n',e,Nat.le_refl _,fun _=>rfl⟩⟩
 have rc:=r.cut n m
 have oE : ∀ b,b≠M.mu o→∀ q,M'.G b q=M.G b q:=fun b hb q=>if_neg hb
 refine⟨M',_,v0,_,rfl,⟨rfl,rfl⟩,⟨ec.le.trans Qt,ec.kept,ec.mT,ec.mU,fun b q dP=> ?_,ec.size,ec.os,ec.tape,ec.output⟩,⟨fun b q v hq=> ?_,fun q ds hq=> ?_,fun q hq rh=> ?_,rc.inj,fun t n' Hg=> ?_,rc.dW,rc.eW⟩, ?_⟩
 ·by_cases hb:b=M.mu o
  ·subst hb;exact .inl qT
  ·rw [oE b hb]at dP;exact ec.o4 b q dP
 ·have nR:(if b=M.mu o then vs[q]? else M.G b q)=some v:=hq
  by_cases hb:b=M.mu o
  ·rw [if_pos hb]at nR
   rw [hb,iC hh]
   exact⟨nR,iP v (Array.mem_of_getElem? nR)⟩
  ·rw [if_neg hb]at nR
   exact r.comm b q v nR
 ·obtain⟨ew,T',h3,h4,h5,h6⟩:=rc.obj q ds hq
  exact⟨ew,T',h3,h4,h5,fun i d v e1 e2=>(h6 i d v e1 e2).mono Qt⟩
 ·obtain⟨h3,h4⟩:=hD q hq
  show M'.G (M.mu q) rh=none
  rw [oE _ (fun e=>h4 (r.inj q o h3 F8 e))]
  exact r.iO q h3 rh
 ·rcases rc.tok t n' Hg with h3 | ⟨b,cap,z,ew,T',h3,h4,h5,h6,h7⟩
  ·exact .inl h3
  ·refine .inr ⟨b,cap,z,ew,T',h3,h4,h5,h6,fun rh wy=> ?_,h7.2⟩
   rw [oE _ (fun e=>r.dW t b cap z o (qd ⟨n',Hg⟩) h3 F8 e.symm)]
   exact h7.1 rh wy
 ·rw [mZ]
  have:=RD.dc (M:=M') (s:=s'.cut n m) (D.fA n m row) off (M.mu o) 0 (fun i d e1=> ?_) (fun i d u e1 eu=> ?_)
  ·simpa using this
  ·rw [kI,List.getElem?_map,Option.map_eq_some_iff]at e1
   obtain⟨d0,e1,rfl⟩:=e1
   have hi:=(List.getElem?_eq_some_iff.1 e1).1
   refine⟨vs[i]'(by omega), ?_⟩
   show(if M.mu o=M.mu o then vs[0+i]? else _)=_
   rw [if_pos rfl,Nat.zero_add]
   exact Array.getElem?_eq_getElem _
  ·rw [kI,List.getElem?_map,Option.map_eq_some_iff]at e1
   obtain⟨d0,e1,rfl⟩:=e1
   have DT:(if M.mu o=M.mu o then vs[0+i]? else M.G (M.mu o) (0+i))=some u:=eu
   rw [if_pos rfl,Nat.zero_add]at DT
   exact((mc i d0 u e1 DT).fg n m).mono Qt
theorem aI.goK {P:Program} {f:FuncId} {res:List (Nat×Option (Bool×Nat))} {body:AC} {args:List D} {s:St} {d:D} {s':St} {nt:Nat} (n m:Nat) (hn:s.av.length≤n) (hm:s.aw.length≤m) (h0:Has P f nt res body) (hl:Nat.ble args.length nt=true)
 (h : ∀ (B:fw) (Q:Exit→Tm→St→Prop),B.s=s→n6 n m res d s'=Q→iT P B nt body Q (k9 0 args) s):aI P f args s d s':=by
 obtain⟨fn,hf,hc⟩:=h0
 refine dJ.Mh (dJ.intro (Q:=fun d1 s1=>Wk d1 d∧fS s1.av s'.av∧s1.aw=s'.aw) hf hc (Nat.le_of_ble_eq_true hl) fun B hB=>(gO (h B _ hB rfl)).mono fun e tm s1 hr=> ?_) fun d1 s1 ⟨h1,h2,h3⟩=>⟨d,s',h1,h2,h3,rfl,rfl⟩
 subst hB
 cases e with
 | normal=>obtain⟨l,h1,h2,h3,h4⟩:=hr;exact⟨l,h1,_,_,hn,hm,h2,h3,h4⟩
 | ret=>obtain⟨l,h1,h2,h3,h4⟩:=hr;exact⟨l,h1,_,_,hn,hm,h2,h3,h4⟩
 | exit id=>exact hr.elim
 | goto l=>exact hr.elim
 | panic ch=>exact hr.elim
 | outgrown=>exact hr.elim
end Go.Abs

/-! MirLex -/

namespace Go.Abs
def uM (c:UInt8):Bool:=decide ((c.toNat:Int)≥97) && decide ((c.toNat:Int)≤122)
def xF (c:UInt8):Bool:=decide ((c.toNat:Int)≥48) && decide ((c.toNat:Int)≤57)
def isB (c:UInt8):Bool:=(c.toNat:Int)==32 || (c.toNat:Int)==9 || (c.toNat:Int)==10 || (c.toNat:Int)==13
def lE:aD→Nat
 | []=>0
 | c::r=>if uM c || xF c then lE r+1 else 0
def Qu:aD→Nat
 | []=>0
 | c::r=>if xF c then Qu r+1 else 0
def Ga:aD→Nat
 | []=>0
 | c::r=>if(c.toNat:Int) != 10 then Ga r+1 else 0
def isWord (s:aD):Bool:=
 s == [103,108,111,98,97,108] || s == [112,114,111,99] || s == [118,97,114] || s == [114,101,102] || s == [105,102] || s == [101,108,115,101] || s == [119,104,105,108,101] || s == [98,114,101,97,107] || s == [99,111,110,116,105,110,117,101] || s == [114,101,116,117,114,110] || s == [103,111,116,111] || s == [114,101,97,100] || s == [112,114,105,110,116]
def SF (s:aD):Bool:=s == [61,61] || s == [33,61] || s == [60,61] || s == [62,61] || s == [38,38] || s == [124,124]
def MI (c:UInt8):Bool:=
 (c.toNat:Int)==40 || (c.toNat:Int)==41 || (c.toNat:Int)==123 || (c.toNat:Int)==125 || (c.toNat:Int)==44 || (c.toNat:Int)==59 || (c.toNat:Int)==58 || (c.toNat:Int)==61 ||
 (c.toNat:Int)==33 || (c.toNat:Int)==60 || (c.toNat:Int)==62 || (c.toNat:Int)==43 || (c.toNat:Int)==45 || (c.toNat:Int)==42 || (c.toNat:Int)==47 || (c.toNat:Int)==37
def MJ:aD→Nat
 | []=>0
 | [c]=>if MI c then 1 else 0
 | c::d::_=>if SF [c,d]then 2 else if MI c then 1 else 0
def Gb:Int→aD→Option Int
 | n,[]=>some n
 | n,c::r=>if n > (9223372036854775807 - ((c.toNat:Int) - 48)) / 10 then none else Gb (n*10+((c.toNat:Int) - 48)) r
def V5 (pos:Nat):aD→me ⊕ Int
 | []=> .inr 2
 | c::r=>
  if uM c then
   let s:=(c::r).take (lE (c::r))
   if s.length > 8 then .inr 4 else .inl ⟨if isWord s then 3 else 1,s,0,pos⟩
  else if xF c then
   let s:=(c::r).take (Qu (c::r))
   if s.length > 1∧(c.toNat:Int)=48 then .inr 2 else
   match Gb 0 s with
   | some n=> .inl ⟨2,s,n,pos⟩
   | none=> .inr 4
  else
   if MJ (c::r)=0 then .inr 2 else .inl ⟨4,(c::r).take (MJ (c::r)),0,pos⟩
def Gc:Nat→Nat→aD→List me→List me×Int×Int
 | 0,_,_,_=>([],0,0)
 | _+1,pos,[],out=>(out++ [⟨0,[],0,pos⟩],0,0)
 | n+1,pos,c::r,out=>
  if isB c then Gc n (pos+1) r out
  else if(c.toNat:Int)==35 then Gc n (pos+Ga (c::r)) ((c::r).drop (Ga (c::r))) out
  else match V5 pos (c::r)with
   | .inr e=>([],e,pos)
   | .inl t=>if out.length=2000 then([],4,pos)else Gc n (pos+t.text.length) ((c::r).drop t.text.length) (out++ [t])
def sm (text:aD):List me×Int×Int:=if text.length > 100000 then([],4,0)else Gc (text.length+1) 0 text []
end Go.Abs

/-! MirMay -/

namespace Go.Abs
def vu:aD→Bool
 | []=>true
 | c::r=>if !(uM c) && !(xF c)then false else vu r
def isName:aD→Bool
 | []=>false
 | c::r=>if decide (((r.length+1:Nat):Int) > 8) || !(uM c)then false else if vu r then !(isWord (c::r))else false
def mh (op:Int):Int:=if op==1 || op==2 then 0 else if op==3 || op==4 then 1 else if decide (op≥5) && decide (op≤17)then 2 else -1
mutual
def Ex.form:Ex→Bool
 | ⟨op,n,name,kids⟩=>
  if mh op != (kids.length:Int) || (op != 1 && n != 0) || decide (n<0) || !((op==2) == !(name == [])) || (!(name == []) && !(isName name))then false else Ex.oB kids
def Ex.oB:List Ex→Bool
 | []=>true
 | x::l=>if !(Ex.form x)then false else Ex.oB l
end
mutual
def Ex.texts:Ex→Prop
 | ⟨_,_,name,kids⟩=>name.length<4611686018427387904∧Ex.qk kids
def Ex.qk:List Ex→Prop
 | []=>True
 | x::l=>x.texts∧Ex.qk l
end
theorem Ex.xG {x:Ex} : ∀ {l:List Ex},Ex.qk l→x∈l→x.texts
 | y::l,h,m=>by
  rcases List.mem_cons.1 m with rfl | m
  ·exact h.1
  ·exact Ex.xG h.2 m
theorem Ex.Ia {op n:Int} {name:aD} {kids:List Ex} (h:Ex.texts ⟨op,n,name,kids⟩) {y:Ex} (m:y∈kids):y.texts:=Ex.xG h.2 m
def Ex.may (x:Ex):Bool:=decide (((min x.depth 21:Nat):Int)≤20) && x.form
def Ex.none (x:Ex):Bool:=x.op==0 && x.n==0 && x.name == [] && (x.kids.length:Int)==0
def dw:List aD→Bool
 | []=>true
 | s::l=>if !(isName s)then false else dw l
def Ar.may (a:Ar):Bool:=if a.ref then isName a.name && a.x.none else a.name == [] && a.x.may
def Ar.dN:List Ar→Bool
 | []=>true
 | a::l=>if !(a.may)then false else Ar.dN l
def Sm.yO (s:Sm):Bool:=s.kind==1 || s.kind==3 || s.kind==5 || s.kind==6 || (s.kind==9 && s.has)
def Sm.hasName (s:Sm):Bool:=s.kind==1 || s.kind==2 || s.kind==10
def Sm.oT (s:Sm):Bool:=s.kind==4
def Sm.one (s:Sm):Bool:=
 if decide (s.kind<1) || decide (s.kind > 10) || !(dw s.labels) || (s.yO && !(s.x.may)) || (!(s.yO) && !(s.x.none)) || (s.has && s.kind != 9)then false
 else if(s.hasName && !(isName s.name)) || (!(s.hasName) && !(s.name == []) && !(s.oT && isName s.name))then false
 else if !(s.oT == !(s.proc == [])) || (s.oT && !(isName s.proc)) || (!(s.oT) && decide ((s.args.length:Int) > 0))then false
 else if !(Ar.dN s.args)then false
 else((s.aY.length:Int)==0 || s.kind==5 || s.kind==6) && ((s.aM.length:Int)==0 || s.kind==5)
structure It where
 s:Sm
 deep:Int
 bC:Int
 aM:Bool
mutual
def fk (deep bC:Int) (aM:Bool) (out:List It):Sm→List It
 | ⟨id,kind,labels,name,proc,x,has,args,aY,e⟩=>
  if decide (deep≤12)then cB (deep+1) id true (cB (deep+1) id false (out++ [⟨⟨id,kind,labels,name,proc,x,has,args,aY,e⟩,deep,bC,aM⟩]) aY) e
  else out++ [⟨⟨id,kind,labels,name,proc,x,has,args,aY,e⟩,deep,bC,aM⟩]
def cB (deep bC:Int) (aM:Bool) (out:List It):List Sm→List It
 | []=>out
 | s::l=>if decide ((out.length:Int)≤200)then cB deep bC aM (fk deep bC aM out s) l else out
end
def Pc.flat (f:Pc):List It:=cB 1 0 false [] f.body
def allM (out:List It):List Pc→List It
 | []=>out
 | f::l=>if decide (((out++f.flat).length:Int) > 200)then out++f.flat else allM (out++f.flat) l
def Pg.all (p:Pg):List It:=allM [] p.procs
def Pm.dN:List Pm→Bool
 | []=>true
 | a::l=>if !(isName a.name)then false else Pm.dN l
def Pc.jx:List Pc→Bool
 | []=>true
 | f::l=>
  if !(isName f.name) || decide ((f.params.length:Int) > 8) || decide ((f.vars.length:Int) > 16) || !(dw f.vars) || !(dw f.fin)then false
  else if !(Pm.dN f.params)then false else Pc.jx l
def It.dN (n:Nat):List It→Bool
 | []=>true
 | i::l=>if i.s.id != ((n+1:Nat):Int) || decide (i.deep > 12) || !(i.s.one)then false else It.dN (n+1) l
def Pg.may (p:Pg):Bool:=
 if decide ((p.globals.length:Int) > 16) || decide ((p.procs.length:Int) > 16) || !(dw p.globals)then false
 else if !(Pc.jx p.procs)then false
 else if decide ((p.all.length:Int) > 200)then false else It.dN 0 p.all
end Go.Abs

/-! Prs -/

namespace Go.Abs
open Go.Proofs
@[go_sem] def adK (r:Rd):List D:= [.slice .shared 4 (r.l.map gy), .int .i64 r.i, .int .i64 r.code, .int .i64 r.B2, .int .i64 r.n]
end Go.Abs

/-! Lex1 -/

namespace Go.Abs
set_option maxRecDepth 8000
open Go.Proofs
theorem og (c:UInt8) (s:St):aI Try.prog nq [.int .u8 (c.toNat:Int)] s (.bool (uM c)) s:=by
 refine aI.pure ?_ rfl rfl s
 generalize h:uM c=b
 unfold uM at h
 unfold S0
 refine aI.go yL rfl fun B Q hB hQ=> ?_
 have⟨hD,hJ,hP,hZ⟩:=b7
 repeat' (first
 | simp only [go_sem,hD,hJ,hP,hZ]
 | (with_reducible first | refine cm fun hc=> ?_ | refine cq fun hc=> ?_ | refine cr (fun hc=> ?_) fun hc=> ?_) <;> (try simp only [hc,bs, ↓reduceIte]at h) <;> try simp only [hc]
 | (with_reducible refine aJ hQ ?_;exact ik)
 | (cases h;done))
theorem yP (c:UInt8) (s:St):aI Try.prog rE [.int .u8 (c.toNat:Int)] s (.bool (xF c)) s:=by
 refine aI.pure ?_ rfl rfl s
 generalize h:xF c=b
 unfold xF at h
 unfold S0
 refine aI.go AH rfl fun B Q hB hQ=> ?_
 have⟨hD,hJ,hP,hZ⟩:=b7
 repeat' (first
 | simp only [go_sem,hD,hJ,hP,hZ]
 | (with_reducible first | refine cm fun hc=> ?_ | refine cq fun hc=> ?_ | refine cr (fun hc=> ?_) fun hc=> ?_) <;> (try simp only [hc,bs, ↓reduceIte]at h) <;> try simp only [hc]
 | (with_reducible refine aJ hQ ?_;exact ik)
 | (cases h;done))
theorem Qv (t:aD) (s:St):aI Try.prog sQ [.str t] s (.bool (isWord t)) s:=by
 refine aI.pure ?_ rfl rfl s
 generalize h:isWord t=b
 unfold isWord at h
 unfold S0
 refine aI.go Cd rfl fun B Q hB hQ=> ?_
 have⟨hD,hJ,hP,hZ⟩:=b7
 repeat' (first
 | simp only [go_sem,hD,hJ,hP,hZ]
 | (with_reducible first | refine cm fun hc=> ?_ | refine cq fun hc=> ?_ | refine cr (fun hc=> ?_) fun hc=> ?_) <;> (try simp only [hc,bs, ↓reduceIte]at h) <;> try simp only [hc]
 | (with_reducible refine aJ hQ ?_;exact ik)
 | (cases h;done))
theorem SG {text:aD} {pos:Nat} (hl:text.length<4611686018427387904) (s:St):aI Try.prog uE [.str text, .int .i64 (pos:Int)] s (.int .i64 ((pos+lE (text.drop pos):Nat):Int)) s:=by
 refine aI.pure ?_ rfl rfl s
 unfold S0
 refine aI.go Ds rfl fun B Q hB hQ=> ?_
 have⟨hD,hJ,hP,hZ⟩:=b7
 repeat' (first
 | simp only [go_sem,hD,hJ,hP,hZ]
 | (with_reducible first | refine cm fun hc=> ?_ | refine cq fun hc=> ?_ | refine cr (fun hc=> ?_) fun hc=> ?_) <;> (try simp only [hc,bs, ↓reduceIte]at h) <;> try simp only [hc]
 | (with_reducible refine aJ hQ ?_;exact ik)
 | (cases h;done))
 refine dG 0 0 (bq.ind (ι:=aD×Nat) (fun i=>text.drop i.2=i.1∧i.2+lE i.1=pos+lE (text.drop pos)) (fun i=>i.1.length)
  (fun i=> [(0, .str text),(1, .int .i64 (i.2:Int))]) (fun i=>⟨[],[]⟩) ?_ (text.drop pos,pos) ⟨rfl,rfl⟩)
 rintro⟨rest,k⟩ ⟨h1,h2⟩ IH
 dsimp only at h1 h2
 cases rest with
 | nil=>
  have hD:=drop_nil h1
  simp only [lE,Nat.add_zero]at h2
  rw [← h2]at hQ
  repeat' (first
 | simp only [go_sem,hD,hJ,hP,hZ]
 | (with_reducible first | refine cm fun hc=> ?_ | refine cq fun hc=> ?_ | refine cr (fun hc=> ?_) fun hc=> ?_) <;> (try simp only [hc,bs, ↓reduceIte]at h) <;> try simp only [hc]
 | (with_reducible refine aJ hQ ?_;exact ik)
 | (cases h;done))
 | cons c rest=>
  obtain⟨hJ,g2,hD,g4⟩:=drop_cons h1
  have hP:k<4611686018427387904:=by omega
  cases hb:(uM c || xF c)
  ·simp only [lE,hb,Bool.false_eq_true, ↓reduceIte,Nat.add_zero]at h2
   rw [← h2]at hQ
   simp only [Bool.or_eq_false_iff]at hb
   repeat' (first
 | simp only [go_sem,hD,hJ,hP,hZ,hb.1,hb.2]
 | (with_reducible refine CU (og _ _) ?_)
 | (with_reducible refine CU (yP _ _) ?_)
 | (with_reducible first | refine cm fun hc=> ?_ | refine cq fun hc=> ?_ | refine cr (fun hc=> ?_) fun hc=> ?_) <;> (try simp only [hc,bs, ↓reduceIte]at h) <;> try simp only [hc]
 | (with_reducible refine aJ hQ ?_;(try cases h);simp only [az,aB,cY,cZ,go_sem,hD,hJ,hP,hZ,hb.1,hb.2];try exact iD)
 | (cases h;done))
  ·simp only [lE,hb, ↓reduceIte]at h2
   cases xm:uM c
   ·rw [xm,Bool.false_or]at hb
    repeat' (first
 | simp only [go_sem,hD,hJ,hP,hZ,hb,xm]
 | (with_reducible refine CU (og _ _) ?_)
 | (with_reducible refine CU (yP _ _) ?_)
 | (with_reducible first | refine cm fun hc=> ?_ | refine cq fun hc=> ?_ | refine cr (fun hc=> ?_) fun hc=> ?_) <;> (try simp only [hc,bs, ↓reduceIte]at h) <;> try simp only [hc]
 | (with_reducible refine aJ hQ ?_;(try cases h);simp only [az,aB,cY,cZ,go_sem,hD,hJ,hP,hZ,hb,xm];try exact iD)
 | (cases h;done))
    refine dG 0 0 (IH (rest,k+1) ⟨g2,by dsimp only;omega⟩ (Nat.lt_succ_self _))
   ·repeat' (first
 | simp only [go_sem,hD,hJ,hP,hZ,xm]
 | (with_reducible refine CU (og _ _) ?_)
 | (with_reducible refine CU (yP _ _) ?_)
 | (with_reducible first | refine cm fun hc=> ?_ | refine cq fun hc=> ?_ | refine cr (fun hc=> ?_) fun hc=> ?_) <;> (try simp only [hc,bs, ↓reduceIte]at h) <;> try simp only [hc]
 | (with_reducible refine aJ hQ ?_;(try cases h);simp only [az,aB,cY,cZ,go_sem,hD,hJ,hP,hZ,xm];try exact iD)
 | (cases h;done))
    refine dG 0 0 (IH (rest,k+1) ⟨g2,by dsimp only;omega⟩ (Nat.lt_succ_self _))
def acs (s:aD):Int×Bool:=match Gb 0 s with | some n=>(n,true) | none=>(0,false)
end Go.Abs

/-! Lex2 -/

namespace Go.Abs
open Go.Proofs
def V6 (f:Int×Int):List D:= [.int .i64 f.1, .int .i64 f.2]
def SH (text:aD) (out:List me) (pos:Nat):Tm:= [(0, .str text),(3, .ptr 0 0),(4, .slice (.tok 0) 4 (out.map gy)),(5, .ptr 1 0),(6, .int .i64 (pos:Int))]
def SI (out:List me):St:=⟨[[.int .i64 0, .int .i64 0],[.junk, .junk, .junk, .junk]],[some out.length]⟩
attribute [go_sem] SH SI V6
end Go.Abs

/-! RefLex1 -/

namespace Go.Abs
open Go.Proofs
def WK (s:aD):Bool:=
 [103,108,111,98,97,108] == s || [112,114,111,99] == s || [118,97,114] == s || [114,101,102] == s || [105,102] == s || [101,108,115,101] == s || [119,104,105,108,101] == s || [98,114,101,97,107] == s || [99,111,110,116,105,110,117,101] == s || [114,101,116,117,114,110] == s || [103,111,116,111] == s || [114,101,97,100] == s || [112,114,105,110,116] == s
end Go.Abs

/-! Prs2 -/

namespace Go.Abs
open Go.Proofs
def OpR (p:Int×Int):Prop:=0≤p.2∧p.2≤6
end Go.Abs

/-! Ref1 -/

namespace Go.Abs
open Go.Proofs
@[go_sem] def adL (z:D) (r:Rd):List D:= [.slice .shared 4 (r.l.map gy), .int .i64 r.i, .int .i64 r.code, .int .i64 r.B2,z]
class Cell (z:D):Prop where
 ok:D.ok 0 0 z=true
 fg : ∀ n m,D.fg n m z=z
instance (n:Int):Cell (.int .i64 n):=⟨rfl,fun _ _=>rfl⟩
instance:Cell .junk:=⟨rfl,fun _ _=>rfl⟩
theorem N2 (z:D) [h:Cell z] (n m:Nat):D.fg n m z=z:=h.fg n m
attribute [go_sem] N2
def Rd.isO (text:aD) (r:Rd):Option Bool:=if r.good then r.is text else some false
end Go.Abs

/-! Ref2 -/

namespace Go.Abs
open Go.Proofs
def Qw (s:aD):Int×Int:=
 if [42] == s then(6,5)else if [47] == s then(6,6)else if [37] == s then(6,7)else if [43] == s then(5,8)else if [45] == s then(5,9)
 else if [60] == s then(4,10)else if [60,61] == s then(4,11)else if [62] == s then(4,12)else if [62,61] == s then(4,13)
 else if [61,61] == s then(3,14)else if [33,61] == s then(3,15)else if [38,38] == s then(2,16)else if [124,124] == s then(1,17)else(0,0)
def BZ (p:Int×Int):Prop:=(p.2==0)=(p.1==0)
end Go.Abs

/-! Ref3 -/

namespace Go.Abs
open Go.Proofs
end Go.Abs

/-! RefMay1 -/

namespace Go.Abs
open Go.Proofs
end Go.Abs

/-! RefMay2 -/

namespace Go.Abs
open Go.Proofs
structure Sm.py (s:Sm):Prop where
 lab : ∀ t∈s.labels,t.length<4611686018427387904
 V7:s.labels.length<4611686018427387904
 name:s.name.length<4611686018427387904
 proc:s.proc.length<4611686018427387904
 x:s.x.size<4611686018427387904
 xt:s.x.texts
 V8:s.args.length<4611686018427387904
 arg : ∀ a∈s.args,a.x.size<4611686018427387904∧a.x.texts∧a.name.length<4611686018427387904
section
variable {v:Sm} {B:fw} {Q:Exit→Tm→St→Prop} {p:Bool}
end
theorem aI.goS {P:Program} {f:FuncId} {nt:Nat} {res:List (Nat×Option (Bool×Nat))} {body:AC} {args:List D} {s:St} {d:D} {s':St} (h0:Has P f nt res body) (hl:Nat.ble args.length nt=true)
 (h : ∀ (B:fw) (Q:Exit→Tm→St→Prop),B.s=s→n6 s.av.length s.aw.length res d s'=Q→Sem P B nt body Q (k9 0 args) s):aI P f args s d s':=by
 obtain⟨fn,hf,hc⟩:=h0
 exact aI.intro ⟨fn,hf,hc⟩ (Nat.le_of_ble_eq_true hl) fun B hB=>h B _ hB rfl
end Go.Abs

/-! Flat1 -/

namespace Go.Abs
set_option maxRecDepth 8000
open Go.Proofs
def ey (i:Im):List D:= [.int .i64 i.s.id, .int .i64 i.s.kind, .slice .shared 1 (i.s.labels.map encStr), .str i.s.name, .str i.s.proc,
 .int .i64 i.s.x.op, .int .i64 i.s.x.n, .str i.s.x.name, .slice .shared 4 (i.s.x.kids.map bx), .bool i.s.has, .slice .shared 6 (i.s.args.map dh), .slice .shared 13 (i.s.aY.map a7), .slice .shared 13 (i.s.aM.map a7), .int .i64 i.proc, .int .i64 i.up, .int .i64 i.next, .int .i64 i.loop]
def fB (n:Int):List D:= [.int .i64 n]
theorem K0 (i:Im):D.bI 0 0 (ey i)=true:=by simp [ey,D.bI,D.ok,Tag.ok,fc,MB,A0,nh]
theorem A2 (l:List Im):D.ig 0 0 (l.map ey)=true:=fy K0 l
theorem MK (n m:Nat) (l:List Im):D.ie n m (l.map ey)=l.map ey:=jZ K0 n m l
theorem SJ (n m:Nat) (i:Im):D.fA n m (ey i)=ey i:=fH n m _ (K0 i)
theorem SK (x:Im):(ey x).length=17:=nd rfl
theorem N3 (x:Im):List.take 17 (ey x)=ey x:=nd rfl
theorem Qx (x:Im):List.drop 17 (ey x) = []:=nd rfl
theorem Qy (x:Im):List.take 13 (ey x)=a7 x.s:=by simp only [ey,bJ];rfl
theorem K1 (x:Im):(ey x)[0]? = some (.int .i64 x.s.id):=nd rfl
theorem K3 (x:Im):(ey x)[1]? = some (.int .i64 x.s.kind):=nd rfl
theorem K4 (x:Im):(ey x)[4]? = some (.str x.s.proc):=nd rfl
theorem Ib (x:Im):(ey x)[13]? = some (.int .i64 x.proc):=nd rfl
theorem Ic (x:Im):(ey x)[14]? = some (.int .i64 x.up):=nd rfl
theorem Ie (x:Im):(ey x)[15]? = some (.int .i64 x.next):=nd rfl
theorem Ig (x:Im):(ey x)[16]? = some (.int .i64 x.loop):=nd rfl
theorem Gd (s:Sm) (a b c d:Int):ey ⟨s,a,b,c,d⟩ = [.int .i64 s.id, .int .i64 s.kind, .slice .shared 1 (s.labels.map encStr), .str s.name, .str s.proc,
 .int .i64 s.x.op, .int .i64 s.x.n, .str s.x.name, .slice .shared 4 (s.x.kids.map bx), .bool s.has, .slice .shared 6 (s.args.map dh), .slice .shared 13 (s.aY.map a7), .slice .shared 13 (s.aM.map a7), .int .i64 a, .int .i64 b, .int .i64 c, .int .i64 d]:=nd rfl
theorem MM (n:Int):D.bI 0 0 (fB n)=true:=rfl
theorem ql (l:List Int):D.ig 0 0 (l.map fB)=true:=fy MM l
theorem Ih (n m:Nat) (l:List Int):D.ie n m (l.map fB)=l.map fB:=jZ MM n m l
attribute [go_sem] MK SJ SK N3 Qx Qy K1 K3 K4 Ib Ic Ie Ig Ih fB
theorem Qz : ∀ n,n<1000000000→∀ v:Sm,v.size≤n→aI Try.prog jH [.agg (a7 v)] S0 (.int .i64 (v.gI:Int)) S0:=by
 intro n
 induction n with
 | zero=>intro _ v h;obtain⟨_,_,_,_,_,_,_,_,_,_⟩:=v;simp only [Sm.size]at h;omega
 | succ n ih=>
 intro hn v hv
 have dC:Sm.aO v.aY≤n∧Sm.aO v.aM≤n∧v.gI=1+Sm.gm v.aY+Sm.gm v.aM:=by
  obtain⟨_,_,_,_,_,_,_,_,_,_⟩:=v
  simp only [Sm.size]at hv;exact⟨by dsimp only;omega,by dsimp only;omega,rfl⟩
 obtain⟨h1,h2,h3⟩:=dC
 have c1:=lA v.aY
 have c2:=lA v.aM
 have l1:=Sm.cH v.aY
 have l2:=Sm.cH v.aM
 have hk : ∀ y,y∈v.aY∨y∈v.aM→∀ s,aI Try.prog jH [.agg (a7 y)] s (.int .i64 (y.gI:Int)) s:=fun y hy s=>
  (ih (by omega) y (by rcases hy with hy | hy <;> (have:=Sm.bW hy;omega))).pure (by simp only [D.bI,D.ok,kq];rfl) rfl s
 rw [h3]
 unfold S0
 refine aI.go AG rfl fun B Q hB hQ=> ?_
 have⟨hD,hJ,hP,hZ⟩:=b7
 repeat' (first
 | simp only [go_sem,hD,hJ,hP,hZ]
 | (with_reducible refine aJ hQ ?_;simp only [az,aB,Option.some.injEq,exists_eq_left',go_sem,hD,hJ,hP,hZ];repeat' (first | exact Ok.out | with_reducible refine aR ?_ ?_ | (simp;done))))
 refine dG 1 0 (bq.ind (ι:=List Sm×Nat×Nat) (fun i=>v.aY.drop i.2.1=i.1∧i.2.2+Sm.gm i.1=1+Sm.gm v.aY) (fun i=>i.1.length)
  (fun i=> [(1, .ptr 0 0),(3, .int .i64 (i.2.2:Int)),(9, .slice .shared 13 (v.aY.map a7)),(10, .int .i64 (v.aY.length:Int)),(11, .int .i64 (i.2.1:Int))]) (fun i=>⟨[a7 v],[]⟩) ?_ (v.aY,0,1) ⟨rfl,rfl⟩)
 rintro⟨rest,k,c⟩ ⟨g1,g2⟩ IH
 dsimp only at g1 g2
 cases rest with
 | cons y rest=>
  obtain⟨hJ,g3,hD,g4⟩:=drop_cons g1
  have hy:=hk y (.inl (List.mem_of_getElem? hJ))
  simp only [Sm.gm]at g2
  have Ii:=wB y
  have L1:=Sm.bW (List.mem_of_getElem? hJ)
  have w1:IntKind.wrap .i64 ((k:Int)+1)=((k+1:Nat):Int):=by rw [dk] <;> omega
  have w2:IntKind.wrap .i64 ((c:Int)+(y.gI:Int))=((c+y.gI:Nat):Int):=by rw [dk] <;> omega
  repeat' (first
 | simp only [go_sem,hD,hJ,hP,hZ,w1,w2]
 | (with_reducible refine CU (hy _) ?_)
 | (with_reducible refine aJ hQ ?_;simp only [az,aB,Option.some.injEq,exists_eq_left',go_sem,hD,hJ,hP,hZ];repeat' (first | exact Ok.out | with_reducible refine aR ?_ ?_ | (simp;done))))
  refine dG 1 0 (IH (rest,k+1,c+y.gI) ⟨g3,by dsimp only;omega⟩ (Nat.lt_succ_self _))
 | nil=>
  have hD:=drop_nil g1
  simp only [Sm.gm,Nat.add_zero]at g2
  subst g2
  repeat' (first
 | simp only [go_sem,hD,hJ,hP,hZ]
 | (with_reducible refine aJ hQ ?_;simp only [az,aB,Option.some.injEq,exists_eq_left',go_sem,hD,hJ,hP,hZ];repeat' (first | exact Ok.out | with_reducible refine aR ?_ ?_ | (simp;done))))
  refine dG 1 0 (bq.ind (ι:=List Sm×Nat×Nat) (fun i=>v.aM.drop i.2.1=i.1∧i.2.2+Sm.gm i.1=1+Sm.gm v.aY+Sm.gm v.aM) (fun i=>i.1.length)
   (fun i=> [(1, .ptr 0 0),(3, .int .i64 (i.2.2:Int)),(21, .slice .shared 13 (v.aM.map a7)),(22, .int .i64 (v.aM.length:Int)),(23, .int .i64 (i.2.1:Int))]) (fun i=>⟨[a7 v],[]⟩) ?_ (v.aM,0,1+Sm.gm v.aY) ⟨rfl,rfl⟩)
  rintro⟨rest,k,c⟩ ⟨g1,g2⟩ IH
  dsimp only at g1 g2
  cases rest with
  | cons y rest=>
   obtain⟨hJ,g3,hD,g4⟩:=drop_cons g1
   have hy:=hk y (.inr (List.mem_of_getElem? hJ))
   simp only [Sm.gm]at g2
   have Ii:=wB y
   have L1:=Sm.bW (List.mem_of_getElem? hJ)
   have w1:IntKind.wrap .i64 ((k:Int)+1)=((k+1:Nat):Int):=by rw [dk] <;> omega
   have w2:IntKind.wrap .i64 ((c:Int)+(y.gI:Int))=((c+y.gI:Nat):Int):=by rw [dk] <;> omega
   repeat' (first
 | simp only [go_sem,hD,hJ,hP,hZ,w1,w2]
 | (with_reducible refine CU (hy _) ?_)
 | (with_reducible refine aJ hQ ?_;simp only [az,aB,Option.some.injEq,exists_eq_left',go_sem,hD,hJ,hP,hZ];repeat' (first | exact Ok.out | with_reducible refine aR ?_ ?_ | (simp;done))))
   refine dG 1 0 (IH (rest,k+1,c+y.gI) ⟨g3,by dsimp only;omega⟩ (Nat.lt_succ_self _))
  | nil=>
   have hD:=drop_nil g1
   simp only [Sm.gm,Nat.add_zero]at g2
   subst g2
   repeat' (first
 | simp only [go_sem,hD,hJ,hP,hZ]
 | (with_reducible refine aJ hQ ?_;simp only [az,aB,Option.some.injEq,exists_eq_left',go_sem,hD,hJ,hP,hZ];repeat' (first | exact Ok.out | with_reducible refine aR ?_ ?_ | (simp;done))))
theorem QA {v:Sm} (h:v.size<1000000000) (s:St):aI Try.prog jH [.agg (a7 v)] s (.int .i64 (v.gI:Int)) s:=
 (Qz v.size h v (Nat.le_refl _)).pure (by simp only [D.bI,D.ok,kq];rfl) rfl s
end Go.Abs
